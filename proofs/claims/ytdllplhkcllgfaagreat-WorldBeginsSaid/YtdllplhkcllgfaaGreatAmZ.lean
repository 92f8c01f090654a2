/- THE ABSTRACT MACHINE IS SOUND. Nothing is assumed. -/
import Derived.Test.YtdllplhkcllgfaaGreatAmY
namespace Go.AM

variable {B : Nat → Prop} {w0 : World} {M M' : Mp} {h h' : H} {w w' : World} {P : Program} {ops : Array Oper} {Z : Nat → Prop}
variable {a a' : AFrame} {f f' : Frame} {as : List AFrame} {fs : List Frame} {T : Nat → Prop} {k : List AItem} {k' : List Item} {c' : Cfg}

/-! Codes. -/

theorem exit_rel {id : Nat} : ∀ {k : List AItem} {k' : List Item}, All2 (ItemRel M) k k' → match exitToA id k with
    | some r => ∃ r', exitTo id k' = some r' ∧ All2 (ItemRel M) r r'
    | none => exitTo id k' = none
  | _, _, .nil => by simp [exitToA, exitTo]
  | _, _, .cons (a := x) (b := y) (as := xs) (bs := ys) r rs => by
    have ih := exit_rel (id := id) rs
    cases r with
    | inBlock id' =>
      simp only [exitToA, exitTo]
      by_cases he : id' = id
      · subst he
        simp; exact rs
      · have h1 : Nat.beq id' id = false := by
          cases hb : Nat.beq id' id with
          | false => rfl
          | true => exact absurd (Nat.eq_of_beq_eq_true hb) he
        have h2 : (id' == id) = false := by simpa using he
        simp only [h1, h2]
        simpa using ih
    | _ => simpa [exitToA, exitTo] using ih

theorem begin_sound (hF : FsRel P M h as fs T) (hr : HRel B w0 M h w) (hp : PlainFrame M a f) (hret : a.ret = false) (ht : a.todo = .beginRound :: k) (e : beginRoundA a as h k = some c') : Goes B w0 P M f fs w c' := by
  have hm := plain_mode hp hret
  obtain ⟨it', k', htd, hit, hk⟩ := plain_cons hp ht
  cases hit
  unfold beginRoundA at e
  have hro := hp.base.round
  split at e
  case h_2 => cases e
  rename_i l hl
  rw [hl] at hro
  obtain ⟨q, hq, hro⟩ := hro
  split at e
  case h_2 => cases e
  rename_i st pe fn tmps n params assign body d hlo
  split at e
  case h_2 => cases e
  obtain ⟨ob, ho, c, dq, hdq, htm, rfl⟩ := hr.obj l _ q hlo hq
  have hg := run_getObj (P := P) ho (by intros; simp)
  have hset := fun o => run_setObj (P := P) (o' := o) ho (by intros; simp)
  have hr' := hr.putObj hlo hq (o' := .loop .busy pe fn tmps n params assign body d) (ob' := .loop { state := .busy, pending := pe, fn, tmps := c, params, assign, body, defers := dq.blk }) ⟨c, dq, hdq, htm, rfl⟩
  rw [to_eq] at e
  injection e with e; subst e
  refine goes_plain hF .put hr' (plain_set hp hk) fun cs => step_lone_go ?_
  obtain ⟨fn', tmps', todo', defers', mode', kind', ro'⟩ := f
  simp only at htd hm hro
  subst htd hm hro
  simp [stepG, stepG.exec, stepG.apply, Instr.beginRound, Instr.getLoop, hg, hset, Frame.finish]

theorem pend_items (pe : Option Code) (hk : All2 (ItemRel M) k k') : All2 (ItemRel M) (match pe with | some c => AItem.code c :: k | none => k) ((pe.map Item.code).toList ++ k') := by
  cases pe with
  | none => exact hk
  | some c => exact .cons (.code c) hk

theorem endRange_sound (hF : FsRel P M h as fs T) (hr : HRel B w0 M h w) (hp : PlainFrame M a f) (hret : a.ret = false) {l : Nat} (ht : a.todo = .endRangeFunc l :: k) (e : endRangeA a as h k l = some c') : Goes B w0 P M f fs w c' := by
  have hm := plain_mode hp hret
  obtain ⟨it', k', htd, hit, hk⟩ := plain_cons hp ht
  cases hit with
  | endRangeFunc hq =>
    rename_i q
    unfold endRangeA at e
    split at e
    case h_2 => cases e
    rename_i st pe fn tmps n params assign body d hlo
    split at e
    case h_1 => cases e
    rename_i hst
    obtain ⟨ob, ho, c, dq, hdq, htm, rfl⟩ := hr.obj l _ q hlo hq
    have hg := run_getObj (P := P) ho (by intros; simp)
    have hset := fun o => run_setObj (P := P) (o' := o) ho (by intros; simp)
    have hr' := hr.putObj hlo hq (o' := .loop .exhausted pe fn tmps n params assign body d) (ob' := .loop { state := .exhausted, pending := pe, fn, tmps := c, params, assign, body, defers := dq.blk }) ⟨c, dq, hdq, htm, rfl⟩
    have hnb : ¬ (st = LoopState.busy) := hst
    have hend : (Instr.endLoop q.blk).run P w = .ok pe { w with heap := w.heap.setIfInBounds q.blk (.loop { state := .exhausted, pending := pe, fn, tmps := c, params, assign, body, defers := dq.blk }) } := by
      simp [Instr.endLoop, Instr.getLoop, hg, hset, hnb]
    rw [to_eq] at e
    injection e with e; subst e
    refine goes_plain hF .put hr' (plain_set hp (pend_items pe hk)) fun cs => step_lone_go ?_
    obtain ⟨fn', tmps', todo', defers', mode', kind', ro'⟩ := f
    simp only at htd hm
    subst htd hm
    simp [stepG, stepG.exec, Sem.runT_eq, hend, GStep.bare_after]

end Go.AM
namespace Go.AM

variable {B : Nat → Prop} {w0 : World} {M M' : Mp} {h h' : H} {w w' : World} {P : Program} {ops : Array Oper} {Z : Nat → Prop}
variable {a a' : AFrame} {f f' : Frame} {as : List AFrame} {fs : List Frame} {T : Nat → Prop} {k : List AItem} {k' : List Item} {c' : Cfg}

theorem code_sound {X : Ext} (hX : XOk P X) (hmix : P.follows .mixedOrders = true) {c : Code} (hF : FsRel P M h as fs T) (hr : HRel B w0 M h w) (hp : PlainFrame M a f) (hret : a.ret = false)
    (ht : a.todo = .code c :: k) (e : codeA P X a as h k c = some c') : Goes B w0 P M f fs w c' := by
  have hm := plain_mode hp hret
  obtain ⟨it', k', htd, hit, hk⟩ := plain_cons hp ht
  cases hit
  have hsplit : ∀ {td' : List Item}, (∀ (fn : FuncId) (tmps : Array Value) (defers : List Deferred) (kind : CallKind) (ro : Option Nat) (cs : List Frame), f = ⟨fn, tmps, .code c :: k', defers, .run, kind, ro⟩ →
      (stepG P true { frame := ⟨fn, tmps, .code c :: k', defers, .run, kind, ro⟩, callers := cs, status := .running, dying := none } w).bare = .go { frame := ⟨fn, tmps, td', defers, .run, kind, ro⟩, callers := cs, status := .running, dying := none } w) →
      ∀ cs, step P (lone f cs w) = .next (lone { f with todo := td' } cs w) := by
    intro td' hx cs
    obtain ⟨fn', tmps', todo', defers', mode', kind', ro'⟩ := f
    simp only at htd hm
    subst htd hm
    exact step_lone_go (hx _ _ _ _ _ _ rfl)
  cases c with
  | ret => exact leave_sound hF hr hp hret (.inr (.inl ⟨k', htd, rfl⟩)) e
  | skip => exact goes_to hF hr hp hk (hsplit (by intros; simp [stepG, stepG.exec])) e
  | label l => exact goes_to hF hr hp hk (hsplit (by intros; simp [stepG, stepG.exec])) e
  | seq x y => exact goes_to hF hr hp (.cons (.code _) (.cons (.code _) hk)) (hsplit (by intros; simp [stepG, stepG.exec])) e
  | block id x => exact goes_to hF hr hp (.cons (.code _) (.cons (.inBlock _) hk)) (hsplit (by intros; simp [stepG, stepG.exec])) e
  | loop x => exact goes_to hF hr hp (.cons (.code _) (.cons (.inLoop _) hk)) (hsplit (by intros; simp [stepG, stepG.exec])) e
  | scope x => exact goes_to hF hr hp (.cons (.code _) (.cons (.inScope _) hk)) (hsplit (by intros; simp [stepG, stepG.exec])) e
  | goto l => simp [codeA] at e
  | refuse r => simp [codeA] at e
  | rangeFunc fo ps x y => exact range_sound hX hF hr hp hret ht e
  | exit id =>
    simp only [codeA] at e
    have hx := exit_rel (id := id) hk
    cases hA : exitToA id k with
    | some r =>
      rw [hA] at e hx
      obtain ⟨r', h1, h2⟩ := hx
      exact goes_to hF hr hp h2 (hsplit (by intros; simp [stepG, stepG.exec, h1])) e
    | none =>
      rw [hA] at e hx
      exact leave_sound hF hr hp hret (.inr (.inr ⟨id, k', htd, hx, rfl⟩)) e
  | cond o x y =>
    simp only [codeA] at e
    split at e
    case h_2 => cases e
    rename_i z hz
    have hcond : ∃ b, f.eval o = .bool b ∧ z = if b then x else y := by
      unfold condA at hz
      split at hz
      · rename_i he
        injection hz with hz
        have := evalA_rel (eval_frame f) (xs := #[o]) (fun t _ => hp.tmps.2 t) o (by simp) _ he
        exact ⟨true, tr_bool this, by simp [hz]⟩
      · rename_i he
        injection hz with hz
        have := evalA_rel (eval_frame f) (xs := #[o]) (fun t _ => hp.tmps.2 t) o (by simp) _ he
        exact ⟨false, tr_bool this, by simp [hz]⟩
      · cases hz
    obtain ⟨b, h1, rfl⟩ := hcond
    refine goes_to hF hr hp (.cons (.code _) hk) (hsplit ?_) e
    intro fn tmps defers kind ro cs hf
    rw [hf] at h1
    simp [stepG, stepG.exec, h1]
  | region id ops draw =>
    simp only [codeA] at e
    cases draw with
    | false => exact goes_to hF hr hp (.cons (.inRegion _ _) hk) (hsplit (by intros; simp [stepG, stepG.exec])) e
    | true =>
      simp only at e
      split at e
      case h_2 => cases e
      rename_i hok
      rw [to_eq] at e
      injection e with e; subst e
      have hdo := drawnOk_spec hok
      obtain ⟨hst, hall⟩ := any_order hdo (w.tape w.drawn (.order f.fn id))
      have hz : ∀ i, oldAt P ops [] i = false := fun i => by simp [oldAt, oldA, nth]
      have hp1 : ∀ t j, pend1 P ops (oldAt P ops []) t j = none := fun t j => by simp [pend1, hz]
      refine ⟨M, { f with todo := .inRegion ops (Region.linearise .any ops (w.tape w.drawn (.order f.fn id))) :: k' }, fs, { w with drawn := w.drawn + 1 }, fun cs => .one (step_lone_go ?_),
        ⟨hr.drew _, _, .cons (.batch rfl ⟨⟨hp.base.fn, hp.base.mode, hp.base.kind, hp.base.round, hp.base.defers⟩, hret, rfl, hk, hst, ⟨hp.tmps.1, fun s => .inr (hp.tmps.2 s)⟩,
          ⟨fun j _ b hb => (by rw [hp1] at hb; cases hb), fun i _ j _ b hb => (by rw [hp1] at hb; cases hb)⟩⟩ (fun i o ho hi => absurd (hall i (Array.getElem?_eq_some_iff.1 ho).1) hi)) hF⟩, .refl M⟩
      obtain ⟨fn', tmps', todo', defers', mode', kind', ro'⟩ := f
      simp only at htd hm
      subst htd hm
      simp [stepG, stepG.exec, choose, Sem.run, Question.forced, Question.cut, hmix, Region.schedule]

end Go.AM
namespace Go.AM

variable {B : Nat → Prop} {w0 : World} {M M' : Mp} {h h' : H} {w w' : World} {P : Program} {ops : Array Oper} {Z : Nat → Prop}
variable {a a' : AFrame} {f f' : Frame} {as : List AFrame} {fs : List Frame} {T : Nat → Prop} {k : List AItem} {k' : List Item} {c' : Cfg}

/-! Batches. -/

theorem old_elig (hl : Low ops) {done : List Nat} {i : Nat} (h : oldAt P ops done i = true) : eligAt P ops done i = true := by
  cases done with
  | nil => simp [oldAt, oldA, nth] at h
  | cons d ds => exact elig_mono hl (fun x hx => by simp [hx]) i h

theorem batch_sound {chain done rest : List Nat} (hF : FsRel P M h as fs T) (hr : HRel B w0 M h w) (ht : a.todo = .batch ops chain done :: k) (ho : OpenFrame P M h T a f ops chain done rest (oldAt P ops done) k k')
    (hx : ∀ (i : Nat) (o : Oper), ops[i]? = some o → i ∉ rest → actsA P o.op = false → oldAt P ops done i = true) (e : batch1A P a as h k ops chain done = some c') : Goes B w0 P M f fs w c' := by
  have hm : f.mode = .run := by rw [ho.base.mode, ho.run]; rfl
  obtain ⟨fn, n, tmps, todo, defers, ret, kind, round⟩ := a
  simp only [batch1A] at e
  split at e
  case h_2 => cases e
  rename_i t h1 hb
  injection e with e; subst e
  unfold batch at hb
  split at hb
  case h_2 => cases hb
  rename_i t' h1' hbA
  split at hb
  case h_2 => cases hb
  rename_i hval
  injection hb with hb; injection hb with e1 e2; subst e1 e2
  have hl := ho.stand.ok.low
  have hfalse : ∀ i, (nth (oldA P ops done) i).getD false = false → eligAt P ops done i = true → i ∈ rest := by
    intro i h1 h2
    obtain ⟨o, ho', ha, _⟩ := (elig_iff hl).1 h2
    refine Decidable.byContradiction fun hi => ?_
    have := hx i o ho' hi ha
    rw [oldAt, h1] at this; cases this
  have inv0 : BatchInv B w0 M w T P ops (oldAt P ops done) (eligAt P ops done) rest n f.tmps tmps h :=
    ⟨hr, ⟨ho.slots.1, fun s => (ho.slots.2 s).imp (fun ⟨j, h1, h2, h3⟩ => ⟨j, h1, old_elig hl h2, h3⟩) id⟩, ho.pend⟩
  have hnd : (trueAt (eligs P ops done)).Nodup := by
    unfold trueAt
    have h1 : ((eligs P ops done).zipIdx.map (·.2)).Nodup := by
      rw [List.zipIdx_map_snd]
      exact List.nodup_range'
    exact h1.sublist (List.filter_sublist.map _)
  obtain ⟨inv1, hn⟩ := batchA_inv ho.stand.ok hfalse (trueAt (eligs P ops done)) (oldAt P ops done) tmps h t' h1' hnd (fun i hi => mem_trueAt.1 hi) (fun i _ h1 => h1) (fun i h1 => h1) (fun b hb => (hF.free hb).1) inv0 hbA
  have inv2 : BatchInv B w0 M w T P ops (eligAt P ops done) (eligAt P ops done) rest n f.tmps t' h1' := inv1.congr fun j => by
    cases hE : eligAt P ops done j with
    | true =>
      have : j ∈ trueAt (eligs P ops done) := mem_trueAt.2 hE
      simp [this]
    | false =>
      have h1 : j ∉ trueAt (eligs P ops done) := fun h => by have := mem_trueAt.1 h; rw [eligAt, this] at hE; cases hE
      have h2 : oldAt P ops done j = false := by
        cases ho : oldAt P ops done j with
        | false => rfl
        | true => rw [old_elig hl ho] at hE; cases hE
      simp [h1, h2]
  rw [List.all_eq_true] at hval
  obtain ⟨M2, c2, w2, rest', g1, g2, g3, g4, g5, g6, g7, g8⟩ := read_all (k := k') rest M w f ho.stand inv2.heap inv2.slots inv2.pend (fun i hi hE => by
    have := hval i (mem_trueAt.2 hE)
    rw [Bool.or_eq_true] at this
    rcases this with h1 | h1
    · exact absurd hi (ho.stand.sure_out h1)
    · exact h1) hm ho.todo
  have hb2 := ho.base.mono g2.gr
  have hF2 := hF.mono g2.gr hn (fun b hb h1 => g7 b h1 hb)
  have hof : OpenFrame P M2 h1' T ⟨fn, n, t', .inDrawn ops chain done :: k, defers, ret, kind, round⟩ { f with tmps := c2, todo := .inRegion ops rest' :: k' } ops chain done rest' (eligAt P ops done) k k' :=
    ⟨⟨hb2.fn, hb2.mode, hb2.kind, hb2.round, hb2.defers⟩, ho.run, rfl, ho.tail.imp fun _ _ => ItemRel.mono g2.gr, g6, g4, g5⟩
  have hfr : ∃ S, FrRel P M2 h1' T ⟨fn, n, t', .inDrawn ops chain done :: k, defers, ret, kind, round⟩ { f with tmps := c2, todo := .inRegion ops rest' :: k' } S := by
    rcases g8 with h8 | ⟨i, c, post, h8, h9⟩
    · have : chain = [] := by
        cases chain with
        | nil => rfl
        | cons x xs => have := g6.inn x (by simp); rw [h8] at this; cases this
      subst this h8
      exact ⟨_, .ended rfl hof⟩
    · subst h8 h9
      exact ⟨_, .drawn rfl hof⟩
  obtain ⟨S, hfr⟩ := hfr
  exact ⟨M2, _, fs, w2, fun cs => g1 _, ⟨g3, _, .cons hfr hF2⟩, g2⟩

end Go.AM
namespace Go.AM

variable {B : Nat → Prop} {w0 : World} {M M' : Mp} {h h' : H} {w w' : World} {P : Program} {ops : Array Oper} {Z : Nat → Prop}
variable {a a' : AFrame} {f f' : Frame} {as : List AFrame} {fs : List Frame} {T : Nat → Prop} {k : List AItem} {k' : List Item} {c' : Cfg}

/-! Steps. -/

theorem step_sound {X : Ext} (hX : XOk P X) (hmix : P.follows .mixedOrders = true) {c c' : Cfg} (hC : CRel B w0 P M c (f :: fs) w) (e : stepA P X c = some c') : Goes B w0 P M f fs w c' := by
  obtain ⟨frames, hp⟩ := c
  obtain ⟨hr, T0, hF0⟩ := hC
  cases frames with
  | nil => cases hF0
  | cons a as =>
    obtain ⟨f2, fs2, S, T, heq, hf, hF⟩ := hF0.inv
    injection heq with e1 e2; subst e1 e2
    simp only at hf hF hr
    simp only [stepA, frameA] at e
    cases hf with
    | plain hpf =>
      cases hret : a.ret with
      | true => rw [hret] at e; exact ret_sound hX hF hr hpf hret e
      | false =>
        rw [hret] at e
        simp only at e
        have hm := plain_mode hpf hret
        cases htd : a.todo with
        | nil =>
          rw [htd] at e
          have h1 := hpf.todo
          rw [htd] at h1
          exact leave_sound hF hr hpf hret (.inl ⟨h1.nil_inv, rfl⟩) e
        | cons it k =>
          rw [htd] at e
          simp only at e
          obtain ⟨it', k', htd', hit, hk⟩ := plain_cons hpf htd
          have hsplit : ∀ {td' : List Item}, (∀ (fn : FuncId) (tmps : Array Value) (defers : List Deferred) (kind : CallKind) (ro : Option Nat) (cs : List Frame),
              (stepG P true { frame := ⟨fn, tmps, it' :: k', defers, .run, kind, ro⟩, callers := cs, status := .running, dying := none } w).bare = .go { frame := ⟨fn, tmps, td', defers, .run, kind, ro⟩, callers := cs, status := .running, dying := none } w) →
              ∀ cs, step P (lone f cs w) = .next (lone { f with todo := td' } cs w) := by
            intro td' hx cs
            obtain ⟨fn', tmps', todo', defers', mode', kind', ro'⟩ := f
            simp only at htd' hm
            subst htd' hm
            exact step_lone_go (hx _ _ _ _ _ _)
          cases hit with
          | code c => exact code_sound hX hmix hF hr hpf hret htd e
          | inBlock id => exact goes_to hF hr hpf hk (hsplit (by intros; simp [stepG, stepG.exec])) e
          | inScope c => exact goes_to hF hr hpf hk (hsplit (by intros; simp [stepG, stepG.exec])) e
          | inLoop c => exact goes_to hF hr hpf (.cons (.code _) (.cons (.inLoop _) hk)) (hsplit (by intros; simp [stepG, stepG.exec])) e
          | inRangeFunc hq => simp [itemA] at e
          | beginRound => exact begin_sound hF hr hpf hret htd e
          | endRangeFunc hq => exact endRange_sound hF hr hpf hret htd e
          | inRegion ops l =>
            cases l with
            | nil => exact goes_to hF hr hpf hk (hsplit (by intros; simp [stepG, stepG.exec])) e
            | cons i rest =>
              simp only [itemA] at e
              exact runOp_sound hX hF hr (.plain hpf) hpf.base hret htd' (fun _ _ t _ => hpf.tmps.2 t) e
    | batch ht ho hx =>
      rw [ho.run, ht] at e
      exact batch_sound hF hr ht ho hx e
    | drawn ht ho =>
      rw [ho.run, ht] at e
      simp only [itemA] at e
      refine runOp_sound hX hF hr (.drawn ht ho) ho.base ho.run ho.todo (fun o hoi t htl => ?_) e
      rcases ho.slots.2 t with ⟨j, hj, hE, hd⟩ | h1
      · exact absurd hd (ho.stand.head_looks hoi htl hj hE)
      · exact h1
    | ended ht ho =>
      rw [ho.run, ht] at e
      simp only [itemA] at e
      split at e
      case h_2 => cases e
      have hm : f.mode = .run := by rw [ho.base.mode, ho.run]; rfl
      have htd' := ho.todo
      have hp1 : PlainFrame M { a with todo := [] } { f with todo := [] } := ⟨⟨ho.base.fn, ho.base.mode, ho.base.kind, ho.base.round, ho.base.defers⟩, .nil, ⟨ho.slots.1, fun s => by
        rcases ho.slots.2 s with ⟨j, hj, _⟩ | h1
        · cases hj
        · exact h1⟩⟩
      rw [to_eq] at e
      injection e with e; subst e
      have hp2 := plain_set hp1 ho.tail
      refine goes_plain hF (.refl _ _) hr hp2 fun cs => step_lone_go ?_
      obtain ⟨fn', tmps', todo', defers', mode', kind', ro'⟩ := f
      simp only at htd' hm
      subst htd' hm
      simp [stepG, stepG.exec]

/-- A RUN. -/
theorem run_sound {X : Ext} (hX : XOk P X) (hmix : P.follows .mixedOrders = true) {c' : Cfg} : ∀ (n : Nat) (c : Cfg) (M : Mp) (f : Frame) (fs : List Frame) (w : World), CRel B w0 P M c (f :: fs) w → runA P X n c = some c' →
    ∃ M' f' fs' w', (∀ cs, Steps P (lone f (fs ++ cs) w) (lone f' (fs' ++ cs) w')) ∧ CRel B w0 P M' c' (f' :: fs') w' ∧ M.Le M' ∧ doneA c' = true
  | 0, c, M, f, fs, w, hC, e => by
    simp only [runA] at e
    split at e
    · rename_i hd
      injection e with e; subst e
      exact ⟨M, f, fs, w, fun _ => .refl _ _, hC, .refl M, hd⟩
    · cases e
  | n + 1, c, M, f, fs, w, hC, e => by
    simp only [runA] at e
    split at e
    · rename_i hd
      injection e with e; subst e
      exact ⟨M, f, fs, w, fun _ => .refl _ _, hC, .refl M, hd⟩
    · split at e
      case h_2 => cases e
      rename_i c1 h1
      obtain ⟨M1, f1, fs1, w1, g1, g2, g3⟩ := step_sound hX hmix hC h1
      obtain ⟨M2, f2, fs2, w2, k1, k2, k3, k4⟩ := run_sound hX hmix n c1 M1 f1 fs1 w1 g2 e
      exact ⟨M2, f2, fs2, w2, fun cs => (g1 cs).trans (k1 cs), k2, g3.trans k3, k4⟩

/-- What the call answers, when the first frame is about to give its results. -/
def answerA (P : Program) (g : FuncId) : Cfg → Option AV
  | ⟨[fr], h⟩ => match fr.kind with
    | .normal => match Nat.beq fr.fn g with
      | true => resultsA P h fr
      | false => none
    | _ => none
  | _ => none

/-- A CALL: what the abstract machine answers is what the call answers. -/
theorem calls_sound {X : Ext} (hX : XOk P X) (hmix : P.follows .mixedOrders = true) {g : FuncId} {args : List AV} {xs : List Value} {fr : AFrame} {n : Nat} {c' : Cfg} {v : AV}
    (hr : HRel B w0 M h w) (ha : AV.trs M args = some xs) (he : enterA P g args .normal = some fr) (hrun : runA P X n ⟨[fr], h⟩ = some c') (hv : answerA P g c' = some v) {R : Ending → World → Prop}
    (hR : ∀ M' x w', M.Le M' → HRel B w0 M' c'.heap w' → v.tr M' = some x → R (.returned x) w') : Calls P g xs.toArray w R := by
  intro cs
  obtain ⟨hpe, _⟩ := enter_sound he ha
  have hC : CRel B w0 P M ⟨[fr], h⟩ [Frame.enter P g xs.toArray .normal] w := ⟨hr, _, .cons (.plain hpe) .nil⟩
  obtain ⟨M', f', fs', w', h1, h2, h3, h4⟩ := run_sound hX hmix n _ M _ [] w hC hrun
  obtain ⟨frames, hp⟩ := c'
  unfold answerA at hv
  split at hv
  case h_2 => cases hv
  rename_i a hp' heq
  injection heq with e1 e2; subst e1 e2
  split at hv
  case h_2 => cases hv
  rename_i hk
  split at hv
  case h_2 => cases hv
  rename_i hfn
  obtain ⟨hr', T0, hF0⟩ := h2
  obtain ⟨f2, fs2, S, T, heq, hf, hF⟩ := hF0.inv
  injection heq with e1 e2; subst e1 e2
  cases hF
  simp only [doneA, Bool.and_eq_true] at h4
  have hpl : PlainFrame M' a f' := by
    cases hf with
    | plain hp => exact hp
    | batch _ ho _ => rw [ho.run] at h4; simp at h4
    | drawn _ ho => rw [ho.run] at h4; simp at h4
    | ended _ ho => rw [ho.run] at h4; simp at h4
  obtain ⟨fd, x, g1, g2, g3⟩ := results_sound hr' hpl hv
  refine ⟨.returned x, w', f', hR M' x w' h3 hr' g2, ?_, ?_, ?_, ?_, ?_, fd, g1, g3⟩
  · exact h1 cs
  · rw [hpl.base.fn]; exact Nat.eq_of_beq_eq_true hfn
  · rw [hpl.base.mode, h4.1]; rfl
  · have hd := hpl.base.defers
    have : a.defers = [] := by simpa using h4.2
    rw [this] at hd
    exact hd.nil_inv
  · rw [hpl.base.kind]; exact hk
end Go.AM
