/- Every step of the abstract machine is steps of the model's. Nothing is assumed. -/
import Derived.Test.YtdllplhkcllgfaaGreatAmV
namespace Go.AM

variable {B : Nat → Prop} {w0 : World} {M M' : Mp} {h h' : H} {w w' : World} {P : Program} {ops : Array Oper} {Z : Nat → Prop}

def Goes (B : Nat → Prop) (w0 : World) (P : Program) (M : Mp) (f : Frame) (fs : List Frame) (w : World) (c' : Cfg) : Prop :=
  ∃ M' f' fs' w', (∀ cs, Steps P (lone f (fs ++ cs) w) (lone f' (fs' ++ cs) w')) ∧ CRel B w0 P M' c' (f' :: fs') w' ∧ M.Le M'

variable {a a' : AFrame} {f f' : Frame} {as : List AFrame} {fs : List Frame} {T : Nat → Prop} {k : List AItem} {k' : List Item} {c' : Cfg}

theorem goes_plain (hF : FsRel P M h as fs T) (hl : Later h M h' M') (hr : HRel B w0 M' h' w') (hp : PlainFrame M' a' f') (hs : ∀ cs : List Frame, step P (lone f cs w) = .next (lone f' cs w')) :
    Goes B w0 P M f fs w ⟨a' :: as, h'⟩ :=
  ⟨M', f', fs, w', fun _ => .one (hs _), ⟨hr, _, .cons (.plain hp) (hF.later hl)⟩, hl.le⟩

theorem to_eq (fr : AFrame) (fs : List AFrame) (h : H) (todo : List AItem) : to fr fs h todo = some ⟨{ fr with todo := todo } :: fs, h⟩ := by cases fr; rfl

theorem plain_set (hp : PlainFrame M a f) (hk : All2 (ItemRel M) k k') : PlainFrame M { a with todo := k } { f with todo := k' } :=
  ⟨⟨hp.base.fn, hp.base.mode, hp.base.kind, hp.base.round, hp.base.defers⟩, hk, hp.tmps⟩

theorem plain_cons {it : AItem} (hp : PlainFrame M a f) (ht : a.todo = it :: k) : ∃ it' k', f.todo = it' :: k' ∧ ItemRel M it it' ∧ All2 (ItemRel M) k k' := by
  have h1 := hp.todo
  rw [ht] at h1
  generalize f.todo = td at h1
  cases h1 with
  | cons r rs => exact ⟨_, _, rfl, r, rs⟩

theorem plain_mode (hp : PlainFrame M a f) (hr : a.ret = false) : f.mode = .run := by rw [hp.base.mode, hr]; rfl

theorem goes_to {td : List AItem} {td' : List Item} (hF : FsRel P M h as fs T) (hr : HRel B w0 M h w) (hp : PlainFrame M a f) (hk : All2 (ItemRel M) td td')
    (hs : ∀ cs, step P (lone f cs w) = .next (lone { f with todo := td' } cs w)) (e : to a as h td = some c') : Goes B w0 P M f fs w c' := by
  rw [to_eq] at e
  injection e with e; subst e
  exact goes_plain hF (.refl _ _) hr (plain_set hp hk) hs

/-! Values are given to the frame below. -/

theorem FsRel.inv {c : AFrame} {rest : List AFrame} (hF : FsRel P M h (c :: rest) fs T) : ∃ f fs' S T', fs = f :: fs' ∧ FrRel P M h T' c f S ∧ FsRel P M h rest fs' T' := by
  cases hF with
  | cons hf hF => exact ⟨_, _, _, _, rfl, hf, hF⟩

theorem give_sound {kind : CallKind} {v : AV} {x : Value} (hF : FsRel P M h as fs T) (hr : HRel B w0 M h w) (hx : v.tr M = some x) (e : giveA kind v as h = some c') :
    (kind = .normal ∧ ∃ c rest, fs = c :: rest ∧ CRel B w0 P M c' (c.finish x :: rest) w) ∨ (kind = .deferred ∧ ∃ c rest, fs = c :: rest ∧ c.mode = .returning ∧ CRel B w0 P M c' (c :: rest) w) := by
  unfold giveA at e
  split at e
  · cases e
  · rename_i c rest
    obtain ⟨f, fs', S, T', rfl, hf, hF⟩ := hF.inv
    split at e
    · left
      refine ⟨rfl, f, fs', rfl, ?_⟩
      unfold one at e
      split at e
      · rename_i fr hfr
        injection e with e; subst e
        obtain ⟨S', h1⟩ := finish_sound hf hfr hx
        exact ⟨hr, _, .cons h1 hF⟩
      · cases e
    · right
      split at e
      · rename_i hret
        injection e with e; subst e
        refine ⟨rfl, f, fs', rfl, ?_, ⟨hr, _, .cons hf hF⟩⟩
        cases hf with
        | plain hp => rw [hp.base.mode, hret]; rfl
        | batch _ ho _ => rw [ho.run] at hret; cases hret
        | drawn _ ho => rw [ho.run] at hret; cases hret
        | ended _ ho => rw [ho.run] at hret; cases hret
      · cases e
    · cases e

/-- What doReturn does where a frame lies below. -/
theorem doReturn_normal {fr c : Frame} {rest : List Frame} {v : Value} (hk : fr.kind = .normal) : doReturn P true fr (c :: rest) none v w = .go { frame := c.finish v, callers := rest, status := .running, dying := none } w := by
  simp [doReturn, hk]

theorem doReturn_deferred {fr c : Frame} {rest : List Frame} {v : Value} (hk : fr.kind = .deferred) (hm : c.mode = .returning) : doReturn P true fr (c :: rest) none v w = .go { frame := c, callers := rest, status := .running, dying := none } w := by
  simp [doReturn, hk, hm]

/-! Where a function, or a round, is left. -/

def LeaveAt (f : Frame) (jump : Option Code) : Prop :=
  (f.todo = [] ∧ jump = none) ∨ (∃ k', f.todo = .code .ret :: k' ∧ jump = some .ret) ∨ (∃ id k', f.todo = .code (.exit id) :: k' ∧ exitTo id k' = none ∧ jump = some (.exit id))

theorem leave_step {jump : Option Code} {cs : List Frame} (hm : f.mode = .run) (hr : f.roundOf = none) (hj : LeaveAt f jump) (hret : isRet jump = true) :
    step P (lone f cs w) = .next (lone { f with mode := .returning } cs w) := by
  refine step_lone_go ?_
  obtain ⟨fn, tmps, todo, defers, mode, kind, ro⟩ := f
  simp only [LeaveAt] at hm hr hj
  subst hm hr
  rcases hj with ⟨rfl, rfl⟩ | ⟨k', rfl, rfl⟩ | ⟨id, k', rfl, h1, rfl⟩
  · simp [stepG, stepG.exec]
  · simp [stepG, stepG.exec]
  · simp [isRet] at hret

theorem leave_round_step {jump : Option Code} {cs : List Frame} {l : Nat} {v : Value} {w1 : World} (hm : f.mode = .run) (hr : f.roundOf = some l) (hj : LeaveAt f jump) (he : (Instr.endRound l jump).run P w = .ok v w1)
    {g : Goroutine} {w2 : World} (hd : doReturn P true f cs none v w1 = .go g w2) :
    (stepG P true { frame := f, callers := cs, status := .running, dying := none } w).bare = .go g w2 := by
  obtain ⟨fn, tmps, todo, defers, mode, kind, ro⟩ := f
  simp only [LeaveAt] at hm hr hj
  subst hm hr
  rcases hj with ⟨rfl, rfl⟩ | ⟨k', rfl, rfl⟩ | ⟨id, k', rfl, h1, rfl⟩
  · simp [stepG, stepG.exec, Sem.runT_eq, he, GStep.bare_after, hd]
  · simp [stepG, stepG.exec, Sem.runT_eq, he, GStep.bare_after, hd]
  · simp [stepG, stepG.exec, Sem.runT_eq, he, GStep.bare_after, hd, h1]

theorem leave_round {jump : Option Code} {l : Nat} {q : Place} {st st' : LoopState} {pe : Option Code} {fn' : FuncId} {tmps' : AM.T AV} {n' : Nat} {params : Array Tmp} {assign body : Code} {d : Nat} {kind : CallKind}
    (hF : FsRel P M h as fs T) (hr : HRel B w0 M h w) (hm : f.mode = .run) (hkind : f.kind = kind) (hq : M.at_ l = some q) (hro : f.roundOf = some q.blk) (hj : LeaveAt f jump)
    (hl : h.get l = some (.loop st pe fn' tmps' n' params assign body d)) (hst : st' = if jump.isNone then .ready else .done)
    (e : giveA kind (.bool jump.isNone) as (h.put l (.loop st' jump fn' tmps' n' params assign body d)) = some c') : Goes B w0 P M f fs w c' := by
  obtain ⟨ob, ho, c, dq, hdq, ht, rfl⟩ := hr.obj l _ q hl hq
  have hg := run_getObj (P := P) ho (by intros; simp)
  have hset := fun o => run_setObj (P := P) (o' := o) ho (by intros; simp)
  have hr' := hr.putObj hl hq (o' := .loop st' jump fn' tmps' n' params assign body d) (ob' := .loop { state := st', pending := jump, fn := fn', tmps := c, params, assign, body, defers := dq.blk }) ⟨c, dq, hdq, ht, rfl⟩
  have hend : (Instr.endRound q.blk jump).run P w = .ok (.bool jump.isNone) { w with heap := w.heap.setIfInBounds q.blk (.loop { state := st', pending := jump, fn := fn', tmps := c, params, assign, body, defers := dq.blk }) } := by
    subst hst
    simp only [Instr.endRound, Instr.getLoop, Sem.run_bind, hg, hset, Result.andThen_ok, Sem.run_pure]
  have hF' := hF.later (h' := h.put l (.loop st' jump fn' tmps' n' params assign body d)) (M' := M) .put
  rcases give_sound (x := .bool jump.isNone) hF' hr' (by simp [AV.tr]) e with ⟨hk, c1, rest, rfl, hC⟩ | ⟨hk, c1, rest, rfl, hmd, hC⟩
  · exact ⟨M, _, _, _, fun cs => .one (step_lone_go (leave_round_step hm hro hj hend (doReturn_normal (by rw [hkind]; exact hk)))), hC, .refl M⟩
  · exact ⟨M, _, _, _, fun cs => .one (step_lone_go (leave_round_step hm hro hj hend (doReturn_deferred (by rw [hkind]; exact hk) hmd))), hC, .refl M⟩

theorem leave_sound {jump : Option Code} (hF : FsRel P M h as fs T) (hr : HRel B w0 M h w) (hp : PlainFrame M a f) (hret : a.ret = false) (hj : LeaveAt f jump) (e : leaveA jump a as h = some c') : Goes B w0 P M f fs w c' := by
  have hm := plain_mode hp hret
  obtain ⟨fn, n, tmps, todo, defers, ret, kind, round⟩ := a
  simp only [leaveA] at e
  split at e
  · split at e
    case h_2 => cases e
    rename_i hj'
    injection e with e; subst e
    have hro : f.roundOf = none := hp.base.round
    refine goes_plain hF (.refl _ _) hr (f' := { f with mode := .returning }) ⟨⟨hp.base.fn, rfl, hp.base.kind, hro, hp.base.defers⟩, hp.todo, hp.tmps⟩ fun cs => leave_step hm hro hj hj'
  · rename_i l
    split at e
    case h_2 => cases e
    rename_i st pe fn' tmps' n' params assign body d hl
    obtain ⟨q, hq, hro⟩ := hp.base.round
    exact leave_round hF hr hm hp.base.kind hq hro hj hl (by cases jump <;> rfl) e

/-! A frame gives its results. -/

theorem resultCell_rel (hr : HRel B w0 M h w) {t : TypeId} {v r : AV} {y : Value} (hy : v.tr M = some y) (e : loadA P h t (some v) = some r) :
    ∃ x, r.tr M = some x ∧ (do loadVar t (← asAddr y) : Sem Value).run P w = .ok x w := by
  unfold loadA at e
  split at e
  case h_2 => cases e
  rename_i b off ha
  injection ha with ha; subst ha
  obtain ⟨p, hp, rfl⟩ := tr_ptr hy
  split at e
  · rename_i hagg
    unfold cellA at e
    split at e
    case h_2 => cases e
    rename_i cs tail fz hb
    rw [nth_eq] at e
    obtain ⟨x, hx, htr⟩ := hr.cell hb hp e
    exact ⟨x, htr, by simp [asAddr, loadVar, agg_run hagg, hx]⟩
  · rename_i hagg
    split at e
    case h_2 => cases e
    rename_i s hs
    split at e
    case h_2 => cases e
    rename_i cs hl
    injection e with e; subst e
    obtain ⟨xs, hxs, _, hrun⟩ := hr.loads (P := P) hl hp
    exact ⟨.agg xs.toArray, by simp [AV.tr, hxs], by simp [asAddr, loadVar, agg_run hagg, size_run hs, hrun]⟩
  · cases e

theorem results_list (hr : HRel B w0 M h w) {tmps : AM.T AV} {n : Nat} {c : Array Value} (ht : TmpsRel M tmps n c) : ∀ (l : List ResultVar) (vs : List AV), optMap (resultA P h tmps) l = some vs →
    ∃ xs, AV.trs M vs = some xs ∧ (l.mapM fun (r : ResultVar) => match r with
      | .tmp t => (pure (c.getD t undef) : Sem Value)
      | .cell a t => do loadVar t (← asAddr (c.getD a undef))).run P w = .ok xs w
  | [], vs, e => by
    simp [optMap] at e; subst e
    exact ⟨[], rfl, by simp⟩
  | r :: l, vs, e => by
    simp only [optMap] at e
    split at e
    case h_2 => cases e
    rename_i b hb
    split at e
    case h_2 => cases e
    rename_i bs hbs
    injection e with e; subst e
    obtain ⟨xs, h1, h2⟩ := results_list hr ht l bs hbs
    have h3 : ∃ x, b.tr M = some x ∧ ((match r with
      | .tmp t => (pure (c.getD t undef) : Sem Value)
      | .cell a t => do loadVar t (← asAddr (c.getD a undef))).run P w = .ok x w) := by
      cases r with
      | tmp t =>
        simp only [resultA] at hb; injection hb with hb; subst hb
        exact ⟨_, ht.2 t, by simp⟩
      | cell a t => exact resultCell_rel hr (ht.2 a) hb
    obtain ⟨x, h4, h5⟩ := h3
    refine ⟨x :: xs, AV.trs_cons.2 ⟨x, xs, h4, h1, rfl⟩, ?_⟩
    rw [List.mapM_cons]
    simp only [Sem.run_bind, h5, Result.andThen_ok, h2, Sem.run_pure]

theorem results_sound (hr : HRel B w0 M h w) (hp : PlainFrame M a f) {v : AV} (e : resultsA P h a = some v) : ∃ fn x, P.funcs[f.fn]? = some fn ∧ v.tr M = some x ∧ (results fn f.tmps).run P w = .ok x w := by
  obtain ⟨fn, n, tmps, todo, defers, ret, kind, round⟩ := a
  simp only [resultsA] at e
  split at e
  case h_2 => cases e
  rename_i fd hfd
  split at e
  case h_2 => cases e
  rename_i vs hvs
  obtain ⟨xs, h1, h2⟩ := results_list hr hp.tmps _ _ hvs
  have h3 : (results fd f.tmps).run P w = .ok (if h : xs.toArray.size = 1 then xs.toArray[0] else .tuple xs.toArray) w := by
    unfold results
    rw [Array.mapM_eq_mapM_toList, map_eq_pure_bind]
    simp only [Sem.run_bind, Sem.run_pure]
    exact congrArg (fun r : Result (List Value) => ((r.andThen fun a w' => Result.ok a.toArray w').andThen fun a w' => Result.ok (if h : a.size = 1 then a[0] else Value.tuple a) w')) h2
  refine ⟨fd, _, ?_, ?_, h3⟩
  · rw [hp.base.fn]; exact hfd
  · split at e
    · injection e with e; subst e
      obtain ⟨x, h4, rfl⟩ := trs1 h1
      simpa using h4
    · rename_i hne
      injection e with e; subst e
      have hlen := AV.trs_length h1
      have : ¬ xs.toArray.size = 1 := by
        intro hx
        have hl : vs.length = 1 := by rw [← hlen]; simpa using hx
        obtain ⟨y, hy⟩ := List.length_eq_one_iff.1 hl
        exact hne y hy
      rw [dif_neg this]
      simp [AV.tr, h1]
end Go.AM
