/- The abstract machine with calls that are known beforehand: what a function does to the one block that it is given. Nothing is assumed. -/
import Derived.Test.YtdllplhkcllgfaaGreatAmZ
namespace Go.AM

/-- Which functions are known: the block's cells before and behind. -/
abbrev Mem := FuncId → Option (List AV × List AV)

def plainAV : AV → Bool
  | .int _ _ | .bool _ => true
  | _ => false

def knownA (mem : Mem) (fr : AFrame) (fs : List AFrame) : ANext → Option Cfg
  | .enter g args h => match mem g with
    | some (x0, x1) => match args with
      | [.ptr b 0] => match h.get b with
        | some (.cells cs none false) => match AV.beqs cs x0 with
          | true => one (finishA undefA fr) fs (h.put b (.cells x1 none false))
          | false => none
        | _ => none
      | _ => none
    | none => none
  | _ => none

def afterM (P : Program) (mem : Mem) (fr : AFrame) (fs : List AFrame) (nx : ANext) : Option Cfg :=
  match knownA mem fr fs nx with
  | some c => some c
  | none => afterA P fr fs nx

def runOpM (P : Program) (X : Ext) (mem : Mem) (fr : AFrame) (fs : List AFrame) (h : H) (ops : Array Oper) (i : Nat) (drawn : Bool) : Option Cfg :=
  match ops[i]? with
  | some o => match wantedA ops fr.tmps o with
    | some true => match (match drawn with | true => actA P X h (evalA fr.tmps) o.op | false => opA P X h (evalA fr.tmps) o.op) with
      | some nx => afterM P mem fr fs nx
      | none => none
    | some false => one (finishA undefA fr) fs h
    | none => none
  | none => none

def frameM (P : Program) (X : Ext) (mem : Mem) (fs : List AFrame) (h : H) (fr : AFrame) : Option Cfg :=
  match fr.ret with
  | true => retA P X fr fs h
  | false => match fr.todo with
    | [] => leaveA none fr fs h
    | it :: k => match it with
      | .inRegion ops (i :: _) => runOpM P X mem fr fs h ops i false
      | .inDrawn ops (i :: _) _ => runOpM P X mem fr fs h ops i true
      | it => itemA P X fr fs h k it

def stepM (P : Program) (X : Ext) (mem : Mem) : Cfg → Option Cfg
  | ⟨[], _⟩ => none
  | ⟨fr :: fs, h⟩ => frameM P X mem fs h fr

def runM (P : Program) (X : Ext) (mem : Mem) : Nat → Cfg → Option Cfg
  | 0, c => match doneA c with
    | true => some c
    | false => none
  | n + 1, c => match doneA c with
    | true => some c
    | false => match stepM P X mem c with
      | some c' => runM P X mem n c'
      | none => none

variable {B : Nat → Prop} {w0 : World} {M M' : Mp} {h h' : H} {w w' : World} {P : Program} {ops : Array Oper}
variable {a a' : AFrame} {f f' : Frame} {as : List AFrame} {fs : List Frame} {T : Nat → Prop} {k' : List Item} {c' : Cfg}

/-- What a known function does. -/
def Known (P : Program) (g : FuncId) (x0 x1 : List AV) : Prop :=
  ∀ (w : World) (p : Place) (M : Mp) (ob : Obj), w.heap[p.blk]? = some ob → ObjRel M p (.cells x0 none false) ob →
    Calls P g #[.pointer (some ⟨p.blk, p.base, none⟩)] w fun e w' => e = .returned undef ∧ (∃ ob', w'.heap[p.blk]? = some ob' ∧ ∀ M, ObjRel M p (.cells x1 none false) ob') ∧
      (∀ k, k < w.heap.size → k ≠ p.blk → w'.heap[k]? = w.heap[k]?) ∧ w.heap.size ≤ w'.heap.size ∧ w'.tape = w.tape ∧ w'.os = w.os ∧ w'.output = w.output

def MemOk (P : Program) (mem : Mem) : Prop := ∀ g x0 x1, mem g = some (x0, x1) → Known P g x0 x1

theorem plain_cells {cs : List AV} {p : Place} {ob : Obj} (hp : cs.all plainAV = true) (ho : ObjRel M p (.cells cs none false) ob) (M' : Mp) : ObjRel M' p (.cells cs none false) ob := by
  obtain ⟨c, e, fr, rfl, h1, h2, h3⟩ := ho
  refine ⟨c, e, fr, rfl, fun i av hi => ?_, h2, h3⟩
  obtain ⟨v, h4, h5⟩ := h1 i av hi
  have : plainAV av = true := List.all_eq_true.1 hp av (List.mem_of_getElem? hi)
  refine ⟨v, h4, ?_⟩
  cases av <;> simp [plainAV] at this <;> simpa [AV.tr] using h5

/-- A known function, from a run over its one block. -/
theorem known_of_run {X : Ext} (hX : XOk P X) (hmix : P.follows .mixedOrders = true) {g : FuncId} {x0 x1 : List AV} {fr : AFrame} {n : Nat} {c' : Cfg}
    (hp0 : x0.all plainAV = true) (hp1 : x1.all plainAV = true) (he : enterA P g [.ptr 0 0] .normal = some fr) (hrun : runA P X n ⟨[fr], ⟨(AM.T.e).put 0 (some (.cells x0 none false)), 1, []⟩⟩ = some c')
    (hv : answerA P g c' = some undefA) (hx : c'.heap.get 0 = some (.cells x1 none false)) : Known P g x0 x1 := by
  intro w p M ob hob hrel
  let M0 : Mp := ⟨fun k => if k = 0 then some p else none, fun _ => none⟩
  have hsz : p.blk < w.heap.size := (Array.getElem?_eq_some_iff.1 hob).1
  have hget : ∀ b, (⟨(AM.T.e).put 0 (some (.cells x0 none false)), 1, []⟩ : H).get b = if b = 0 then some (.cells x0 none false) else none := by
    intro b; simp only [H.get, AM.T.get_put]; split <;> rfl
  have hr : HRel (fun k => k < w.heap.size ∧ k ≠ p.blk) w M0 ⟨(AM.T.e).put 0 (some (.cells x0 none false)), 1, []⟩ w := by
    refine ⟨?_, ?_, ?_, ?_, fun _ _ => rfl, fun k hk => hk.1, rfl, rfl, rfl, (fun _ _ hq => by cases hq), (fun _ hq => by cases hq)⟩
    · intro b o q hb hq
      rw [hget] at hb
      by_cases e : b = 0
      · subst e; simp [M0] at hq hb; subst hq hb; exact ⟨ob, hob, plain_cells hp0 hrel M0⟩
      · rw [if_neg e] at hb; cases hb
    · intro b b' q q' hq hq' _ _ _
      by_cases e : b = 0 <;> by_cases e' : b' = 0
      · rw [e, e']
      · simp [M0, e'] at hq'
      · simp [M0, e] at hq
      · simp [M0, e] at hq
    · intro b q hq
      by_cases e : b = 0
      · subst e; simp [M0] at hq; subst hq; exact ⟨fun hh => hh.2 rfl, hsz⟩
      · simp [M0, e] at hq
    · intro b hb
      have e : b ≠ 0 := by simp only at hb; omega
      exact ⟨by simp [M0, e], by rw [hget, if_neg e]⟩
  have ha : AV.trs M0 [.ptr 0 0] = some [.pointer (some ⟨p.blk, p.base, none⟩)] := by simp [AV.trs, AV.tr, M0]
  refine calls_sound hX hmix hr ha he hrun hv fun M1 x w1 hle hr1 hx1 => ?_
  have hat : M1.at_ 0 = some p := hle.at_ _ _ (by simp [M0])
  obtain ⟨ob', h1, h2⟩ := hr1.obj 0 _ p hx hat
  have hsz1 := (hr1.lo 0 p hat).2
  refine ⟨?_, ⟨ob', h1, fun M => plain_cells hp1 h2 M⟩, fun k hk hne => hr1.keep k ⟨hk, hne⟩, ?_, hr1.tape, hr1.os, hr1.output⟩
  · have : x = undef := by simp [undefA, AV.tr, AV.trs] at hx1; rw [← hx1]; rfl
    rw [this]
  · rcases Nat.lt_or_ge w1.heap.size w.heap.size with hlt | hge
    · by_cases e : w1.heap.size = p.blk
      · omega
      · have := hr1.size w1.heap.size ⟨hlt, e⟩; omega
    · exact hge
end Go.AM
namespace Go.AM

variable {B : Nat → Prop} {w0 : World} {M M' : Mp} {h h' : H} {w w' : World} {P : Program} {ops : Array Oper}
variable {a a' : AFrame} {f f' : Frame} {as : List AFrame} {fs : List Frame} {T : Nat → Prop} {k' : List Item} {c' : Cfg}

/-- As 'Goes', with what lies below given. -/
def GoesAt (B : Nat → Prop) (w0 : World) (P : Program) (M : Mp) (f : Frame) (fs : List Frame) (w : World) (c' : Cfg) (cs : List Frame) : Prop :=
  ∃ M' f' fs' w', Steps P (lone f (fs ++ cs) w) (lone f' (fs' ++ cs) w') ∧ CRel B w0 P M' c' (f' :: fs') w' ∧ M.Le M'

theorem Goes.at (h : Goes B w0 P M f fs w c') (cs : List Frame) : GoesAt B w0 P M f fs w c' cs :=
  let ⟨M', f', fs', w', h1, h2, h3⟩ := h; ⟨M', f', fs', w', h1 cs, h2, h3⟩

theorem known_sound {mem : Mem} (hmem : MemOk P mem) {S : Nat → Prop} {s : Sem Next} {nx : ANext} (hF : FsRel P M h as fs T) (hf : FrRel P M h T a f S) (hcall : ∀ d r sv k2, f.todo ≠ .call d true r sv :: k2)
    (hstep : ∀ cs, stepG P true { frame := f, callers := cs, status := .running, dying := none } w = stepG.apply P true f cs none s w)
    (hact : Acts P B w0 M h w s nx) (e : knownA mem a as nx = some c') (cs : List Frame) : GoesAt B w0 P M f fs w c' cs := by
  obtain ⟨M1, w1, n, r1, r2, r3, r4⟩ := hact
  unfold knownA at e
  split at e
  case h_2 => cases e
  rename_i g args h1
  split at e
  case h_2 => cases e
  rename_i x0 x1 hg
  split at e
  case h_2 => cases e
  rename_i b
  split at e
  case h_2 => cases e
  rename_i cl hb
  split at e
  case h_2 => cases e
  rename_i hcs
  have := AV.beqs_sound _ _ hcs
  subst this
  unfold one at e
  split at e
  case h_2 => cases e
  rename_i fr hfr
  injection e with e; subst e
  obtain ⟨xs, hxs, rfl⟩ := r4
  obtain ⟨x, hx, rfl⟩ := trs1 hxs
  obtain ⟨p, hp, rfl⟩ := tr_ptr hx
  simp only [heapOf] at r2 r3
  obtain ⟨ob, hob, hrel⟩ := r2.obj b _ p hb hp
  have hr' : ∀ w2 : World, (∃ ob', w2.heap[p.blk]? = some ob' ∧ ∀ M, ObjRel M p (.cells x1 none false) ob') → (∀ k, k < w1.heap.size → k ≠ p.blk → w2.heap[k]? = w1.heap[k]?) → w1.heap.size ≤ w2.heap.size →
      w2.tape = w1.tape → w2.os = w1.os → w2.output = w1.output → HRel B w0 M1 (h1.put b (.cells x1 none false)) w2 := by
    intro w2 ⟨ob', g1, g2⟩ hoth hsz ht hos hout
    refine ⟨?_, ?_, ?_, ?_, ?_, ?_, ht.trans r2.tape, hos.trans r2.os, hout.trans r2.output, r2.env, by rw [H.facts_put]; exact r2.facts⟩
    · intro b' o q hb' hq
      rw [H.get_put] at hb'
      by_cases e : b' = b
      · subst e; rw [hp] at hq; cases hq; simp at hb'; subst hb'; exact ⟨ob', g1, g2 _⟩
      · rw [if_neg e] at hb'
        obtain ⟨o1, k1, k2⟩ := r2.obj b' o q hb' hq
        refine ⟨o1, ?_, k2⟩
        rw [hoth _ (r2.lo b' q hq).2 (fun heq => e (r2.inj b' b q p hq hp (by simp [hb']) (by simp [hb]) heq))]; exact k1
    · intro b1 b2 q q' hq hq' hs hs' heq
      refine r2.inj b1 b2 q q' hq hq' ?_ ?_ heq
      · rw [H.get_put] at hs; by_cases e : b1 = b
        · subst e; simp [hb]
        · rwa [if_neg e] at hs
      · rw [H.get_put] at hs'; by_cases e : b2 = b
        · subst e; simp [hb]
        · rwa [if_neg e] at hs'
    · intro b1 q hq; exact ⟨(r2.lo b1 q hq).1, by have := (r2.lo b1 q hq).2; omega⟩
    · intro b1 hb1
      rw [H.next_put] at hb1
      have := r2.fresh b1 hb1
      refine ⟨this.1, ?_⟩
      rw [H.get_put]
      by_cases e : b1 = b
      · subst e; rw [hb] at this; cases this.2
      · rw [if_neg e]; exact this.2
    · intro k hk
      rw [hoth k (r2.size k hk) (fun e => (r2.lo b p hp).1 (e ▸ hk))]; exact r2.keep k hk
    · intro k hk; have := r2.size k hk; omega
  have hfr1 := (hf.later r3).later (Later.put (h := h1) (M := M1) (b := b) (o := .cells x1 none false))
  have hF1 := (hF.later r3).later (Later.put (h := h1) (M := M1) (b := b) (o := .cells x1 none false))
  obtain ⟨S', h2⟩ := finish_sound hfr1 hfr (x := undef) (by simp [undefA, undef, AV.tr, AV.trs])
  obtain ⟨en, w2, fr2, ⟨he, k1, k2, k3, k4, k5, k6⟩, hcomes, _, hleave⟩ := hmem g _ x1 hg w1 p M1 ob hob hrel (f :: (fs ++ cs))
  subst he
  refine ⟨M1, f.finish undef, fs, w2, .head (step_lone_go ?_) (Steps.trans hcomes (.one (step_leave_returned hleave))), ⟨hr' w2 k1 k2 k3 k4 k5 k6, _, .cons h2 hF1⟩, r3.le⟩
  rw [hstep]
  simp only [stepG.apply, Sem.runT_eq, r1, GStep.bare_after, if_true]
  rfl

theorem runOpM_sound {X : Ext} (hX : XOk P X) {mem : Mem} (hmem : MemOk P mem) {S : Nat → Prop} {i : Nat} {rest : List Nat} {drawn : Bool} (hF : FsRel P M h as fs T) (hr : HRel B w0 M h w) (hf : FrRel P M h T a f S) (hb : FrBase M a f) (hret : a.ret = false)
    (htd : f.todo = .inRegion ops (i :: rest) :: k') (hslot : ∀ o, ops[i]? = some o → ∀ t ∈ looks ops o, ((a.tmps.get t).getD undefA).tr M = some (f.tmps.getD t undef))
    (e : runOpM P X mem a as h ops i drawn = some c') (cs : List Frame) : GoesAt B w0 P M f fs w c' cs := by
  have hm : f.mode = .run := by rw [hb.mode, hret]; rfl
  have plain : runOpA P X a as h ops i drawn = some c' → GoesAt B w0 P M f fs w c' cs := fun e' => (runOp_sound hX hF hr hf hb hret htd hslot e').at cs
  unfold runOpM at e
  split at e
  case h_2 => cases e
  rename_i o ho
  split at e
  case h_3 => cases e
  · rename_i hwn
    split at e
    case h_2 => cases e
    rename_i nx hnx
    unfold afterM at e
    split at e
    · rename_i c1 hk
      injection e with e; subst e
      have hlook := hslot o ho
      have hρ : EnvRel M (evalA a.tmps) f.eval o.op.operands := evalA_rel (eval_frame f) fun t hto => hlook t (by
        unfold looks tmpsOf
        exact List.mem_append_left _ (List.mem_filterMap.2 ⟨.tmp t, by simpa using hto, rfl⟩))
      have hg : ∀ b, wantedA ops a.tmps o = some b → Region.wanted o (yielded ops f.tmps) = b := fun b hb => wanted_rel (fun g wn d hgu hdg => hlook d (by
        unfold looks
        refine List.mem_append_right _ ?_
        rw [hgu]
        simp only [dstAt] at hdg
        simp [hdg])) hb
      have hdef : f.roundOf = none ∨ ∀ c, o.op ≠ .defer c := by
        right
        intro c hc
        have : ∃ d, nx = .defer d h := by
          cases drawn with
          | true => rw [hc] at hnx; simp only [actA] at hnx; exact deferA_shape hnx
          | false => rw [hc] at hnx; simp only [opA, kindA, actA] at hnx; exact deferA_shape hnx
        obtain ⟨d, rfl⟩ := this
        simp [knownA] at hk
      have hact : Acts P B w0 M h w (execOp f.eval o) nx := by
        cases drawn with
        | true => exact act_sound hX hr hρ hnx o rfl
        | false => exact op_sound hX hr hρ hnx o rfl
      exact known_sound hmem hF hf (by rw [htd]; simp) (fun cs => stepG_oper hm htd ho (hg _ hwn) hdef) hact hk cs
    · refine plain ?_
      unfold runOpA
      rw [ho]
      simp only [hwn]
      cases drawn with
      | true => simp only at hnx ⊢; rw [hnx]; exact e
      | false => simp only at hnx ⊢; rw [hnx]; exact e
  · rename_i hwn
    refine plain ?_
    unfold runOpA
    rw [ho]
    simp only [hwn]
    exact e

theorem stepM_sound {X : Ext} (hX : XOk P X) (hmix : P.follows .mixedOrders = true) {mem : Mem} (hmem : MemOk P mem) {c c' : Cfg} (hC : CRel B w0 P M c (f :: fs) w) (e : stepM P X mem c = some c') (cs : List Frame) : GoesAt B w0 P M f fs w c' cs := by
  have plain : stepA P X c = some c' → GoesAt B w0 P M f fs w c' cs := fun e' => (step_sound hX hmix hC e').at cs
  obtain ⟨frames, hp⟩ := c
  obtain ⟨hr, T0, hF0⟩ := hC
  cases frames with
  | nil => cases hF0
  | cons a as =>
    obtain ⟨f2, fs2, S, T, heq, hf, hF⟩ := hF0.inv
    injection heq with e1 e2; subst e1 e2
    simp only at hf hF hr
    simp only [stepM, frameM] at e
    simp only [stepA, frameA] at plain
    cases hret : a.ret with
    | true => rw [hret] at e plain; exact plain e
    | false =>
      rw [hret] at e plain
      simp only at e plain
      split at e
      · rename_i htd; rw [htd] at plain; exact plain e
      · rename_i it k htd
        rw [htd] at plain
        simp only at plain
        split at e
        · rename_i ops i r
          cases hf with
          | plain hpf =>
            obtain ⟨it', k', htd', hit, hk⟩ := plain_cons hpf htd
            cases hit
            exact runOpM_sound hX hmem hF hr (.plain hpf) hpf.base hret htd' (fun _ _ t _ => hpf.tmps.2 t) e cs
          | batch ht _ _ => rw [ht] at htd; cases htd
          | drawn ht _ => rw [ht] at htd; cases htd
          | ended ht _ => rw [ht] at htd; cases htd
        · rename_i ops i r d
          cases hf with
          | plain hpf =>
            obtain ⟨it', k', htd', hit, hk⟩ := plain_cons hpf htd
            cases hit
          | batch ht _ _ => rw [ht] at htd; cases htd
          | ended ht _ => rw [ht] at htd; cases htd
          | drawn ht ho =>
            rw [ht] at htd
            injection htd with h1 h2
            injection h1 with h3 h4 h5
            injection h4 with h6 h7
            subst h3 h6
            refine runOpM_sound hX hmem hF hr (.drawn ht ho) ho.base ho.run ho.todo (fun o hoi t htl => ?_) e cs
            rcases ho.slots.2 t with ⟨j, hj, hE, hd⟩ | h1
            · exact absurd hd (ho.stand.head_looks hoi htl hj hE)
            · exact h1
        · exact plain e

theorem runM_sound {X : Ext} (hX : XOk P X) (hmix : P.follows .mixedOrders = true) {mem : Mem} (hmem : MemOk P mem) {c' : Cfg} (cs : List Frame) : ∀ (n : Nat) (c : Cfg) (M : Mp) (f : Frame) (fs : List Frame) (w : World), CRel B w0 P M c (f :: fs) w → runM P X mem n c = some c' →
    GoesAt B w0 P M f fs w c' cs ∧ doneA c' = true
  | 0, c, M, f, fs, w, hC, e => by
    simp only [runM] at e
    split at e
    · rename_i hd
      injection e with e; subst e
      exact ⟨⟨M, f, fs, w, .refl _ _, hC, .refl M⟩, hd⟩
    · cases e
  | n + 1, c, M, f, fs, w, hC, e => by
    simp only [runM] at e
    split at e
    · rename_i hd
      injection e with e; subst e
      exact ⟨⟨M, f, fs, w, .refl _ _, hC, .refl M⟩, hd⟩
    · split at e
      case h_2 => cases e
      rename_i c1 h1
      obtain ⟨M1, f1, fs1, w1, g1, g2, g3⟩ := stepM_sound hX hmix hmem hC h1 cs
      obtain ⟨⟨M2, f2, fs2, w2, k1, k2, k3⟩, k4⟩ := runM_sound hX hmix hmem cs n c1 M1 f1 fs1 w1 g2 e
      exact ⟨⟨M2, f2, fs2, w2, g1.trans k1, k2, g3.trans k3⟩, k4⟩

/-- A CALL: what the abstract machine answers is what the call answers. -/
theorem callsM_sound {X : Ext} (hX : XOk P X) (hmix : P.follows .mixedOrders = true) {mem : Mem} (hmem : MemOk P mem) {g : FuncId} {args : List AV} {xs : List Value} {fr : AFrame} {n : Nat} {c' : Cfg} {v : AV}
    (hr : HRel B w0 M h w) (ha : AV.trs M args = some xs) (he : enterA P g args .normal = some fr) (hrun : runM P X mem n ⟨[fr], h⟩ = some c') (hv : answerA P g c' = some v) {R : Ending → World → Prop}
    (hR : ∀ M' x w', M.Le M' → HRel B w0 M' c'.heap w' → v.tr M' = some x → R (.returned x) w') : Calls P g xs.toArray w R := by
  intro cs
  obtain ⟨hpe, _⟩ := enter_sound he ha
  have hC : CRel B w0 P M ⟨[fr], h⟩ [Frame.enter P g xs.toArray .normal] w := ⟨hr, _, .cons (.plain hpe) .nil⟩
  obtain ⟨⟨M', f', fs', w', h1, h2, h3⟩, h4⟩ := runM_sound hX hmix hmem cs n _ M _ [] w hC hrun
  obtain ⟨frames, hp⟩ := c'
  unfold answerA at hv
  split at hv
  case h_2 => cases hv
  rename_i a hp' heq
  injection heq with e1 e2; subst e1 e2
  split at hv
  case h_2 => cases hv
  rename_i hk
  split at hv
  case h_2 => cases hv
  rename_i hfn
  obtain ⟨hr', T0, hF0⟩ := h2
  obtain ⟨f2, fs2, S, T, heq, hf, hF⟩ := hF0.inv
  injection heq with e1 e2; subst e1 e2
  cases hF
  simp only [doneA, Bool.and_eq_true] at h4
  have hpl : PlainFrame M' a f' := by
    cases hf with
    | plain hp => exact hp
    | batch _ ho _ => rw [ho.run] at h4; simp at h4
    | drawn _ ho => rw [ho.run] at h4; simp at h4
    | ended _ ho => rw [ho.run] at h4; simp at h4
  obtain ⟨fd, x, g1, g2, g3⟩ := results_sound hr' hpl hv
  refine ⟨.returned x, w', f', hR M' x w' h3 hr' g2, ?_, ?_, ?_, ?_, ?_, fd, g1, g3⟩
  · exact h1
  · rw [hpl.base.fn]; exact Nat.eq_of_beq_eq_true hfn
  · rw [hpl.base.mode, h4.1]; rfl
  · have hd := hpl.base.defers
    have : a.defers = [] := by simpa using h4.2
    rw [this] at hd
    exact hd.nil_inv
  · rw [hpl.base.kind]; exact hk
end Go.AM
namespace Go.AM

def crcBefore : List AV := .int .u32 0 :: .int .i32 1 :: .int .u32 0 :: .int .u32 0 :: (List.replicate 256 (.int .u32 0))
def crcTable : List Int := [0, 1996959894, 3993919788, 2567524794, 124634137, 1886057615, 3915621685, 2657392035, 249268274, 2044508324, 3772115230, 2547177864, 162941995, 2125561021, 3887607047, 2428444049, 498536548, 1789927666, 4089016648, 2227061214, 450548861, 1843258603, 4107580753, 2211677639, 325883990, 1684777152, 4251122042, 2321926636, 335633487, 1661365465, 4195302755, 2366115317, 997073096, 1281953886, 3579855332, 2724688242, 1006888145, 1258607687, 3524101629, 2768942443, 901097722, 1119000684, 3686517206, 2898065728, 853044451, 1172266101, 3705015759, 2882616665, 651767980, 1373503546, 3369554304, 3218104598, 565507253, 1454621731, 3485111705, 3099436303, 671266974, 1594198024, 3322730930, 2970347812, 795835527, 1483230225, 3244367275, 3060149565, 1994146192, 31158534, 2563907772, 4023717930, 1907459465, 112637215, 2680153253, 3904427059, 2013776290, 251722036, 2517215374, 3775830040, 2137656763, 141376813, 2439277719, 3865271297, 1802195444, 476864866, 2238001368, 4066508878, 1812370925, 453092731, 2181625025, 4111451223, 1706088902, 314042704, 2344532202, 4240017532, 1658658271, 366619977, 2362670323, 4224994405, 1303535960, 984961486, 2747007092, 3569037538, 1256170817, 1037604311, 2765210733, 3554079995, 1131014506, 879679996, 2909243462, 3663771856, 1141124467, 855842277, 2852801631, 3708648649, 1342533948, 654459306, 3188396048, 3373015174, 1466479909, 544179635, 3110523913, 3462522015, 1591671054, 702138776, 2966460450, 3352799412, 1504918807, 783551873, 3082640443, 3233442989, 3988292384, 2596254646, 62317068, 1957810842, 3939845945, 2647816111, 81470997, 1943803523, 3814918930, 2489596804, 225274430, 2053790376, 3826175755, 2466906013, 167816743, 2097651377, 4027552580, 2265490386, 503444072, 1762050814, 4150417245, 2154129355, 426522225, 1852507879, 4275313526, 2312317920, 282753626, 1742555852, 4189708143, 2394877945, 397917763, 1622183637, 3604390888, 2714866558, 953729732, 1340076626, 3518719985, 2797360999, 1068828381, 1219638859, 3624741850, 2936675148, 906185462, 1090812512, 3747672003, 2825379669, 829329135, 1181335161, 3412177804, 3160834842, 628085408, 1382605366, 3423369109, 3138078467, 570562233, 1426400815, 3317316542, 2998733608, 733239954, 1555261956, 3268935591, 3050360625, 752459403, 1541320221, 2607071920, 3965973030, 1969922972, 40735498, 2617837225, 3943577151, 1913087877, 83908371, 2512341634, 3803740692, 2075208622, 213261112, 2463272603, 3855990285, 2094854071, 198958881, 2262029012, 4057260610, 1759359992, 534414190, 2176718541, 4139329115, 1873836001, 414664567, 2282248934, 4279200368, 1711684554, 285281116, 2405801727, 4167216745, 1634467795, 376229701, 2685067896, 3608007406, 1308918612, 956543938, 2808555105, 3495958263, 1231636301, 1047427035, 2932959818, 3654703836, 1088359270, 936918000, 2847714899, 3736837829, 1202900863, 817233897, 3183342108, 3401237130, 1404277552, 615818150, 3134207493, 3453421203, 1423857449, 601450431, 3009837614, 3294710456, 1567103746, 711928724, 3020668471, 3272380065, 1510334235, 755167117]
def crcBehind : List AV := .int .u32 0 :: .int .i32 1 :: .int .u32 0 :: .int .u32 1 :: crcTable.map (AV.int .u32)

/-- A run over the one block: does it end, with nothing answered, and that behind? -/
def knownRun (P : Program) (X : Ext) (g : FuncId) (x0 x1 : List AV) (n : Nat) : Bool :=
  match enterA P g [.ptr 0 0] .normal with
  | some fr => match runA P X n ⟨[fr], ⟨(T.e).put 0 (some (.cells x0 none false)), 1, []⟩⟩ with
    | some c => match answerA P g c with
      | some v => match c.heap.get 0 with
        | some (.cells cs none false) => v.beq undefA && AV.beqs cs x1
        | _ => false
      | none => false
    | none => false
  | none => false

/-- A run without arguments: does it answer true? -/
def trueRun (P : Program) (X : Ext) (mem : Mem) (g : FuncId) (n : Nat) : Bool :=
  match enterA P g [] .normal with
  | some fr => match runM P X mem n ⟨[fr], ⟨.e, 0, []⟩⟩ with
    | some c => match answerA P g c with
      | some v => v.beq (.bool true)
      | none => false
    | none => false
  | none => false

theorem known_run {P : Program} {X : Ext} (hX : XOk P X) (hmix : P.follows .mixedOrders = true) {g : FuncId} {x0 x1 : List AV} {n : Nat} (h0 : x0.all plainAV = true) (h1 : x1.all plainAV = true)
    (h : knownRun P X g x0 x1 n = true) : Known P g x0 x1 := by
  unfold knownRun at h
  split at h
  case h_2 => cases h
  rename_i fr hfr
  split at h
  case h_2 => cases h
  rename_i c hc
  split at h
  case h_2 => cases h
  rename_i v hv
  split at h
  case h_2 => cases h
  rename_i cs hcs
  rw [Bool.and_eq_true] at h
  have e1 := AV.beq_sound _ _ h.1
  have e2 := AV.beqs_sound _ _ h.2
  subst e1 e2
  exact known_of_run hX hmix h0 h1 hfr hc hv hcs

/-- A CALL WITHOUT ARGUMENTS ANSWERS TRUE, in any world; the blocks that were there are as they were. -/
theorem true_run {P : Program} {X : Ext} (hX : XOk P X) (hmix : P.follows .mixedOrders = true) {mem : Mem} (hmem : MemOk P mem) {g : FuncId} {n : Nat} (h : trueRun P X mem g n = true) (w : World) :
    Calls P g #[] w fun e w' => e = .returned (.bool true) ∧ (∀ k, k < w.heap.size → w'.heap[k]? = w.heap[k]?) ∧ w.heap.size ≤ w'.heap.size ∧ w'.tape = w.tape ∧ w'.os = w.os ∧ w'.output = w.output := by
  unfold trueRun at h
  split at h
  case h_2 => cases h
  rename_i fr hfr
  split at h
  case h_2 => cases h
  rename_i c hc
  split at h
  case h_2 => cases h
  rename_i v hv
  have e1 := AV.beq_sound _ _ h
  subst e1
  have hr : HRel (fun k => k < w.heap.size) w ⟨fun _ => none, fun _ => none⟩ ⟨.e, 0, []⟩ w := by
    refine ⟨?_, ?_, ?_, ?_, fun _ _ => rfl, fun k hk => hk, rfl, rfl, rfl, (fun _ _ hq => by cases hq), (fun _ hq => by cases hq)⟩
    · intro b o p _ hp; cases hp
    · intro b b' p p' hp; cases hp
    · intro b p hp; cases hp
    · intro b _; exact ⟨rfl, rfl⟩
  refine callsM_sound hX hmix hmem (args := []) (xs := []) hr rfl hfr hc hv fun M' x w' _ hr' hx => ?_
  refine ⟨?_, hr'.keep, ?_, hr'.tape, hr'.os, hr'.output⟩
  · rw [tr_bool hx]
  · rcases Nat.lt_or_ge w'.heap.size w.heap.size with hlt | hge
    · have := hr'.size _ hlt; omega
    · exact hge
end Go.AM
