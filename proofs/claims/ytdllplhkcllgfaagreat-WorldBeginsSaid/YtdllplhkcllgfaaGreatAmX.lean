/- Every step of the abstract machine is steps of the model's: the rest. Nothing is assumed. -/
import Derived.Test.YtdllplhkcllgfaaGreatAmW
namespace Go.AM

variable {B : Nat → Prop} {w0 : World} {M M' : Mp} {h h' : H} {w w' : World} {P : Program} {ops : Array Oper} {Z : Nat → Prop}
variable {a a' : AFrame} {f f' : Frame} {as : List AFrame} {fs : List Frame} {T : Nat → Prop} {k : List AItem} {k' : List Item} {c' : Cfg}

/-! A frame that is left. -/

theorem unwind_results {cs : List Frame} {fn : Func} {x : Value} (hm : f.mode = .returning) (hd : f.defers = []) (hf : P.funcs[f.fn]? = some fn) (hx : (results fn f.tmps).run P w = .ok x w)
    {g : Goroutine} {w2 : World} (hdo : doReturn P true f cs none x w = .go g w2) :
    (stepG P true { frame := f, callers := cs, status := .running, dying := none } w).bare = .go g w2 := by
  simp [stepG, hm, unwind, hd, hf, Sem.runT_eq, hx, GStep.bare_after, hdo]

theorem unwind_collected {cs : List Frame} {r : Nat} {ds calls : List Deferred} {args : Array Value} (hm : f.mode = .returning) (hd : f.defers = { target := .collected r, args } :: ds) (hk : (Instr.takeDeferred r).run P w = .ok calls w') :
    step P (lone f cs w) = .next (lone { f with defers := calls ++ ds } cs w') := by
  refine step_lone_go ?_
  simp [stepG, hm, unwind, hd, Sem.runT_eq, hk, GStep.bare_after]

theorem unwind_enter {cs : List Frame} {g : FuncId} {cap : Array Value} {args args' : Array Value} {ds : List Deferred} (hm : f.mode = .returning) (hd : f.defers = { target := .fn (.func g) cap, args } :: ds)
    (hi : (invoke (.fn (.func g) cap) args).run P w = .ok (.enter g args') w') :
    step P (lone f cs w) = .next (lone (Frame.enter P g args' .deferred) ({ f with defers := ds } :: cs) w') := by
  refine step_lone_go ?_
  simp [stepG, hm, unwind, callDeferred, hd, Sem.runT_eq, hi, GStep.bare_after]

theorem unwind_value {cs : List Frame} {g : FuncId} {cap : Array Value} {args : Array Value} {ds : List Deferred} {x : Value} (hm : f.mode = .returning) (hd : f.defers = { target := .fn (.func g) cap, args } :: ds)
    (hi : (invoke (.fn (.func g) cap) args).run P w = .ok (.value x) w') :
    step P (lone f cs w) = .next (lone { f with defers := ds } cs w') := by
  refine step_lone_go ?_
  simp [stepG, hm, unwind, callDeferred, hd, Sem.runT_eq, hi, GStep.bare_after]

theorem All2.cons_inv {α β : Type} {R : α → β → Prop} {x : α} {xs : List α} {l : List β} (h : All2 R (x :: xs) l) : ∃ y ys, l = y :: ys ∧ R x y ∧ All2 R xs ys := by
  cases h with | cons r rs => exact ⟨_, _, rfl, r, rs⟩
theorem All2.nil_inv {α β : Type} {R : α → β → Prop} {l : List β} (h : All2 R [] l) : l = [] := by cases h; rfl

theorem callA_fn {X : Ext} {g : FuncId} {first cap args : List AV} {nx : ANext} (e : callA P X h (.fn (.func g) first cap) args = some nx) : (∃ h1, nx = .enter g (first ++ args ++ cap) h1) ∨ ∃ v h1, nx = .val v h1 := by
  unfold callA at e
  simp only at e
  split at e
  case h_2 => cases e
  split at e
  case isTrue => cases e
  split at e
  · injection e with e; exact .inl ⟨_, e.symm⟩
  · split at e
    case h_2 => cases e
    split at e
    case h_2 => cases e
    injection e with e; exact .inr ⟨_, _, e.symm⟩

theorem callA_yld {X : Ext} {l : Nat} {args : List AV} {nx : ANext} (e : callA P X h (.yld l) args = some nx) : ∃ fr, nx = .round fr h := by
  unfold callA at e
  simp only at e
  split at e
  · injection e with e; exact ⟨_, e.symm⟩
  · cases e

theorem ret_sound {X : Ext} (hX : XOk P X) (hF : FsRel P M h as fs T) (hr : HRel B w0 M h w) (hp : PlainFrame M a f) (hret : a.ret = true) (e : retA P X a as h = some c') : Goes B w0 P M f fs w c' := by
  have hm : f.mode = .returning := by rw [hp.base.mode, hret]; rfl
  obtain ⟨fn, n, tmps, todo, defers, ret, kind, round⟩ := a
  simp only at hret; subst hret
  simp only [retA] at e
  split at e
  · split at e
    case h_2 => cases e
    rename_i v hv
    obtain ⟨fd, x, h1, h2, h3⟩ := results_sound hr hp hv
    have hd : f.defers = [] := hp.base.defers.nil_inv
    rcases give_sound hF hr h2 e with ⟨hk, c1, rest, rfl, hC⟩ | ⟨hk, c1, rest, rfl, hmd, hC⟩
    · exact ⟨M, _, _, _, fun cs => .one (step_lone_go (unwind_results hm hd h1 h3 (doReturn_normal (by rw [hp.base.kind]; exact hk)))), hC, .refl M⟩
    · exact ⟨M, _, _, _, fun cs => .one (step_lone_go (unwind_results hm hd h1 h3 (doReturn_deferred (by rw [hp.base.kind]; exact hk) hmd))), hC, .refl M⟩
  · rename_i target block args ds
    obtain ⟨d, ds', hd, hd1, hd2⟩ := hp.base.defers.cons_inv
    split at e
    · split at e
      case h_2 => cases e
      rename_i calls hb
      injection e with e; subst e
      obtain ⟨q, hq, rfl⟩ := hd1
      obtain ⟨ob, ho, l', rfl, hl'⟩ := hr.obj block _ q hb hq
      have hg := run_getObj (P := P) ho (by intros; simp)
      have hset := fun o => run_setObj (P := P) (o' := o) ho (by intros; simp)
      have hr' := hr.putObj hb hq (o' := .deferred none) (ob' := .deferred none) rfl
      have htake : (Instr.takeDeferred q.blk).run P w = .ok l' { w with heap := w.heap.setIfInBounds q.blk (.deferred none) } := by
        simp [Instr.takeDeferred, hg, hset]
      refine goes_plain hF .put hr' (f' := { f with defers := l' ++ ds' }) ⟨⟨hp.base.fn, by rw [hm]; rfl, hp.base.kind, hp.base.round, hl'.append hd2⟩, hp.todo, hp.tmps⟩ fun cs => unwind_collected hm hd htake
    · rename_i g captured
      obtain ⟨cv, av, hc1, hc2, rfl⟩ := hd1
      cases hcall : callA P X h (.fn (.func g) [] captured) args with
      | none => rw [hcall] at e; cases e
      | some nx =>
        rw [hcall] at e
        have hfv : (AV.fn (.func g) [] captured).tr M = some (.func (.func g) #[] cv.toArray) := by simp [AV.tr, AV.trs, hc1]
        obtain ⟨d, r1, M1, w1, nn, r2, r3, r4, r5⟩ := call_acts hX hr hfv hc2 hcall
        have hdd : d = { target := .fn (.func g) cv.toArray, args := av.toArray } := by
          simp [Deferred.ofValue] at r1; exact r1.symm
        subst hdd
        rcases callA_fn hcall with ⟨h1, rfl⟩ | ⟨v, h1, rfl⟩
        · simp only at e
          unfold one at e
          split at e
          case h_2 => cases e
          rename_i fr hfr
          injection e with e; subst e
          obtain ⟨xs, hxs, rfl⟩ := r5
          obtain ⟨hpe, _⟩ := enter_sound hfr hxs
          have hF1 := hF.later r4
          have hp1 := hp.mono r4.le.gr
          refine ⟨M1, _, { f with defers := ds' } :: fs, w1, fun cs => .one (unwind_enter hm hd r2), ⟨r3, _, .cons (.plain hpe) (.cons (.plain ⟨⟨hp1.base.fn, by rw [hm]; rfl, hp1.base.kind, hp1.base.round, hd2.imp fun _ _ => DefRel.mono r4.le.gr⟩, hp1.todo, hp1.tmps⟩) hF1)⟩, r4.le⟩
        · simp only at e
          injection e with e; subst e
          obtain ⟨x, hx, rfl⟩ := r5
          have hp1 := hp.mono r4.le.gr
          refine goes_plain hF r4 r3 (f' := { f with defers := ds' }) ⟨⟨hp1.base.fn, by rw [hm]; rfl, hp1.base.kind, hp1.base.round, hd2.imp fun _ _ => DefRel.mono r4.le.gr⟩, hp1.todo, hp1.tmps⟩ fun cs => unwind_value hm hd r2

/-! An operation's outcome is taken in. -/

theorem FrRel.push {d : ADef} {x : Deferred} {S : Nat → Prop} (hf : FrRel P M h Z a f S) (hd : DefRel M d x) (e : pushDefer d a = some a') : FrRel P M h Z a' { f with defers := x :: f.defers } S := by
  obtain ⟨fn, n, tmps, todo, defers, ret, kind, round⟩ := a
  simp only [pushDefer] at e
  split at e
  case h_2 => cases e
  injection e with e; subst e
  have base : ∀ {g : Frame}, FrBase M ⟨fn, n, tmps, todo, defers, ret, kind, none⟩ g → FrBase M ⟨fn, n, tmps, todo, d :: defers, ret, kind, none⟩ { g with defers := x :: g.defers } :=
    fun hb => ⟨hb.fn, hb.mode, hb.kind, hb.round, .cons hd hb.defers⟩
  cases hf with
  | plain hp => exact .plain ⟨base hp.base, hp.todo, hp.tmps⟩
  | batch ht ho hx => exact .batch ht ⟨base ho.base, ho.run, ho.todo, ho.tail, ho.stand, ho.slots, ho.pend⟩ hx
  | drawn ht ho => exact .drawn ht ⟨base ho.base, ho.run, ho.todo, ho.tail, ho.stand, ho.slots, ho.pend⟩
  | ended ht ho => exact .ended ht ⟨base ho.base, ho.run, ho.todo, ho.tail, ho.stand, ho.slots, ho.pend⟩

theorem after_sound {S : Nat → Prop} {s : Sem Next} {nx : ANext} (hF : FsRel P M h as fs T) (hf : FrRel P M h T a f S) (hcall : ∀ d r sv k2, f.todo ≠ .call d true r sv :: k2)
    (hstep : ∀ cs, stepG P true { frame := f, callers := cs, status := .running, dying := none } w = stepG.apply P true f cs none s w)
    (hact : Acts P B w0 M h w s nx) (e : afterA P a as nx = some c') : Goes B w0 P M f fs w c' := by
  obtain ⟨M1, w1, n, r1, r2, r3, r4⟩ := hact
  have hF1 := hF.later r3
  have hf1 := hf.later r3
  have hkind : (match f.todo with | .call _ true _ _ :: _ => CallKind.wrapped | _ => CallKind.normal) = .normal := by
    split
    · rename_i heq; exact absurd heq (hcall _ _ _ _)
    · rfl
  have value : ∀ (v : AV) (x : Value) (h1 : H) (g : Frame) (a1 : AFrame), FrRel P M1 h1 T a1 g S → FsRel P M1 h1 as fs T → HRel B w0 M1 h1 w1 → v.tr M1 = some x →
      (∀ cs, step P (lone f cs w) = .next (lone (g.finish x) cs w1)) → one (finishA v a1) as h1 = some c' → Goes B w0 P M f fs w c' := by
    intro v x h1 g a1 hg hFF hh hx hst he
    unfold one at he
    split at he
    case h_2 => cases he
    rename_i fr hfr
    injection he with he; subst he
    obtain ⟨S', h2⟩ := finish_sound hg hfr hx
    exact ⟨M1, _, fs, w1, fun cs => .one (hst _), ⟨hh, _, .cons h2 hFF⟩, r3.le⟩
  have hundef : undefA.tr M1 = some undef := by simp [undefA, undef, AV.tr, AV.trs]
  cases nx with
  | val v h1 =>
    obtain ⟨x, hx, rfl⟩ := r4
    exact value v x h1 f a hf1 hF1 r2 hx (fun cs => step_lone_go (by rw [hstep]; simp [stepG.apply, r1])) e
  | skip h1 =>
    have r4 : n = .skip := r4
    subst r4
    exact value undefA undef h1 f a hf1 hF1 r2 hundef (fun cs => step_lone_go (by rw [hstep]; simp [stepG.apply, r1])) e
  | enter g args h1 =>
    obtain ⟨xs, hxs, rfl⟩ := r4
    simp only [afterA] at e
    unfold one at e
    split at e
    case h_2 => cases e
    rename_i fr hfr
    injection e with e; subst e
    obtain ⟨hpe, _⟩ := enter_sound hfr hxs
    refine ⟨M1, _, f :: fs, w1, fun cs => .one (step_lone_go ?_), ⟨r2, _, .cons (.plain hpe) (.cons hf1 hF1)⟩, r3.le⟩
    rw [hstep]
    simp only [stepG.apply, Sem.runT_eq, r1, GStep.bare_after, if_true]
    rfl
  | defer d h1 =>
    obtain ⟨x, hx, rfl⟩ := r4
    simp only [afterA] at e
    split at e
    case h_2 => cases e
    rename_i a1 ha1
    exact value undefA undef h1 _ a1 (hf1.push hx ha1) hF1 r2 hundef (fun cs => step_lone_go (by rw [hstep]; simp [stepG.apply, r1])) e
  | round g h1 =>
    obtain ⟨l, fn, tmps, assign, body, rfl, hg⟩ := r4
    simp only [afterA] at e
    injection e with e; subst e
    refine ⟨M1, _, f :: fs, w1, fun cs => .one (step_lone_go ?_), ⟨r2, _, .cons (.plain hg) (.cons hf1 hF1)⟩, r3.le⟩
    rw [hstep]
    simp [stepG.apply, r1]

theorem deferA_shape {ρ : Env} {c : Call} {nx : ANext} (e : deferA ρ h c = some nx) : ∃ d, nx = .defer d h := by
  unfold deferA at e
  repeat' (split at e <;> try cases e)
  exact ⟨_, rfl⟩

/-- An operation that acts. -/
theorem runOp_sound {X : Ext} (hX : XOk P X) {S : Nat → Prop} {i : Nat} {rest : List Nat} {drawn : Bool} (hF : FsRel P M h as fs T) (hr : HRel B w0 M h w) (hf : FrRel P M h T a f S) (hb : FrBase M a f) (hret : a.ret = false)
    (htd : f.todo = .inRegion ops (i :: rest) :: k') (hslot : ∀ o, ops[i]? = some o → ∀ t ∈ looks ops o, ((a.tmps.get t).getD undefA).tr M = some (f.tmps.getD t undef))
    (e : runOpA P X a as h ops i drawn = some c') : Goes B w0 P M f fs w c' := by
  have hm : f.mode = .run := by rw [hb.mode, hret]; rfl
  unfold runOpA at e
  split at e
  case h_2 => cases e
  rename_i o ho
  have hlook := hslot o ho
  have hρ : EnvRel M (evalA a.tmps) f.eval o.op.operands := evalA_rel (eval_frame f) fun t hto => hlook t (by
    unfold looks tmpsOf
    exact List.mem_append_left _ (List.mem_filterMap.2 ⟨.tmp t, by simpa using hto, rfl⟩))
  have hg : ∀ b, wantedA ops a.tmps o = some b → Region.wanted o (yielded ops f.tmps) = b := fun b hb => wanted_rel (fun g wn d hgu hdg => hlook d (by
    unfold looks
    refine List.mem_append_right _ ?_
    rw [hgu]
    simp only [dstAt] at hdg
    simp [hdg])) hb
  split at e
  case h_3 => cases e
  · rename_i hwn
    split at e
    case h_2 => cases e
    rename_i nx hnx
    have hdef : f.roundOf = none ∨ ∀ c, o.op ≠ .defer c := by
      have h1 := hb.round
      cases har : a.round with
      | none => rw [har] at h1; exact .inl h1
      | some l =>
        right
        intro c hc
        have : ∃ d, nx = .defer d h := by
          cases drawn with
          | true => rw [hc] at hnx; simp only [actA] at hnx; exact deferA_shape hnx
          | false => rw [hc] at hnx; simp only [opA, kindA, actA] at hnx; exact deferA_shape hnx
        obtain ⟨d, rfl⟩ := this
        simp only [afterA] at e
        have : pushDefer d a = none := by
          obtain ⟨fn, n, tmps, todo, defers, ret, kind, round⟩ := a
          simp only at har; subst har; rfl
        rw [this] at e; cases e
    have hact : Acts P B w0 M h w (execOp f.eval o) nx := by
      cases drawn with
      | true => exact act_sound hX hr hρ hnx o rfl
      | false => exact op_sound hX hr hρ hnx o rfl
    exact after_sound hF hf (by rw [htd]; simp) (fun cs => stepG_oper hm htd ho (hg _ hwn) hdef) hact e
  · rename_i hwn
    unfold one at e
    split at e
    case h_2 => cases e
    rename_i fr hfr
    injection e with e; subst e
    obtain ⟨S', h2⟩ := finish_sound hf hfr (x := undef) (by simp [undefA, undef, AV.tr, AV.trs])
    exact ⟨M, _, fs, w, fun cs => .one (step_unwanted hm htd ho (hg _ hwn)), ⟨hr, _, .cons h2 hF⟩, .refl M⟩
end Go.AM
