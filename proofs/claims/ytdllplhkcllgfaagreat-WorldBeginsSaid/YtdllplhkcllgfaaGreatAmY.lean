/- THE ABSTRACT MACHINE IS SOUND. Nothing is assumed. -/
import Derived.Test.YtdllplhkcllgfaaGreatAmX
namespace Go.AM

variable {B : Nat → Prop} {w0 : World} {M M' : Mp} {h h' : H} {w w' : World} {P : Program} {ops : Array Oper} {Z : Nat → Prop}
variable {a a' : AFrame} {f f' : Frame} {as : List AFrame} {fs : List Frame} {T : Nat → Prop} {k : List AItem} {k' : List Item} {c' : Cfg}

/-! A range over a function. -/

theorem block_rel (hr : HRel B w0 M h w) (hp : PlainFrame M a f) {h1 : H} {d : Nat} {mark : List ADef} (e : rangeBlock a.round h = some (h1, d, mark)) {params : Array Tmp} {assign body : Code} :
    ∃ M1 w1 l mark', (Instr.enterLoop f.fn f.tmps params assign body f.roundOf).run P w = .ok (l.blk, mark') w1 ∧
      HRel B w0 M1 (h1.new (.loop .ready none a.fn a.tmps a.n params assign body d)) w1 ∧ Later h M (h1.new (.loop .ready none a.fn a.tmps a.n params assign body d)) M1 ∧
      M1.at_ h1.next = some l ∧ All2 (DefRel M1) mark mark' := by
  have key : ∀ {M0 : Mp} {w1 : World} {q : Place}, HRel B w0 M0 h1 w1 → PlainFrame M0 a f → M0.at_ d = some q →
      ∃ M1 w2 l, (newObj (.loop { state := .ready, pending := none, fn := f.fn, tmps := f.tmps, params, assign, body, defers := q.blk })).run P w1 = .ok l.blk w2 ∧
        HRel B w0 M1 (h1.new (.loop .ready none a.fn a.tmps a.n params assign body d)) w2 ∧ Later h1 M0 (h1.new (.loop .ready none a.fn a.tmps a.n params assign body d)) M1 ∧ M1.at_ h1.next = some l := by
    intro M0 w1 q hr1 hp1 hq
    have hle := Mp.set_le (p := ⟨w1.heap.size, 0, 0⟩) (hr1.fresh _ (Nat.le_refl _)).1
    obtain ⟨g1, g2, g3⟩ := hr1.allocNew (o := .loop .ready none a.fn a.tmps a.n params assign body d)
      (ob := .loop { state := .ready, pending := none, fn := f.fn, tmps := f.tmps, params, assign, body, defers := q.blk }) (cap := 0)
      ⟨f.tmps, q, hle.at_ _ _ hq, hp1.tmps.mono hle.gr, by rw [hp1.base.fn]⟩
    exact ⟨_, _, ⟨w1.heap.size, 0, 0⟩, by rw [run_newObj], g1, g2, g3⟩
  unfold rangeBlock at e
  have hro := hp.base.round
  split at e
  · rename_i l hl
    rw [hl] at hro
    obtain ⟨q, hq, hro⟩ := hro
    split at e
    case h_2 => cases e
    rename_i hlo
    injection e with e; injection e with e1 e2; injection e2 with e2 e3; subst e1 e2 e3
    obtain ⟨ob, ho, c, dq, hdq, ht, rfl⟩ := hr.obj l _ q hlo hq
    have hg := run_getObj (P := P) ho (by intros; simp)
    obtain ⟨M1, w2, l1, g1, g2, g3, g4⟩ := key hr hp hdq
    refine ⟨M1, w2, l1, [], ?_, g2, g3, g4, .nil⟩
    rw [hro]
    simp only [Instr.enterLoop, Instr.getLoop, Sem.run_bind, hg, Result.andThen_ok, Sem.run_pure, g1]
  · rename_i hl
    rw [hl] at hro
    injection e with e; injection e with e1 e2; injection e2 with e2 e3; subst e1 e2 e3
    obtain ⟨g1, g2, g3⟩ := hr.allocNew (o := .deferred (some [])) (ob := .deferred (some [])) (cap := 0) ⟨[], rfl, .nil⟩
    obtain ⟨M1, w2, l1, k1, k2, k3, k4⟩ := key g1 (hp.mono g2.le.gr) g3
    refine ⟨M1, w2, l1, [{ target := .collected w.heap.size, args := #[] }], ?_, k2, g2.trans k3, k4, .cons ⟨⟨w.heap.size, 0, 0⟩, k3.le.at_ _ _ g3, rfl⟩ .nil⟩
    rw [hro]
    have h1 : (newObj (.deferred (some []))).run P w = .ok w.heap.size { w with heap := w.heap.push (.deferred (some [])) } := by rw [run_newObj]
    have h2 : (newObj (.loop { state := .ready, pending := none, fn := f.fn, tmps := f.tmps, params, assign, body, defers := w.heap.size })).run P { w with heap := w.heap.push (.deferred (some [])) } = .ok l1.blk w2 := k1
    simp only [Instr.enterLoop, Sem.run_bind, h1, Result.andThen_ok, Sem.run_pure, h2]

theorem range_sound {X : Ext} (hX : XOk P X) {fo : Operand} {params : Array Tmp} {assign body : Code} (hF : FsRel P M h as fs T) (hr : HRel B w0 M h w) (hp : PlainFrame M a f) (hret : a.ret = false)
    (ht : a.todo = .code (.rangeFunc fo params assign body) :: k) (e : rangeFuncA P X a as h k fo params assign body = some c') : Goes B w0 P M f fs w c' := by
  have hm := plain_mode hp hret
  obtain ⟨it', k', htd, hit, hk⟩ := plain_cons hp ht
  cases hit
  obtain ⟨fn, n, tmps, todo, defers, ret, kind, round⟩ := a
  simp only [rangeFuncA] at e
  split at e
  case h_2 => cases e
  rename_i fv hfv
  split at e
  case h_2 => cases e
  rename_i h1 d mark hblk
  split at e
  case h_2 => cases e
  rename_i g args h3 hcall
  unfold one at e
  split at e
  case h_2 => cases e
  rename_i fr hfr
  injection e with e; subst e
  obtain ⟨M1, w1, l, mark', g1, g2, g3, g4, g5⟩ := block_rel (P := P) (params := params) (assign := assign) (body := body) hr hp hblk
  have hfv' : fv.tr M1 = some (f.eval fo) := AV.tr_mono g3.le _ _ (evalA_rel (eval_frame f) (xs := #[fo]) (fun t _ => hp.tmps.2 t) fo (by simp) fv hfv)
  have hargs : AV.trs M1 [.yld h1.next] = some [.func (.yield l.blk) #[] #[]] := by simp [AV.trs, AV.tr, g4]
  obtain ⟨dd, r1, M2, w2, nn, r2, r3, r4, r5⟩ := call_acts hX g2 hfv' hargs hcall
  obtain ⟨xs, hxs, rfl⟩ := r5
  obtain ⟨hpe, _⟩ := enter_sound hfr hxs
  have hle := g3.trans r4
  have hp1 := hp.mono hle.le.gr
  let f1 : Frame := { f with todo := .inRangeFunc l.blk :: k', defers := mark' ++ f.defers }
  refine ⟨M2, _, f1 :: fs, w2, fun cs => .one (step_lone_go ?_), ⟨r3, _, .cons (.plain hpe) (.cons (.plain (f := f1) ⟨⟨hp1.base.fn, hp1.base.mode, hp1.base.kind, hp1.base.round, (g5.imp fun _ _ => DefRel.mono r4.le.gr).append hp1.base.defers⟩,
    .cons (.inRangeFunc (r4.le.at_ _ _ g4)) (hk.imp fun _ _ => ItemRel.mono hle.le.gr), hp1.tmps⟩) (hF.later hle))⟩, hle.le⟩
  have hev : f1.eval fo = f.eval fo := by rw [eval_frame, eval_frame]
  obtain ⟨fn', tmps', todo', defers', mode', kind', ro'⟩ := f
  simp only at htd hm g1
  subst htd hm
  have r1' : (Deferred.ofValue (f1.eval fo) #[.func (.yield l.blk) #[] #[]]).run P w1 = .ok dd w1 := by rw [hev]; exact r1
  simp only [f1] at r1'
  simp [stepG, stepG.exec, Sem.runT_eq, g1, GStep.bare_after, stepG.apply, resolve, Frame.eval] at r1' ⊢
  simp [r1', r2, f1]

end Go.AM
