/- A known function, from runs in pieces over its one block. Nothing is assumed. -/
import Derived.Test.YtdllplhkcllgfaaGreatFast
import Derived.Below
namespace Go.AM

theorem runs_of {P : Program} {X : Ext} {mem : Mem} {n : Nat} {ks : List Nat} {c c' : Cfg} (hX : XOk P X) (hmix : P.follows .mixedOrders = true) (hmem : MemOk P mem) (h : segR P X mem n ks c = some c') : Runs P c c' :=
  segM_runs hX hmix hmem (by rw [← segR_eq]; exact h)

/-- A known function, from a run over its one block. -/
theorem known_of_runs {P : Program} {g : FuncId} {x0 x1 : List AV} {fr : AFrame} {c' : Cfg}
    (hp0 : x0.all plainAV = true) (hp1 : x1.all plainAV = true) (he : enterA P g [.ptr 0 0] .normal = some fr) (hrun : Runs P ⟨[fr], ⟨(AM.T.e).put 0 (some (.cells x0 none false)), 1, []⟩⟩ c') (hd : doneA c' = true)
    (hv : answerA P g c' = some undefA) (hx : c'.heap.get 0 = some (.cells x1 none false)) : Known P g x0 x1 := by
  intro w p M ob hob hrel
  let M0 : Mp := ⟨fun k => if k = 0 then some p else none, fun _ => none⟩
  have hsz : p.blk < w.heap.size := (Array.getElem?_eq_some_iff.1 hob).1
  have hget : ∀ b, (⟨(AM.T.e).put 0 (some (.cells x0 none false)), 1, []⟩ : H).get b = if b = 0 then some (.cells x0 none false) else none := by
    intro b; simp only [H.get, AM.T.get_put]; split <;> rfl
  have hr : HRel (fun k => k < w.heap.size ∧ k ≠ p.blk) w M0 ⟨(AM.T.e).put 0 (some (.cells x0 none false)), 1, []⟩ w := by
    refine ⟨?_, ?_, ?_, ?_, fun _ _ => rfl, fun k hk => hk.1, rfl, rfl, rfl, (fun _ _ hq => by cases hq), (fun _ hq => by cases hq)⟩
    · intro b o q hb hq
      rw [hget] at hb
      by_cases e : b = 0
      · subst e; simp [M0] at hq hb; subst hq hb; exact ⟨ob, hob, plain_cells hp0 hrel M0⟩
      · rw [if_neg e] at hb; cases hb
    · intro b b' q q' hq hq' _ _ _
      by_cases e : b = 0 <;> by_cases e' : b' = 0
      · rw [e, e']
      · simp [M0, e'] at hq'
      · simp [M0, e] at hq
      · simp [M0, e] at hq
    · intro b q hq
      by_cases e : b = 0
      · subst e; simp [M0] at hq; subst hq; exact ⟨fun hh => hh.2 rfl, hsz⟩
      · simp [M0, e] at hq
    · intro b hb
      have e : b ≠ 0 := by simp only at hb; omega
      exact ⟨by simp [M0, e], by rw [hget, if_neg e]⟩
  have ha : AV.trs M0 [.ptr 0 0] = some [.pointer (some ⟨p.blk, p.base, none⟩)] := by simp [AV.trs, AV.tr, M0]
  refine calls_runs hr ha he hrun hd hv fun M1 x w1 hle hr1 hx1 => ?_
  have hat : M1.at_ 0 = some p := hle.at_ _ _ (by simp [M0])
  obtain ⟨ob', h1, h2⟩ := hr1.obj 0 _ p hx hat
  have hsz1 := (hr1.lo 0 p hat).2
  refine ⟨?_, ⟨ob', h1, fun M => plain_cells hp1 h2 M⟩, fun k hk hne => hr1.keep k ⟨hk, hne⟩, ?_, hr1.tape, hr1.os, hr1.output⟩
  · have : x = undef := by simp [undefA, AV.tr, AV.trs] at hx1; rw [← hx1]; rfl
    rw [this]
  · rcases Nat.lt_or_ge w1.heap.size w.heap.size with hlt | hge
    · by_cases e : w1.heap.size = p.blk
      · omega
      · have := hr1.size w1.heap.size ⟨hlt, e⟩; omega
    · exact hge

end Go.AM
namespace Go.AM
open Go.RowKit

variable {B : Nat → Prop} {w0 : World} {M M' : Mp} {h h' : H} {w w' : World} {P : Program}

theorem HRel.named (hr : HRel B w0 M h w) (hb : Below w.heap.size w w') {g base cap : Nat} {o : AObj} {ob : Obj} (hg : w.heap.size ≤ g) (hob : w'.heap[g]? = some ob)
    (ho : ObjRel (M.set h.next ⟨g, base, cap⟩) ⟨g, base, cap⟩ o ob) : HRel B w0 (M.set h.next ⟨g, base, cap⟩) (h.new o) w' := by
  have hfr := hr.fresh _ (Nat.le_refl _)
  have hle := Mp.set_le (p := ⟨g, base, cap⟩) hfr.1
  have hgl : g < w'.heap.size := (Array.getElem?_eq_some_iff.1 hob).1
  refine ⟨?_, ?_, ?_, ?_, ?_, ?_, hb.tape.trans hr.tape, hb.os.trans hr.os, hb.output.trans hr.output, hr.env, by rw [H.facts_new]; exact hr.facts⟩
  · intro b o' p hb' hp
    rw [H.get_new] at hb'
    by_cases e : b = h.next
    · subst e
      simp [Mp.set] at hp hb'
      subst hp hb'
      exact ⟨ob, hob, ho⟩
    · simp [Mp.set, e] at hp
      rw [if_neg e] at hb'
      obtain ⟨ob', h1, h2⟩ := hr.obj b o' p hb' hp
      exact ⟨ob', by rw [hb.block _ (hr.lo b p hp).2]; exact h1, h2.mono hle.gr⟩
  · intro b b' p p' hp hp' hs hs' heq
    rw [H.get_new] at hs hs'
    by_cases e : b = h.next <;> by_cases e' : b' = h.next
    · rw [e, e']
    · subst e; simp [Mp.set] at hp; simp [Mp.set, e'] at hp'
      subst hp; have := (hr.lo b' p' hp').2; simp at heq; omega
    · subst e'; simp [Mp.set] at hp'; simp [Mp.set, e] at hp
      subst hp'; have := (hr.lo b p hp).2; simp at heq; omega
    · simp [Mp.set, e] at hp; simp [Mp.set, e'] at hp'
      rw [if_neg e] at hs; rw [if_neg e'] at hs'
      exact hr.inj b b' p p' hp hp' hs hs' heq
  · intro b p hp
    by_cases e : b = h.next
    · subst e; simp [Mp.set] at hp; subst hp; exact ⟨fun hB => by have := hr.size _ hB; simp at this; omega, hgl⟩
    · simp [Mp.set, e] at hp; have := hr.lo b p hp; have := hb.size; exact ⟨(hr.lo b p hp).1, by omega⟩
  · intro b hb'
    rw [H.next_new] at hb'
    have e : b ≠ h.next := by omega
    have := hr.fresh b (by omega)
    exact ⟨by simp [Mp.set, e, this.1], by rw [H.get_new, if_neg e]; exact this.2⟩
  · intro k hk
    rw [hb.block k (hr.size k hk)]; exact hr.keep k hk
  · intro k hk
    have := hr.size k hk; have := hb.size; omega

theorem LaterG.named (hr : HRel B w0 M h w) (o : AObj) (p : Place) : LaterG h M (h.new o) (M.set h.next p) :=
  ⟨(Mp.set_le (hr.fresh _ (Nat.le_refl _)).1).gr, by rw [H.next_new]; omega, fun b hb hn => by
    have e : b ≠ h.next := by omega
    simp [Mp.set, e, hn]⟩
theorem LaterG.refl (h : H) (M : Mp) : LaterG h M h M := ⟨(Mp.Le.refl M).gr, Nat.le_refl _, fun _ _ k => k⟩

/-! Facts. -/
variable {env : Nat → Option Value}
theorem ok_lss {x y : AV} {k : IntKind} {a b : Int} {r : Bool} (hx : numOf env x = some (k, a)) (hy : numOf env y = some (k, b)) (hr : decide (a < b) = r) : (Fact.bin .lss x y (.bool r)).Ok env := by
  refine ⟨k, a, k, b, .bool r, .bool r, hx, hy, ?_, rfl, rfl⟩
  subst hr
  simp [binInt, intA, ltF_eq]
theorem ok_gtr {x y : AV} {k : IntKind} {a b : Int} {r : Bool} (hx : numOf env x = some (k, a)) (hy : numOf env y = some (k, b)) (hr : decide (b < a) = r) : (Fact.bin .gtr x y (.bool r)).Ok env := by
  refine ⟨k, a, k, b, .bool r, .bool r, hx, hy, ?_, rfl, rfl⟩
  subst hr
  simp [binInt, intA, ltF_eq]
theorem ok_geq {x y : AV} {k : IntKind} {a b : Int} {r : Bool} (hx : numOf env x = some (k, a)) (hy : numOf env y = some (k, b)) (hr : decide (b ≤ a) = r) : (Fact.bin .geq x y (.bool r)).Ok env := by
  refine ⟨k, a, k, b, .bool r, .bool r, hx, hy, ?_, rfl, rfl⟩
  subst hr
  simp [binInt, intA, leF_eq]
theorem ok_mm {mx : Bool} {x y r : AV} {k : IntKind} {a b : Int} (hx : numOf env x = some (k, a)) (hy : numOf env y = some (k, b)) (hr : atomVal env r = some (.int k (mmF mx a b))) : (Fact.mm mx x y r).Ok env :=
  ⟨k, a, b, hx, hy, hr⟩

/-! Runs. -/
variable {m : Machine} {cs : List Frame} {E : Nat → Option Value} {c c' : Cfg}
theorem Reach.steps {X : Ext} {mem : Mem} {n : Nat} (hX : XOk P X) (hmix : P.follows .mixedOrders = true) (hmem : MemOk P mem) (hr : Reach B w0 P m cs c E) (h : stepsR P X mem n c = some c') : Reach B w0 P m cs c' E :=
  hr.runs (stepsM_runs hX hmix hmem n c (by rw [← stepsR_eq]; exact h))

theorem ob_some' {α β : Type} {x : Option α} {f : α → Option β} {b : β} (h : ob x f = some b) : ∃ a, x = some a ∧ f a = some b := by
  cases x with
  | none => cases h
  | some a => exact ⟨a, rfl, h⟩
end Go.AM
