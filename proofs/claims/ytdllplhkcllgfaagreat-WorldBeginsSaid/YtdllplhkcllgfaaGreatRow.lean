/- WorldBegins: for every place, which worlds there may be is as the document says, and in a new one nothing was done: the law's statement as it is given, without any condition. -/
import Derived.Test.YtdllplhkcllgfaaGreatRows
import Derived.Test.YtdllplhkcllgfaaGreatLaw
import Derived.Test.YtdllplhkcllgfaaGreatOpen
import Derived.Test.YtdllplhkcllgfaaGreatJ
import Derived.WalkKit
import Derived.ProofKit
import Derived.OpenShut
import Derived.ChangeOld
import Derived.Below
import Derived.SizedLaws
namespace Go.Proofs.YtdllplhkcllgfaaGreat
open Go.ChangeShapes Go.WideShapes Go.ChangeAt Go.RowKit

theorem own : ownKnob Tryz.prog.godebug = none := by kernel_rfl
theorem laidOut : laidOutB Tryz.prog = true := by kernel_rfl

set_option maxRecDepth 100000 in
theorem lifted (os : Os) (started : os.Started) (H : Type) (enc : TypeId × Value → H) :
    ReturnsInHanded {} Tryz.checked os 3 .any (Rows.worldBeginsSpec.pre6 enc Tryz.prog Tryz.f3 Rows.worldBeginsRow.domain false) (Rows.worldBeginsSpec.post enc Tryz.prog Tryz.f3 false true false false) := by
  refine returnsInHanded_of_change_sized (C := Tryz.checked) own started (by kernel_rfl) Tryz.func3
    (ChangeSpec.witness6 (enc := enc) (C := Tryz.checked) false ⟨#[], #[.agg #[.int .i64 0, .slice none 0 0, .int .i64 0, .int .u32 0, .int .u32 0, .int .u32 0, .int .u32 0, .int .i64 0, .int .u32 0, .int .i64 0]], []⟩ 8 (by kernel_rfl) (by kernel_rfl) (by kernel_rfl) (by kernel_rfl)) ?_
  intro W base args ds gs before hval0 hW hcnd hsz0 _
  have hsz : (DataW.weightsEach Tryz.prog (Tryz.f3.params.toList ++ Rows.worldBeginsSpec.plain.varTypes Tryz.prog) (ds ++ gs)).all (· ≤ reachBytes) = true := hsz0
  have hval : ∀ (j : Nat) t v, Tryz.f3.params[j]? = some t → args[j]? = some v → Value.okWide Tryz.prog W .any base t v := hval0
  have hW' := hW
  obtain ⟨p, q, hA0, hV, rfl, hfz, hnd⟩ := hW
  have hA : DataW.TrodAll enc Tryz.prog W 0 (fun _ => true) true Tryz.f3.params.toList args.toList ds p := hA0
  rw [Tryz.params3] at hA hval hsz
  obtain ⟨v0, vs0, d0, ds0, p0, q0, hargs, rfl, rfl, h0, r0⟩ := trodAll_cons hA
  obtain ⟨rfl, rfl, rfl⟩ := trodAll_nil r0
  obtain rfl : args = #[v0] := by cases args; simp_all
  obtain ⟨rfl, rfl⟩ := trodVars_none hV
  have k0 := h0
  have lt0 : ∀ x ∈ p0, x.block < W.heap.size := by obtain ⟨m, hm⟩ := k0; exact DataW.trod_lt m _ _ _ hm
  obtain ⟨cs, rfl, hcs⟩ := okWide_struct Tryz.underlying27 (hval 0 27 v0 rfl rfl)
  rw [c27] at hcs
  obtain ⟨x0, x1, x2, x3, x4, x5, x6, x7, x8, x9, hl⟩ := list10 (l := cs.toList) (by simpa using hcs)
  obtain rfl : cs = #[x0, x1, x2, x3, x4, x5, x6, x7, x8, x9] := by apply Array.ext'; simpa using hl
  obtain ⟨fuel, hf⟩ := h0
  obtain ⟨f, y1, z, dl, zs, n0, n2, n3, n4, n5, n6, n7, n8, n9, hlev, hd, rfl, rfl, rfl, rfl, rfl, rfl, rfl, rfl, rfl⟩ := open_place hf
  simp only at hd
  subst hd
  have levels : x1 = .slice none 0 0 ∨ ∃ (ad : Addr) (cap : Nat) (zs : List Int), x1 = .slice (some ad) zs.length cap ∧ zs.length ≤ 140737488355328 ∧ ∀ i z, zs[i]? = some z → W.cell? (ad.add i) = some (.int .u8 z) := by
    rcases open_ints Tryz.underlying22 Tryz.underlying5 c5 hlev with ⟨hx, _⟩ | ⟨ad, len, cap, l, hx, _, hle, hm, hlen, hy, hcell, _⟩
    · injection hx with hx; exact .inl hx
    · injection hx with hx
      subst hy
      simp only [if_true] at hlen
      have hw := weight_place hsz
      refine .inr ⟨ad, cap, l.take len, ?_, ?_, fun i z hz => ?_⟩
      · rw [hx, List.length_take, Nat.min_eq_left (by omega)]
      · have hr := reachBytes_lt
        simp [lits] at hw
        simp
        omega
      · rw [List.getElem?_take] at hz
        split at hz
        case isFalse => cases hz
        have hi := (List.getElem?_eq_some_iff.1 hz).1
        rw [hcell i hi]
        simp [List.getD, hz]
  clear hA0 hval0 hsz0 hsz
  refine (law_calls (w := W) (a := n0) (pc := n7) (rm := n9) (lv := x1) (s2 := .int .i64 n2) (s3 := .int .u32 n3) (s4 := .int .u32 n4) (s5 := .int .u32 n5) (s6 := .int .u32 n6) (s8 := .int .u32 n8) rfl rfl rfl rfl rfl rfl levels).mono fun e W' ⟨he, bel⟩ => ?_
  subst he
  exact ⟨_, rfl, _, _, _, [], _, [], hW', trodAll_mk1 (shut_bool Tryz.underlying4 _), trodAll_cons_mk (Below.trod laidOut (by kernel_rfl) (of_decide_eq_true (by kernel_rfl)) k0 bel lt0) trodAll_mk0, rfl, bel.frame _, fun h => by cases h⟩

theorem worldBegins_holds : Rows.WorldBeginsSaid :=
  OpenClaim.holds_of_wide 3 Tryz.f3 rfl rfl rfl rfl rfl rfl rfl ⟨rfl, rfl, rfl, rfl, rfl⟩ rfl rfl rfl rfl rfl (by kernel_rfl) Tryz.func3 closed
    (of_decide_eq_true (by kernel_rfl)) (by unfold Func.isWrapper; first | (rw [if_pos (by decide +kernel)]; kernel_rfl) | (rw [if_neg (by decide +kernel)]; exact ⟨rfl, rfl⟩))
    (fun os started H enc _ => lifted os started H enc)
#print axioms worldBegins_holds
end Go.Proofs.YtdllplhkcllgfaaGreat
