/- A place, as it comes in. Nothing is assumed. -/
import Derived.Test.YtdllplhkcllgfaaGreatProg
import Derived.WalkKit
import Derived.ProofKit
import Derived.SizedLaws
import Derived.KernelRfl
namespace Go.Proofs.YtdllplhkcllgfaaGreat
open Go.ChangeShapes Go.WideShapes Go.ChangeAt Go.RowKit

theorem list10 : ∀ {l : List Value}, l.length = 10 → ∃ x0 x1 x2 x3 x4 x5 x6 x7 x8 x9, l = [x0, x1, x2, x3, x4, x5, x6, x7, x8, x9]
  | [x0, x1, x2, x3, x4, x5, x6, x7, x8, x9], _ => ⟨x0, x1, x2, x3, x4, x5, x6, x7, x8, x9, rfl⟩
  | [], h => by simp at h
  | [_], h => by simp at h
  | [_, _], h => by simp at h
  | [_, _, _], h => by simp at h
  | [_, _, _, _], h => by simp at h
  | [_, _, _, _, _], h => by simp at h
  | [_, _, _, _, _, _], h => by simp at h
  | [_, _, _, _, _, _, _], h => by simp at h
  | [_, _, _, _, _, _, _, _], h => by simp at h
  | [_, _, _, _, _, _, _, _, _], h => by simp at h
  | _ :: _ :: _ :: _ :: _ :: _ :: _ :: _ :: _ :: _ :: _ :: _, h => by simp at h

theorem c27 : Tryz.prog.cellsOf 27 = 10 := by kernel_rfl
theorem c25 : Tryz.prog.cellsOf 25 = 6 := by kernel_rfl
theorem c22 : Tryz.prog.cellsOf 22 = 1 := by kernel_rfl
theorem c23 : Tryz.prog.cellsOf 23 = 1 := by kernel_rfl
theorem c3 : Tryz.prog.cellsOf 3 = 1 := by kernel_rfl
theorem c5 : Tryz.prog.cellsOf 5 = 1 := by kernel_rfl
theorem b5 : Tryz.prog.bytesOf 5 = 1 := by kernel_rfl

section
variable {H : Type} {enc : TypeId × Value → H} {W : World} {base : Nat} {sp : Nat → Bool} {held : Bool}

theorem open_set {fuel : Nat} {x1 x2 x3 x4 x5 x6 : Value} {y : DataW H × List MemPlace} (h : DataW.trod enc Tryz.prog W base sp held fuel 25 [x1, x2, x3, x4, x5, x6] = some y) :
    ∃ (f : Nat) (y1 : DataW H × List MemPlace) (ds : List (DataW H)) (ps : List MemPlace) (n2 n3 n4 n5 n6 : Int), DataW.trod enc Tryz.prog W base sp held f 22 [x1] = some y1 ∧ y = (.agg (y1.1 :: ds), y1.2 ++ ps) ∧
      x2 = .int .i64 n2 ∧ x3 = .int .u32 n3 ∧ x4 = .int .u32 n4 ∧ x5 = .int .u32 n5 ∧ x6 = .int .u32 n6 := by
  cases fuel with
  | zero => simp [DataW.trod] at h
  | succ f =>
    simp only [DataW.trod, Tryz.underlying25, c25, c22, c23, c3, List.length_cons, List.length_nil, if_true, List.mapM_cons, List.mapM_nil, List.drop, List.take, Option.pure_def, Option.bind_eq_bind, Option.map_eq_some_iff, Option.bind_eq_some_iff] at h
    obtain ⟨ys, ⟨y1, h1, r1, ⟨y2, h2, r2, ⟨y3, h3, r3, ⟨y4, h4, r4, ⟨y5, h5, r5, ⟨y6, h6, r6, e0, e6⟩, e5⟩, e4⟩, e3⟩, e2⟩, e1⟩, rfl⟩ := h
    injection e1 with e1; injection e2 with e2; injection e3 with e3; injection e4 with e4; injection e5 with e5; injection e6 with e6; injection e0 with e0
    subst e0; subst e6; subst e5; subst e4; subst e3; subst e2; subst e1
    obtain ⟨n2, g2, _⟩ := DataW.trod_int Tryz.underlying3 h2
    obtain ⟨n3, g3, _⟩ := DataW.trod_int Tryz.underlying23 h3
    obtain ⟨n4, g4, _⟩ := DataW.trod_int Tryz.underlying23 h4
    obtain ⟨n5, g5, _⟩ := DataW.trod_int Tryz.underlying23 h5
    obtain ⟨n6, g6, _⟩ := DataW.trod_int Tryz.underlying23 h6
    injection g2 with g2; injection g3 with g3; injection g4 with g4; injection g5 with g5; injection g6 with g6
    exact ⟨f, y1, _, _, n2, n3, n4, n5, n6, h1, rfl, g2, g3, g4, g5, g6⟩

theorem open_place {fuel : Nat} {x0 x1 x2 x3 x4 x5 x6 x7 x8 x9 : Value} {y : DataW H × List MemPlace} (h : DataW.trod enc Tryz.prog W base sp held fuel 27 [x0, x1, x2, x3, x4, x5, x6, x7, x8, x9] = some y) :
    ∃ (f : Nat) (y1 : DataW H × List MemPlace) (z : DataW H) (ds zs : List (DataW H)) (n0 n2 n3 n4 n5 n6 n7 n8 n9 : Int), DataW.trod enc Tryz.prog W base sp held f 22 [x1] = some y1 ∧ y.1 = .agg (z :: .agg (y1.1 :: ds) :: zs) ∧
      x0 = .int .i64 n0 ∧ x2 = .int .i64 n2 ∧ x3 = .int .u32 n3 ∧ x4 = .int .u32 n4 ∧ x5 = .int .u32 n5 ∧ x6 = .int .u32 n6 ∧ x7 = .int .i64 n7 ∧ x8 = .int .u32 n8 ∧ x9 = .int .i64 n9 := by
  cases fuel with
  | zero => simp [DataW.trod] at h
  | succ f =>
    simp only [DataW.trod, Tryz.underlying27, c27, c25, c23, c3, List.length_cons, List.length_nil, if_true, List.mapM_cons, List.mapM_nil, List.drop, List.take, Option.pure_def, Option.bind_eq_bind, Option.map_eq_some_iff, Option.bind_eq_some_iff] at h
    obtain ⟨ys, ⟨y0, h0, r0, ⟨y1, h1, r1, ⟨y7, h7, r7, ⟨y8, h8, r8, ⟨y9, h9, r9, e0, e9⟩, e8⟩, e7⟩, e1⟩, ez⟩, rfl⟩ := h
    injection ez with ez; injection e1 with e1; injection e7 with e7; injection e8 with e8; injection e9 with e9; injection e0 with e0
    subst e0; subst e9; subst e8; subst e7; subst e1; subst ez
    obtain ⟨n0, g0, _⟩ := DataW.trod_int Tryz.underlying3 h0
    obtain ⟨n7, g7, _⟩ := DataW.trod_int Tryz.underlying3 h7
    obtain ⟨n8, g8, _⟩ := DataW.trod_int Tryz.underlying23 h8
    obtain ⟨n9, g9, _⟩ := DataW.trod_int Tryz.underlying3 h9
    injection g0 with g0; injection g7 with g7; injection g8 with g8; injection g9 with g9
    obtain ⟨f', y', ds, ps, n2, n3, n4, n5, n6, k1, k2, k3, k4, k5, k6, k7⟩ := open_set h1
    exact ⟨f', y', y0.1, ds, _, n0, n2, n3, n4, n5, n6, n7, n8, n9, k1, by rw [k2]; rfl, g0, k3, k4, k5, k6, k7, g7, g8, g9⟩

theorem weight_place {z : DataW H} {ds zs gs : List (DataW H)} {ts : List TypeId} {es sp : List (DataW H)} (h : (DataW.weightsEach Tryz.prog (27 :: ts) (.agg (z :: .agg (.slice es sp :: ds) :: zs) :: gs)).all (· ≤ reachBytes) = true) : es.length + sp.length ≤ reachBytes := by
  have := List.all_eq_true.1 h (es.length + sp.length) (by
    refine DataW.weights_mem_each (j := 0) (t := 27) rfl rfl _ ?_
    simp only [DataW.weights, Tryz.underlying27]
    refine DataW.weights_mem_each (j := 1) (t := 25) rfl rfl _ ?_
    simp only [DataW.weights, Tryz.underlying25]
    refine DataW.weights_mem_each (j := 0) (t := 22) rfl rfl _ ?_
    simp [DataW.weights, Tryz.underlying22, b5])
  simpa using this
end
end Go.Proofs.YtdllplhkcllgfaaGreat
