/- What the row's cells say of the program: the light facts. Nothing is assumed. -/
import Derived.Test.YtdllplhkcllgfaaGreatRows
import Derived.JoinedOf
import Derived.KernelRfl
set_option maxRecDepth 1000000
namespace Go.Proofs.YtdllplhkcllgfaaGreat
theorem j1 : (Rows.worldBeginsRow.wf (OpenSpec.ofChange Rows.worldBeginsSpec)) = true := by kernel_rfl
theorem j2 : (laidOutB Tryz.prog) = true := by kernel_rfl
theorem j3 : (mapsRowed Tryz.prog) = true := by kernel_rfl
theorem j4 : (Tryz.f3.params.all (Tryz.prog.readableRec ·)) = true := by kernel_rfl
theorem j5 : (namedTie Tryz.prog Rows.worldBeginsRow.named Rows.worldBeginsSpec.vars) = true := by kernel_rfl
theorem j6 : ((Rows.worldBeginsRow.stops == [])) = true := by kernel_rfl
theorem j7 : ((Tryz.prog.stops == [])) = true := by kernel_rfl
theorem j8 : ((Rows.worldBeginsRow.knobs == [])) = true := by kernel_rfl
theorem j9 : ((Tryz.prog.stopKnobs == [])) = true := by kernel_rfl
end Go.Proofs.YtdllplhkcllgfaaGreat
