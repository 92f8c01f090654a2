/- What the row's cells say of the program: the light facts. Nothing is assumed. -/
import Derived.Test.YtdllplhkcllgfaaGreatRows
import Derived.JoinedOf
import Derived.KernelRfl
set_option maxRecDepth 1000000
namespace Go.Proofs.YtdllplhkcllgfaaGreat
theorem j23 : ((Rows.worldBeginsRow.plainKeys == Tryz.prog.plainKeys)) = true := by kernel_rfl
theorem j24 : (Rows.worldBeginsRow.shortTexts.isNone) = true := by kernel_rfl
theorem j25 : (Tryz.prog.stopsHeard) = true := by kernel_rfl
theorem j26 : (Tryz.prog.mayEnter) = true := by kernel_rfl
theorem j27 : ((Rows.worldBeginsRow.lifted == Tryz.prog.liftsFinal)) = true := by kernel_rfl
theorem j28 : ((Tryz.prog.make == some Rows.worldBeginsRow.make)) = true := by kernel_rfl
theorem j29 : ((Rows.worldBeginsRow.kinds == (if Rows.worldBeginsRow.domain.isEmpty then [] else Tryz.f3.params.toList.map fun t => match Tryz.prog.underlying t with | some (.int k) => some k | _ => none))) = true := by kernel_rfl
theorem j30 : ((Rows.worldBeginsRow.pinned == Rows.worldBeginsRow.pinnedBy)) = true := by kernel_rfl
theorem j31 : ((Rows.worldBeginsRow.veiled == (Tryz.f3.params.toList ++ Rows.worldBeginsSpec.plain.varTypes Tryz.prog ++ Tryz.f3.resultTypes.toList).any (Tryz.prog.veiledRec ·))) = true := by kernel_rfl
theorem j32 : (Rows.worldBeginsRow.veiledFits Tryz.prog Tryz.f3.params.toList (Tryz.f3.params.toList ++ Rows.worldBeginsSpec.plain.varTypes Tryz.prog ++ Tryz.f3.resultTypes.toList)) = true := by kernel_rfl
end Go.Proofs.YtdllplhkcllgfaaGreat
