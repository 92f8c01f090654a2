/- What a cell of the row says of the program. Nothing is assumed. -/
import Derived.Test.YtdllplhkcllgfaaGreatRows
import Derived.JoinedOf
import Derived.KernelRfl
set_option maxRecDepth 1000000
namespace Go.Proofs.YtdllplhkcllgfaaGreat
theorem j10 : ((Rows.worldBeginsRow.inPlace == Tryz.prog.inPlace 3)) = true := by kernel_rfl
end Go.Proofs.YtdllplhkcllgfaaGreat
