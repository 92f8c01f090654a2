/- What a cell of the row says of the program. Nothing is assumed. -/
import Derived.Test.YtdllplhkcllgfaaGreatRows
import Derived.JoinedOf
import Derived.KernelRfl
set_option maxRecDepth 1000000
namespace Go.Proofs.YtdllplhkcllgfaaGreat
theorem j13 : ((Rows.worldBeginsRow.named == Tryz.prog.varsNamed 3)) = true := by kernel_rfl
end Go.Proofs.YtdllplhkcllgfaaGreat
