/- A piece of the run, as the kernel carries it out. Nothing is assumed. -/
import Derived.Test.YtdllplhkcllgfaaGreatW0
set_option maxRecDepth 1000000
namespace Go.Proofs.YtdllplhkcllgfaaGreat
open Go.AM
theorem L1_run : segR P xs mem 8000 [0, 5, 6, 7, 8, 9, 10, 11, 12, 13, 14, 15, 16, 17, 18, 19, 20, 23, 24, 25, 26, 28, 82, 84, 86, 88, 92, 93, 94, 95, 96, 97, 117, 118, 119, 125, 129, 130, 131, 132, 133, 134, 142, 143, 144, 145, 146, 147, 148, 149, 150, 151, 152, 153, 154] L0 = some L1 := by kernel_rfl
end Go.Proofs.YtdllplhkcllgfaaGreat
set_option maxRecDepth 1000000
namespace Go.Proofs.YtdllplhkcllgfaaGreat
open Go.AM
theorem L2_run : segR P xs mem 8000 [0, 5, 6, 7, 8, 9, 10, 11, 12, 13, 14, 15, 16, 17, 18, 19, 20, 23, 24, 26, 28, 82, 84, 86, 88, 92, 93, 94, 95, 96, 97, 117, 118, 129, 142, 150, 151, 152, 153, 183, 189, 195, 207, 210, 212, 236, 242, 246, 248, 249, 250, 251] L1 = some L2 := by kernel_rfl
end Go.Proofs.YtdllplhkcllgfaaGreat
