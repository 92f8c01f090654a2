/- A piece of the run, as the kernel carries it out. Nothing is assumed. -/
import Derived.Test.YtdllplhkcllgfaaGreatW0
set_option maxRecDepth 1000000
namespace Go.Proofs.YtdllplhkcllgfaaGreat
open Go.AM
theorem L5_run : segR P xs mem 8000 [0, 5, 6, 7, 8, 9, 10, 11, 12, 13, 14, 15, 16, 17, 18, 19, 20, 23, 24, 26, 28, 84, 86, 92, 93, 94, 95, 96, 97, 117, 118, 129, 150, 151, 152, 153, 195, 210, 212, 281, 355, 385, 413, 442, 473, 505, 521, 522, 526, 529] L4 = some L5 := by kernel_rfl
end Go.Proofs.YtdllplhkcllgfaaGreat
set_option maxRecDepth 1000000
namespace Go.Proofs.YtdllplhkcllgfaaGreat
open Go.AM
theorem L6_run : segR P xs mem 6709 [0, 632] L5 = some L6 := by kernel_rfl
end Go.Proofs.YtdllplhkcllgfaaGreat
