/- A piece of the run, as the kernel carries it out. Nothing is assumed. -/
import Derived.Test.YtdllplhkcllgfaaGreatW0
set_option maxRecDepth 1000000
namespace Go.Proofs.YtdllplhkcllgfaaGreat
open Go.AM
theorem L3_run : segR P xs mem 8000 [0, 5, 6, 7, 8, 9, 10, 11, 12, 13, 14, 15, 16, 17, 18, 19, 20, 23, 24, 26, 28, 82, 84, 86, 88, 92, 93, 94, 95, 96, 97, 117, 118, 129, 150, 151, 152, 153, 195, 210, 212, 236, 242, 260, 281, 323, 329, 335, 336, 337, 338, 339, 340, 341, 342, 343, 344, 345] L2 = some L3 := by kernel_rfl
end Go.Proofs.YtdllplhkcllgfaaGreat
set_option maxRecDepth 1000000
namespace Go.Proofs.YtdllplhkcllgfaaGreat
open Go.AM
theorem L4_run : segR P xs mem 8000 [0, 5, 6, 7, 8, 9, 10, 11, 12, 13, 14, 15, 16, 17, 18, 19, 20, 23, 24, 26, 28, 84, 86, 92, 93, 94, 95, 96, 97, 117, 118, 129, 150, 151, 152, 153, 195, 210, 212, 281, 323, 329, 346, 355, 385, 386, 392, 401, 402, 403, 404, 405, 413, 414, 415, 416, 419, 420, 421, 422, 429, 431] L3 = some L4 := by kernel_rfl
end Go.Proofs.YtdllplhkcllgfaaGreat
