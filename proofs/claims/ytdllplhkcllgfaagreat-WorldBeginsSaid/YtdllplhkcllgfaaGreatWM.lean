/- A piece of the run, as the kernel carries it out. Nothing is assumed. -/
import Derived.Test.YtdllplhkcllgfaaGreatW0
set_option maxRecDepth 1000000
namespace Go.Proofs.YtdllplhkcllgfaaGreat
open Go.AM
theorem M1_run : segR P xs noMem 14000 [0] M0 = some M1 := by kernel_rfl
end Go.Proofs.YtdllplhkcllgfaaGreat
set_option maxRecDepth 1000000
namespace Go.Proofs.YtdllplhkcllgfaaGreat
open Go.AM
theorem M2_run : segR P xs noMem 14000 [0] M1 = some M2 := by kernel_rfl
end Go.Proofs.YtdllplhkcllgfaaGreat
set_option maxRecDepth 1000000
namespace Go.Proofs.YtdllplhkcllgfaaGreat
open Go.AM
theorem M3_run : segR P xs noMem 14000 [0] M2 = some M3 := by kernel_rfl
end Go.Proofs.YtdllplhkcllgfaaGreat
set_option maxRecDepth 1000000
namespace Go.Proofs.YtdllplhkcllgfaaGreat
open Go.AM
theorem M4_run : segR P xs noMem 14000 [0] M3 = some M4 := by kernel_rfl
end Go.Proofs.YtdllplhkcllgfaaGreat
set_option maxRecDepth 1000000
namespace Go.Proofs.YtdllplhkcllgfaaGreat
open Go.AM
theorem M5_run : segR P xs noMem 12910 [0] M4 = some M5 := by kernel_rfl
end Go.Proofs.YtdllplhkcllgfaaGreat
