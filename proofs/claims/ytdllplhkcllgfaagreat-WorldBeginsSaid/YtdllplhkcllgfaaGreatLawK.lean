/- The law's own part with 1 clients. Nothing is assumed. -/
import Derived.Test.YtdllplhkcllgfaaGreatLawA
set_option maxRecDepth 1000000
namespace Go.Proofs.YtdllplhkcllgfaaGreat
open Go.AM
theorem first1 : calls (A1 1) = some (29, [.sym 1], none) := by kernel_rfl
theorem nil1 : ends (N2 1 939) = some (true, some (.bool true)) := by kernel_rfl
theorem second1 (bs : List AV) : calls (B2 1 bs) = some (29, [.sliceS 634 0 13], some (.cells bs none false)) := by kernel_rfl
theorem non1 (bs : List AV) : ends (B3 1 bs 907) = some (true, some (.bool true)) := by kernel_rfl
end Go.Proofs.YtdllplhkcllgfaaGreat
set_option maxRecDepth 1000000
namespace Go.Proofs.YtdllplhkcllgfaaGreat
open Go.AM
theorem first2 : calls (A1 2) = some (29, [.sym 1], none) := by kernel_rfl
theorem nil2 : ends (N2 2 1091) = some (true, some (.bool true)) := by kernel_rfl
theorem second2 (bs : List AV) : calls (B2 2 bs) = some (29, [.sliceS 634 0 13], some (.cells bs none false)) := by kernel_rfl
theorem non2 (bs : List AV) : ends (B3 2 bs 1059) = some (true, some (.bool true)) := by kernel_rfl
end Go.Proofs.YtdllplhkcllgfaaGreat
set_option maxRecDepth 1000000
namespace Go.Proofs.YtdllplhkcllgfaaGreat
open Go.AM
theorem first3 : calls (A1 3) = some (29, [.sym 1], none) := by kernel_rfl
theorem nil3 : ends (N2 3 1243) = some (true, some (.bool true)) := by kernel_rfl
theorem second3 (bs : List AV) : calls (B2 3 bs) = some (29, [.sliceS 634 0 13], some (.cells bs none false)) := by kernel_rfl
theorem non3 (bs : List AV) : ends (B3 3 bs 1211) = some (true, some (.bool true)) := by kernel_rfl
end Go.Proofs.YtdllplhkcllgfaaGreat
set_option maxRecDepth 1000000
namespace Go.Proofs.YtdllplhkcllgfaaGreat
open Go.AM
theorem first4 : calls (A1 4) = some (29, [.sym 1], none) := by kernel_rfl
theorem nil4 : ends (N2 4 1395) = some (true, some (.bool true)) := by kernel_rfl
theorem second4 (bs : List AV) : calls (B2 4 bs) = some (29, [.sliceS 634 0 13], some (.cells bs none false)) := by kernel_rfl
theorem non4 (bs : List AV) : ends (B3 4 bs 1363) = some (true, some (.bool true)) := by kernel_rfl
end Go.Proofs.YtdllplhkcllgfaaGreat
