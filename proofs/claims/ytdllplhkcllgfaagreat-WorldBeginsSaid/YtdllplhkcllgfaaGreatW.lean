/- The pieces of the run joined: the table's, which makes it a known function; the law's, to where its own part begins. Nothing is assumed. -/
import Derived.Test.YtdllplhkcllgfaaGreatX
import Derived.Test.YtdllplhkcllgfaaGreatKn
import Derived.Test.YtdllplhkcllgfaaGreatWM
import Derived.Test.YtdllplhkcllgfaaGreatWLa
import Derived.Test.YtdllplhkcllgfaaGreatWLb
import Derived.Test.YtdllplhkcllgfaaGreatWLc
set_option maxRecDepth 1000000
namespace Go.Proofs.YtdllplhkcllgfaaGreat
open Go.AM

theorem noMemOk : MemOk P noMem := fun _ _ _ h => by cases h
theorem mRuns : Runs P M0 M5 :=
  (runs_of xok mixed noMemOk M1_run).trans ((runs_of xok mixed noMemOk M2_run).trans ((runs_of xok mixed noMemOk M3_run).trans ((runs_of xok mixed noMemOk M4_run).trans (runs_of xok mixed noMemOk M5_run))))
theorem m_enter : enterA P 223 [.ptr 0 0] .normal = some mr0 := by kernel_rfl
theorem m_done : doneA M5 = true := by kernel_rfl
theorem m_answer : answerA P 223 M5 = some undefA := by kernel_rfl
theorem m_behind : M5.heap.get 0 = some (.cells crcBehind none false) := by kernel_rfl
theorem m_known : Known P 223 crcBefore crcBehind :=
  known_of_runs (by kernel_rfl) (by kernel_rfl) m_enter mRuns m_done m_answer m_behind
theorem memOk : MemOk P mem := by
  intro g x0 x1 h
  unfold mem at h
  split at h
  · injection h with h; injection h with h1 h2; subst h1 h2; exact m_known
  · cases h
theorem lRuns : Runs P L0 L6 :=
  (runs_of xok mixed memOk L1_run).trans ((runs_of xok mixed memOk L2_run).trans ((runs_of xok mixed memOk L3_run).trans ((runs_of xok mixed memOk L4_run).trans ((runs_of xok mixed memOk L5_run).trans (runs_of xok mixed memOk L6_run)))))
end Go.Proofs.YtdllplhkcllgfaaGreat
