/- What the row's cells say of the program: all of it. Nothing is assumed. -/
import Derived.Test.YtdllplhkcllgfaaGreatJ0
import Derived.Test.YtdllplhkcllgfaaGreatJ1
import Derived.Test.YtdllplhkcllgfaaGreatJ2
import Derived.Test.YtdllplhkcllgfaaGreatJ10
import Derived.Test.YtdllplhkcllgfaaGreatJ11
import Derived.Test.YtdllplhkcllgfaaGreatJ12
import Derived.Test.YtdllplhkcllgfaaGreatJ13
set_option maxRecDepth 1000000
namespace Go.Proofs.YtdllplhkcllgfaaGreat
theorem both {a b : Bool} (ha : a = true) (hb : b = true) : (a && b) = true := by rw [ha, hb]; rfl
theorem closed : joinedFacts Tryz.prog 3 Tryz.f3 Rows.worldBeginsSpec Rows.worldBeginsRow = true := by
  unfold joinedFacts
  exact both (both (both (both (both (both (both (both (both (both (both (both (both (both (both (both (both (both (both (both (both (both (both (both (both (both (both (both (both (both (both j1 j2) j3) j4) j5) j6) j7) j8) j9) j10) j11) j12) j13) j14) j15) j16) j17) j18) j19) j20) j21) j22) j23) j24) j25) j26) j27) j28) j29) j30) j31) j32
end Go.Proofs.YtdllplhkcllgfaaGreat
