/- A number that came in lies in its kind. -/
import Derived.Test.YtgiajfgeplekbaaD9
import Derived.WalkArith
set_option linter.unusedVariables false
namespace Go.Proofs.Ytgiajfgeplekbaa
theorem int_le {n : Int} (h : (Lit.int .i64 n).wf = true) : n ≤ 9223372036854775807 := by
  simp [Lit.wf] at h
  omega
end Go.Proofs.Ytgiajfgeplekbaa
