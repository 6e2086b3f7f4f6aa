/- Lemmas and contracts of functions, for the laws: Polynomials over the fields of 2, 3 and 5 elements, checked by the kernel. -/
import Derived.Test.YtaemiknaiccijaaGreatRm12
set_option linter.unusedVariables false
set_option linter.unusedSimpArgs false
namespace Go.Proofs.YtaemiknaiccijaaGreat
set_option maxRecDepth 100000 in
theorem fb2 : (chkR 2 2 0 4 && (chkR 2 3 0 8 && chkR 2 4 0 16)) = true := by decide +kernel
set_option maxRecDepth 100000 in
theorem fb3 : (chkR 3 2 0 9 && (chkR 3 3 0 27 && chkR 3 4 0 81)) = true := by decide +kernel
set_option maxRecDepth 100000 in
theorem fb5 : (chkR 5 2 0 25 && (chkR 5 3 0 125 && chkR 5 4 0 625)) = true := by decide +kernel
end Go.Proofs.YtaemiknaiccijaaGreat
