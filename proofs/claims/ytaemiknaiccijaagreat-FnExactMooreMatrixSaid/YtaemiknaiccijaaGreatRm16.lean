/- Lemmas and contracts of functions, for the laws: Polynomials over the field of 7 elements, checked by the kernel. -/
import Derived.Test.YtaemiknaiccijaaGreatRm12
set_option linter.unusedVariables false
set_option linter.unusedSimpArgs false
namespace Go.Proofs.YtaemiknaiccijaaGreat
set_option maxRecDepth 100000 in
theorem fb7_900 : (chkR 7 4 900 1200) = true := by decide +kernel
set_option maxRecDepth 100000 in
theorem fb7_1200 : (chkR 7 4 1200 1500) = true := by decide +kernel
end Go.Proofs.YtaemiknaiccijaaGreat
