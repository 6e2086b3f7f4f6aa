/- Lemmas and contracts of functions, for the laws: Polynomials over the field of 7 elements, checked by the kernel. -/
import Derived.Test.YtaemiknaiccijaaGreatRm12
set_option linter.unusedVariables false
set_option linter.unusedSimpArgs false
namespace Go.Proofs.YtaemiknaiccijaaGreat
set_option maxRecDepth 100000 in
theorem fb7_300 : (chkR 7 4 300 600) = true := by decide +kernel
set_option maxRecDepth 100000 in
theorem fb7_600 : (chkR 7 4 600 900) = true := by decide +kernel
end Go.Proofs.YtaemiknaiccijaaGreat
