/- Lemmas and contracts of functions, for the laws: Polynomials over the field of 7 elements, checked by the kernel. -/
import Derived.Test.YtaemiknaiccijaaGreatRm12
set_option linter.unusedVariables false
set_option linter.unusedSimpArgs false
namespace Go.Proofs.YtaemiknaiccijaaGreat
set_option maxRecDepth 100000 in
theorem fb7_1500 : (chkR 7 4 1500 1800) = true := by decide +kernel
set_option maxRecDepth 100000 in
theorem fb7_1800 : (chkR 7 4 1800 2100) = true := by decide +kernel
set_option maxRecDepth 100000 in
theorem fb7_2100 : (chkR 7 4 2100 2401) = true := by decide +kernel
end Go.Proofs.YtaemiknaiccijaaGreat
