/- Lemmas and contracts of functions, for the laws: Polynomials over the field of 7 elements, checked by the kernel. -/
import Derived.Test.YtaemiknaiccijaaGreatRm12
set_option linter.unusedVariables false
set_option linter.unusedSimpArgs false
namespace Go.Proofs.YtaemiknaiccijaaGreat
set_option maxRecDepth 100000 in
theorem fb7a : (chkR 7 2 0 49 && (chkR 7 3 0 343 && chkR 7 4 0 300)) = true := by decide +kernel
end Go.Proofs.YtaemiknaiccijaaGreat
