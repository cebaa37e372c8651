/- Part of the proof of this claim: text FA2. -/
import Derived.Test.YtfcpgeanbklleaaGreatDoorFA
set_option linter.unusedSectionVars false
set_option linter.unusedSimpArgs false
set_option linter.unusedVariables false
namespace LV
open Go Ab Go.Proofs
set_option maxRecDepth 100000
theorem eR6 : lvR6.all okA = true := by decide +kernel
theorem eR7 : lvR7.all okA = true := by decide +kernel
theorem eR8 : lvR8.all okA = true := by decide +kernel
theorem eR9 : lvR9.all okA = true := by decide +kernel
theorem eR10 : lvR10.all okA = true := by decide +kernel
theorem eR11 : lvR11.all okA = true := by decide +kernel
end LV
