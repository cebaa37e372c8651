/- Part of the proof of this claim: text FA1. -/
import Derived.Test.YtfcpgeanbklleaaGreatDoorFA
set_option linter.unusedSectionVars false
set_option linter.unusedSimpArgs false
set_option linter.unusedVariables false
namespace LV
open Go Ab Go.Proofs
set_option maxRecDepth 100000
theorem eR0 : lvR0.all okA = true := by decide +kernel
theorem eR1 : lvR1.all okA = true := by decide +kernel
theorem eR2 : lvR2.all okA = true := by decide +kernel
theorem eR3 : lvR3.all okA = true := by decide +kernel
theorem eR4 : lvR4.all okA = true := by decide +kernel
theorem eR5 : lvR5.all okA = true := by decide +kernel
end LV
