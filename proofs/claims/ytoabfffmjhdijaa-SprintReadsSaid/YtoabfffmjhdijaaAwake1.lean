import Derived.Test.YtoabfffmjhdijaaSample2
import Derived.Test.YtoabfffmjhdijaaApi6
import Derived.Test.YtoabfffmjhdijaaApi7
/- What is told of the sample. -/
set_option linter.unusedSimpArgs false
set_option linter.unusedVariables false
namespace Go.Proofs.Ytoabfffmjhdijaa
theorem smpCount : countR (sampleS false) 0 = (3, 0) := by decide +kernel
theorem smpPlace : placeR (sampleS false) 0 2 = (7, 0) := by decide +kernel
theorem smpPoints : pointsR (sampleS false) 2 = ((6, 15), 0) := by decide +kernel
theorem smpMargin : marginR (sampleS false) 1 2 = ((-9, 7), 0) := by decide +kernel
theorem smpSure : sureR (sampleS false) = ((0, 1), 0) := by decide +kernel
theorem smpFirstE : firstE (sampleS false) 1 = 0 := by decide +kernel
theorem smpFirst : firstX (sampleS false) (sprOf (sampleS false) 1) = [1, 2, 3, 0] := by decide +kernel
theorem smpAsk : askR (sampleS false) 0 = (((0, 2), 2), 0) := by decide +kernel
theorem smpClash : clashR (sampleS true) 0 = (5, 0) := by decide +kernel
end Go.Proofs.Ytoabfffmjhdijaa
