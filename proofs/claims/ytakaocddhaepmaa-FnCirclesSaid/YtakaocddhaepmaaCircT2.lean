/-
  FnCircles: tenths of decibels: the numbers looked at, part 2.
-/
import Derived.Test.YtakaocddhaepmaaCircT1
namespace Go.Proofs.Ytakaocddhaepmaa

theorem chkO_1411 : chkO 1411 228 = true := by decide +kernel
theorem chkO_1639 : chkO 1639 232 = true := by decide +kernel
theorem chkO_1871 : chkO 1871 246 = true := by decide +kernel
theorem chkO_2117 : chkO 2117 256 = true := by decide +kernel
theorem chkO_2373 : chkO 2373 254 = true := by decide +kernel
theorem chkO_2627 : chkO 2627 272 = true := by decide +kernel
theorem chkO_2899 : chkO 2899 283 = true := by decide +kernel
theorem chkO_3182 : chkO 3182 286 = true := by decide +kernel
end Go.Proofs.Ytakaocddhaepmaa
