/-
  FnCircles: tenths of decibels: the numbers looked at, part 4.
-/
import Derived.Test.YtakaocddhaepmaaCircT3
namespace Go.Proofs.Ytakaocddhaepmaa

theorem chkO_6143 : chkO 6143 390 = true := by decide +kernel
theorem chkO_6533 : chkO 6533 396 = true := by decide +kernel
theorem chkO_6929 : chkO 6929 436 = true := by decide +kernel
theorem chkO_7365 : chkO 7365 458 = true := by decide +kernel
theorem chkO_7823 : chkO 7823 480 = true := by decide +kernel
theorem chkO_8303 : chkO 8303 510 = true := by decide +kernel
theorem chkO_8813 : chkO 8813 548 = true := by decide +kernel
theorem chkO_9361 : chkO 9361 577 = true := by decide +kernel
end Go.Proofs.Ytakaocddhaepmaa
