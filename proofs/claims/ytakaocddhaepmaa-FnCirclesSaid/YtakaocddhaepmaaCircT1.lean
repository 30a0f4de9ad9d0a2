/-
  FnCircles: tenths of decibels: the numbers looked at, part 1.
-/
import Derived.Test.YtakaocddhaepmaaCircT0
namespace Go.Proofs.Ytakaocddhaepmaa

theorem chkO_0 : chkO 0 102 = true := by decide +kernel
theorem chkO_102 : chkO 102 152 = true := by decide +kernel
theorem chkO_254 : chkO 254 164 = true := by decide +kernel
theorem chkO_418 : chkO 418 174 = true := by decide +kernel
theorem chkO_592 : chkO 592 187 = true := by decide +kernel
theorem chkO_779 : chkO 779 202 = true := by decide +kernel
theorem chkO_981 : chkO 981 209 = true := by decide +kernel
theorem chkO_1190 : chkO 1190 221 = true := by decide +kernel
end Go.Proofs.Ytakaocddhaepmaa
