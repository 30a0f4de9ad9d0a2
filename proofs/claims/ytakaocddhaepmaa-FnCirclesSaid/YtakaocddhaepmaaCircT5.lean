/-
  FnCircles: tenths of decibels: the numbers looked at, part 5.
-/
import Derived.Test.YtakaocddhaepmaaCircT4
namespace Go.Proofs.Ytakaocddhaepmaa

theorem chkO_9938 : chkO 9938 628 = true := by decide +kernel
theorem chkO_10566 : chkO 10566 680 = true := by decide +kernel
theorem chkO_11246 : chkO 11246 767 = true := by decide +kernel
theorem chkO_12013 : chkO 12013 889 = true := by decide +kernel
theorem chkO_12902 : chkO 12902 993 = true := by decide +kernel
theorem chkO_13895 : chkO 13895 1243 = true := by decide +kernel
theorem chkO_15138 : chkO 15138 1790 = true := by decide +kernel
theorem chkO_16928 : chkO 16928 3072 = true := by decide +kernel
end Go.Proofs.Ytakaocddhaepmaa
