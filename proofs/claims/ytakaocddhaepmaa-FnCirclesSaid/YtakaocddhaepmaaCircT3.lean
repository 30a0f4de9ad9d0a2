/-
  FnCircles: tenths of decibels: the numbers looked at, part 3.
-/
import Derived.Test.YtakaocddhaepmaaCircT2
namespace Go.Proofs.Ytakaocddhaepmaa

theorem chkO_3468 : chkO 3468 299 = true := by decide +kernel
theorem chkO_3767 : chkO 3767 299 = true := by decide +kernel
theorem chkO_4066 : chkO 4066 320 = true := by decide +kernel
theorem chkO_4386 : chkO 4386 336 = true := by decide +kernel
theorem chkO_4722 : chkO 4722 341 = true := by decide +kernel
theorem chkO_5063 : chkO 5063 349 = true := by decide +kernel
theorem chkO_5412 : chkO 5412 357 = true := by decide +kernel
theorem chkO_5769 : chkO 5769 374 = true := by decide +kernel
end Go.Proofs.Ytakaocddhaepmaa
