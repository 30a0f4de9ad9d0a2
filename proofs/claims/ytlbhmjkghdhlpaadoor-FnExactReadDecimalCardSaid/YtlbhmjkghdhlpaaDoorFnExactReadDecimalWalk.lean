/- The walk of the law FnExactReadDecimal: it returns true, for all arguments, where the listed variables hold what is listed. -/
import Derived.Test.YtlbhmjkghdhlpaaDoorReadI
namespace Go.Proofs.YtlbhmjkghdhlpaaDoor.fnExactReadDecimal
open Go.RowKit Go.Lib
set_option maxHeartbeats 400000 in
theorem walk (s : ByteArray) (w : World) (_ws : s.size ≤ maxLen) (hL : laidMet Tryd.prog Rows.fnExactReadDecimalRow.laid w) :
    Calls Tryd.prog 5 #[.string s] w fun e w' => e = .returned (.bool true) ∧ Below w.heap.size w w' := by
  have HT := Lib.hid (show PowT w from pow_of hL.tail.tail)
  have HE := Lib.hid (show ErrT w from ⟨errS_of (r := []) hL.tail.tail.tail.tail, errR_of hL.tail.tail.tail⟩)
  clear hL
  by_cases hs : s.size ≤ 1048576
  · go_enter Tryd.func5, Tryd.ntmps5
    go_wp2_with fail
    refine (sReadDecimal_any s _).mono ?_
    rintro e w1 ⟨rfl, b1⟩
    have HT1 := Lib.hid (HT.out.below b1)
    have HE1 := Lib.hid (HE.out.below b1)
    go_wp2_with fail
    refine (ReadDecimal_any s _ hs HT1.out HE1.out).mono ?_
    rintro e w2 ⟨rfl, b2⟩
    have b3 := b1.trans (b2.mono b1.size)
    go_wp2
    go_ret
    exact ⟨rfl, b3⟩
  · go_enter Tryd.func5, Tryd.ntmps5
    go_wp2
    go_ret
    exact ⟨rfl, Below.refl _ _⟩
end Go.Proofs.YtlbhmjkghdhlpaaDoor.fnExactReadDecimal
