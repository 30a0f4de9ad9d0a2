/- The walk of the law FnExactDecimal: it returns true, for all arguments, where the listed tables hold what is listed. -/
import Derived.Test.YtlbhmjkghdhlpaaDoorDecI
namespace Go.Proofs.YtlbhmjkghdhlpaaDoor.fnExactDecimal
open Go.RowKit Go.Lib
set_option maxHeartbeats 400000 in
theorem walk (a0 : Int) (w : World) (w0 : (Lit.int .i64 a0).wf = true) (hL : laidMet Tryd.prog Rows.fnExactDecimalRow.laid w) :
    Calls Tryd.prog 4 #[.int .i64 a0] w fun e w' => e = .returned (.bool true) ∧ Below w.heap.size w w' := by
  have hT : PowT w := pow_of (rest := []) hL.tail.tail
  have HW := Lib.hid w0
  have HT := Lib.hid hT
  clear hL hT w0
  go_enter Tryd.func4, Tryd.ntmps4
  go_wp2_with fail
  refine (sDecimal_any _ _ HW.out).mono ?_
  rintro e w1 ⟨rfl, b1⟩
  have HT1 := Lib.hid (HT.out.below b1)
  go_wp2_with fail
  refine (Decimal_any _ _ HW.out HT1.out).mono ?_
  rintro e w2 ⟨rfl, b2⟩
  have b3 := b1.trans (b2.mono b1.size)
  go_wp2
  go_ret
  exact ⟨rfl, b3⟩
end Go.Proofs.YtlbhmjkghdhlpaaDoor.fnExactDecimal
