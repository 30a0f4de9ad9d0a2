/- The walk of the law FnExactLowZerosOf: it returns true, for all arguments, where the listed table holds what is listed. -/
import Derived.Test.YtlbhmjkghdhlpaaDoorLaid
import Derived.Below
namespace Go.Proofs.YtlbhmjkghdhlpaaDoor.fnExactLowZerosOf
open Go.RowKit
set_option maxHeartbeats 400000 in
theorem walk (a0 : Int) (w : World) (_w0 : (Lit.int .i64 a0).wf = true) (hL : laidMet Tryd.prog Rows.fnExactLowZerosOfRow.laid w) :
    Calls Tryd.prog 3 #[.int .i64 a0] w fun e w' => e = .returned (.bool true) ∧ Below w.heap.size w w' := by
  have hT := Lib.hid (tab32_of (rest := []) hL)
  clear hL
  go_enter Tryd.func3, Tryd.ntmps3
  go_wp2_with (first | (go_at_call 8; refine (sLowZerosOf_any _ _).mono ?_; rintro e w' ⟨rfl, rfl⟩) | (go_at_call 9; refine (LowZerosOf_any _ _ hT.out).mono ?_; rintro e w' ⟨rfl, rfl⟩))
  go_ret
  exact ⟨rfl, Below.refl _ _⟩
end Go.Proofs.YtlbhmjkghdhlpaaDoor.fnExactLowZerosOf
