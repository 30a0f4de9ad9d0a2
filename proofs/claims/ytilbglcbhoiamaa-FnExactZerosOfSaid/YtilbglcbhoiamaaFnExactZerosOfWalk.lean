/- The walk of the law FnExactZerosOf: it returns true, for all arguments. -/
import Derived.Test.YtilbglcbhoiamaaZeros
import Derived.Below
namespace Go.Proofs.Ytilbglcbhoiamaa.fnExactZerosOf
open Go.RowKit
set_option maxHeartbeats 400000 in
theorem walk (a0 : Int) (w : World) (_w0 : (Lit.int .i64 a0).wf = true) :
    Calls Try.prog 9 #[.int .i64 a0] w fun e w' => e = .returned (.bool true) ∧ Below w.heap.size w w' := by
  go_enter Try.func9, Try.ntmps9
  go_wp2_with (first | (go_at_call 27; refine (sZerosOf_any _ _).mono ?_; rintro e w' ⟨rfl, rfl⟩) | (go_at_call 28; refine (ZerosOf_any _ _).mono ?_; rintro e w' ⟨rfl, rfl⟩))
  go_ret
  exact ⟨rfl, Below.refl _ _⟩
end Go.Proofs.Ytilbglcbhoiamaa.fnExactZerosOf
