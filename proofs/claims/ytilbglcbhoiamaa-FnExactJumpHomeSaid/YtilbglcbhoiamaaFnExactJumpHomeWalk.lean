/- The walk of the law FnExactJumpHome: it returns true, for all arguments. -/
import Derived.Test.YtilbglcbhoiamaaJump
import Derived.Below
namespace Go.Proofs.Ytilbglcbhoiamaa.fnExactJumpHome
open Go.RowKit
set_option maxHeartbeats 400000 in
theorem walk (a0 : Int) (a1 : Int) (w : World) (_w0 : (Lit.int .i64 a0).wf = true) (_w1 : (Lit.int .i64 a1).wf = true) :
    Calls Try.prog 13 #[.int .i64 a0, .int .i64 a1] w fun e w' => e = .returned (.bool true) ∧ Below w.heap.size w w' := by
  go_enter Try.func13, Try.ntmps13
  go_wp2_with (first | (go_at_call 38; refine (sJumpHome_any _ _ _).mono ?_; rintro e w' ⟨rfl, rfl⟩) | (go_at_call 39; refine (JumpHome_any _ _ _).mono ?_; rintro e w' ⟨rfl, rfl⟩))
  go_ret
  exact ⟨rfl, Below.refl _ _⟩
end Go.Proofs.Ytilbglcbhoiamaa.fnExactJumpHome
