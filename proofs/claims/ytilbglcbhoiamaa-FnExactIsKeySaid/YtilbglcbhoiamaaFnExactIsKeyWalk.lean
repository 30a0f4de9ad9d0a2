/- The walk of the law FnExactIsKey: it returns true, for every integer. -/
import Derived.Test.YtilbglcbhoiamaaHash
import Derived.Below
namespace Go.Proofs.Ytilbglcbhoiamaa.fnExactIsKey
open Go.RowKit
set_option maxHeartbeats 400000 in
theorem walk (a0 : Int) (w : World) (_w0 : (Lit.int .i64 a0).wf = true) :
    Calls Try.prog 3 #[.int .i64 a0] w fun e w' => e = .returned (.bool true) ∧ Below w.heap.size w w' := by
  go_enter Try.func3, Try.ntmps3
  go_wp2_with (first | (go_at_call 14; refine (sIsKey_any _ _).mono ?_; rintro e w' ⟨rfl, rfl⟩) | (go_at_call 15; refine (IsKey_any _ _).mono ?_; rintro e w' ⟨rfl, rfl⟩))
  go_ret
  exact ⟨rfl, Below.refl _ _⟩
end Go.Proofs.Ytilbglcbhoiamaa.fnExactIsKey
