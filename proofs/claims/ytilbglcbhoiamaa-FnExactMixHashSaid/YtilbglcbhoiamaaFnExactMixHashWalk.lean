/- The walk of the law FnExactMixHash: it returns true, for every 64-bit word. -/
import Derived.Test.YtilbglcbhoiamaaHash
import Derived.Below
namespace Go.Proofs.Ytilbglcbhoiamaa.fnExactMixHash
open Go.RowKit
set_option maxHeartbeats 400000 in
theorem walk (a0 : Int) (w : World) (_w0 : (Lit.int .u64 a0).wf = true) :
    Calls Try.prog 4 #[.int .u64 a0] w fun e w' => e = .returned (.bool true) ∧ Below w.heap.size w w' := by
  go_enter Try.func4, Try.ntmps4
  go_wp2_with (first | (go_at_call 16; refine (sMixHash_any _ _).mono ?_; rintro e w' ⟨rfl, rfl⟩) | (go_at_call 17; refine (MixHash_any _ _).mono ?_; rintro e w' ⟨rfl, rfl⟩))
  go_ret
  exact ⟨rfl, Below.refl _ _⟩
end Go.Proofs.Ytilbglcbhoiamaa.fnExactMixHash
