/- The walk of the law FnExactShareHash: it returns true, for all arguments. -/
import Derived.Test.YtilbglcbhoiamaaShare2
import Derived.Below
namespace Go.Proofs.Ytilbglcbhoiamaa.fnExactShareHash
open Go.RowKit
set_option maxHeartbeats 400000 in
theorem walk (a0 a1 : Int) (w : World) (_w0 : (Lit.int .i64 a0).wf = true) (_w1 : (Lit.int .i64 a1).wf = true) :
    Calls Try.prog 7 #[.int .i64 a0, .int .i64 a1] w fun e w' => e = .returned (.bool true) ∧ Below w.heap.size w w' := by
  go_enter Try.func7, Try.ntmps7
  go_wp2_with (first
    | (go_at_call 22; refine (sShareHash_any _ _ _).mono ?_; rintro e w' ⟨r, n, rfl, rfl, hr⟩)
    | (go_at_call 23; refine (ShareHash_any _ _ _).mono ?_; rintro e w' ⟨r, n, rfl, rfl, hr⟩)
    | (refine wpList_up rfl _ _ _ rfl _ rfl Try.underlying31 Try.underlying35 ?_; intro r n hr hrb)
    | (go_at_call 24; refine (sameFloat_eq _ _ _ (by simp only [*])).mono ?_; rintro e w' ⟨m, rfl, rfl⟩))
  go_ret
  exact ⟨rfl, below_drewN (Below.refl _ _) _⟩
end Go.Proofs.Ytilbglcbhoiamaa.fnExactShareHash
