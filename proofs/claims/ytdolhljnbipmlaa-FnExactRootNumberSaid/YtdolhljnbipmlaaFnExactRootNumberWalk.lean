/- The walk of the law FnExactRootNumber: it returns true, for every float32. -/
import Derived.Test.YtdolhljnbipmlaaRoot
import Derived.Below
namespace Go.Proofs.Ytdolhljnbipmlaa.fnExactRootNumber
open Go.RowKit
set_option maxHeartbeats 400000 in
theorem walk (a0 : Nat) (w : World) (_w0 : (Lit.float .f32 a0).wf = true) :
    Calls Try.prog 11 #[.float .f32 a0] w fun e w' => e = .returned (.bool true) ∧ Below w.heap.size w w' := by
  go_enter Try.func11, Try.ntmps11
  go_wp2_with (first
    | (go_at_call 29; refine (sRootNumber_any _ _).mono ?_; rintro e w' ⟨r, n, rfl, rfl, hr⟩)
    | (go_at_call 30; refine (RootNumber_any _ _).mono ?_; rintro e w' ⟨r, n, rfl, rfl, hr⟩)
    | (refine wpList_up rfl _ _ _ rfl _ rfl Try.underlying23 Try.underlying25 ?_; intro r n hr hrb)
    | (go_at_call 18; refine (sameFloat_eq _ _ _ (by simp only [*])).mono ?_; rintro e w' ⟨m, rfl, rfl⟩))
  go_ret
  exact ⟨rfl, below_drewN (Below.refl _ _) _⟩
end Go.Proofs.Ytdolhljnbipmlaa.fnExactRootNumber
