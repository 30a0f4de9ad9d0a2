/- The walk of the law FnExactIsSubnormal: it returns true, for every float32. -/
import Derived.Test.YtdolhljnbipmlaaNum
import Derived.Below
namespace Go.Proofs.Ytdolhljnbipmlaa.fnExactIsSubnormal
open Go.RowKit
set_option maxHeartbeats 400000 in
theorem walk (a0 : Nat) (w : World) (w0 : (Lit.float .f32 a0).wf = true) :
    Calls Try.prog 7 #[.float .f32 a0] w fun e w' => e = .returned (.bool true) ∧ Below w.heap.size w w' := by
  have hb : a0 < 4294967296 := by simpa [Lit.wf] using w0
  clear w0
  go_enter Try.func7, Try.ntmps7
  go_wp2_with (first | (go_at_call 21; refine (sIsSubnormal_any _ _ hb).mono ?_; rintro e w' ⟨rfl, rfl⟩) | (go_at_call 22; refine (IsSubnormal_any _ _).mono ?_; rintro e w' ⟨n, rfl, rfl⟩))
  go_ret
  exact ⟨rfl, below_drewN (Below.refl _ _) _⟩
end Go.Proofs.Ytdolhljnbipmlaa.fnExactIsSubnormal
