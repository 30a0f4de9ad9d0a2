/- The walk of the law FnExactBitsOf: it returns true, for every float32. -/
import Derived.Test.YtdolhljnbipmlaaFlo
import Derived.Below
namespace Go.Proofs.Ytdolhljnbipmlaa.fnExactBitsOf
open Go.RowKit
set_option maxHeartbeats 400000 in
theorem walk (a0 : Nat) (w : World) (w0 : (Lit.float .f32 a0).wf = true) :
    Calls Try.prog 6 #[.float .f32 a0] w fun e w' => e = .returned (.bool true) ∧ Below w.heap.size w w' := by
  have hb : a0 < 4294967296 := by simpa [Lit.wf] using w0
  clear w0
  go_enter Try.func6, Try.ntmps6
  go_wp2_with (first | (go_at_call 19; refine (sBitsOf_any _ _ hb).mono ?_; rintro e w' ⟨rfl, rfl⟩) | (go_at_call 20; refine (BitsOf_any _ _ hb).mono ?_; rintro e w' ⟨rfl, rfl⟩))
  go_ret
  exact ⟨rfl, Below.refl _ _⟩
end Go.Proofs.Ytdolhljnbipmlaa.fnExactBitsOf
