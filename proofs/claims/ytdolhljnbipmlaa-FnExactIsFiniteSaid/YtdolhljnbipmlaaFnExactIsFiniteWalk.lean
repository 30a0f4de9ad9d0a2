/- The walk of the law FnExactIsFinite: it returns true, for every float32. -/
import Derived.Test.YtdolhljnbipmlaaFlo
import Derived.Below
namespace Go.Proofs.Ytdolhljnbipmlaa.fnExactIsFinite
open Go.RowKit
set_option maxHeartbeats 400000 in
theorem walk (a0 : Nat) (w : World) (_w0 : (Lit.float .f32 a0).wf = true) :
    Calls Try.prog 4 #[.float .f32 a0] w fun e w' => e = .returned (.bool true) ∧ Below w.heap.size w w' := by
  go_enter Try.func4, Try.ntmps4
  go_wp2_with (first | (go_at_call 14; refine (sIsFinite_any _ _).mono ?_; rintro e w' ⟨n, rfl, rfl⟩) | (go_at_call 15; refine (IsFinite_any _ _).mono ?_; rintro e w' ⟨m, rfl, rfl⟩))
  go_ret
  exact ⟨rfl, below_drewN (Below.refl _ _) _⟩
end Go.Proofs.Ytdolhljnbipmlaa.fnExactIsFinite
