/- The walk of the law FnExactSameNumber: it returns true, for every two float32. -/
import Derived.Test.YtdolhljnbipmlaaSame
import Derived.Below
namespace Go.Proofs.Ytdolhljnbipmlaa.fnExactSameNumber
open Go.RowKit
set_option maxHeartbeats 400000 in
theorem walk (a0 a1 : Nat) (w : World) (w0 : (Lit.float .f32 a0).wf = true) (w1 : (Lit.float .f32 a1).wf = true) :
    Calls Try.prog 8 #[.float .f32 a0, .float .f32 a1] w fun e w' => e = .returned (.bool true) ∧ Below w.heap.size w w' := by
  have h0 : a0 < 4294967296 := by simpa [Lit.wf] using w0
  have h1 : a1 < 4294967296 := by simpa [Lit.wf] using w1
  clear w0 w1
  go_enter Try.func8, Try.ntmps8
  go_wp2_with (first | (go_at_call 23; refine (sSameNumber_any _ _ _ h0 h1).mono ?_; rintro e w' ⟨rfl, rfl⟩) | (go_at_call 24; refine (SameNumber_any _ _ _ h0 h1).mono ?_; rintro e w' ⟨n, rfl, rfl⟩))
  go_ret
  exact ⟨rfl, below_drewN (Below.refl _ _) _⟩
end Go.Proofs.Ytdolhljnbipmlaa.fnExactSameNumber
