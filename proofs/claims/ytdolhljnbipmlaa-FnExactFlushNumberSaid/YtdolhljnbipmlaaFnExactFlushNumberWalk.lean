/- The walk of the law FnExactFlushNumber: it returns true, for every float32. -/
import Derived.Test.YtdolhljnbipmlaaFlush
import Derived.Below
namespace Go.Proofs.Ytdolhljnbipmlaa.fnExactFlushNumber
open Go.RowKit
set_option maxHeartbeats 400000 in
theorem walk (a0 : Nat) (w : World) (w0 : (Lit.float .f32 a0).wf = true) :
    Calls Try.prog 10 #[.float .f32 a0] w fun e w' => e = .returned (.bool true) ∧ Below w.heap.size w w' := by
  have h0 : a0 < 4294967296 := by simpa [Lit.wf] using w0
  clear w0
  go_enter Try.func10, Try.ntmps10
  go_wp2_with (first
    | (go_at_call 27; refine (sFlushNumber_any _ _ h0).mono ?_; rintro e w' ⟨r, rfl, rfl, hr⟩)
    | (go_at_call 28; refine (FlushNumber_any _ _ h0).mono ?_; rintro e w' ⟨r, n, rfl, rfl, hr⟩)
    | (refine wpList_up rfl _ _ _ rfl _ rfl Try.underlying23 Try.underlying25 ?_; intro r n hr hrb)
    | (go_at_call 18; refine (sameFloat_eq _ _ _ (by simp only [*])).mono ?_; rintro e w' ⟨m, rfl, rfl⟩))
  go_ret
  exact ⟨rfl, below_drewN (Below.refl _ _) _⟩
end Go.Proofs.Ytdolhljnbipmlaa.fnExactFlushNumber
