/- The walk of the law FnExactLogNumber: it returns true, for every float32. -/
import Derived.Test.YtlcmldgjkpjjfaaLogN
import Derived.Below
namespace Go.Proofs.Ytlcmldgjkpjjfaa.fnExactLogNumber
open Go.RowKit
set_option maxHeartbeats 400000 in
theorem walk (a0 : Nat) (w : World) (w0 : (Lit.float .f32 a0).wf = true) :
    Calls Try.prog 5 #[.float .f32 a0] w fun e w' => e = .returned (.bool true) ∧ Below w.heap.size w w' := by
  have HB : Hid (a0 < 4294967296) := Lib.hid (by simpa [Lit.wf] using w0)
  clear w0
  go_enter Try.func5, Try.ntmps5
  go_wp2_with (first
    | (go_at_call 15; refine (sLogNumber_any _ _).mono ?_; rintro e w' ⟨r, n, rfl, rfl, hr⟩)
    | (go_at_call 16; refine (LogNumber_any _ _ HB.out).mono ?_; rintro e w' ⟨r, n, rfl, rfl, hr⟩)
    | (refine wpList_up rfl _ _ _ rfl _ rfl Try.underlying22 Try.underlying25 ?_; intro r n hr hrb)
    | (go_at_call 12; refine (sameFloat_eq _ _ _ (by simp only [*])).mono ?_; rintro e w' ⟨m, rfl, rfl⟩))
  go_ret
  exact ⟨rfl, below_drewN (Below.refl _ _) _⟩
end Go.Proofs.Ytlcmldgjkpjjfaa.fnExactLogNumber
