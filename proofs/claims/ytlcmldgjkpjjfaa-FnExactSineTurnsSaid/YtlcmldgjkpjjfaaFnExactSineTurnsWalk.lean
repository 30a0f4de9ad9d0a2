/- The walk of the law FnExactSineTurns: it returns true, for every float32. -/
import Derived.Test.YtlcmldgjkpjjfaaTurns
import Derived.Below
namespace Go.Proofs.Ytlcmldgjkpjjfaa.fnExactSineTurns
open Go.RowKit
set_option maxHeartbeats 400000 in
theorem walk (a0 : Nat) (w : World) (_w0 : (Lit.float .f32 a0).wf = true) :
    Calls Try.prog 4 #[.float .f32 a0] w fun e w' => e = .returned (.bool true) ∧ Below w.heap.size w w' := by
  go_enter Try.func4, Try.ntmps4
  go_wp2_with (first
    | (go_at_call 13; refine (sSineTurns_any _ _).mono ?_; rintro e w' ⟨r, n, rfl, rfl, hr⟩)
    | (go_at_call 14; refine (SineTurns_any _ _).mono ?_; rintro e w' ⟨r, n, rfl, rfl, hr⟩)
    | (refine wpList_up rfl _ _ _ rfl _ rfl Try.underlying22 Try.underlying25 ?_; intro r n hr hrb)
    | (go_at_call 12; refine (sameFloat_eq _ _ _ (by simp only [*])).mono ?_; rintro e w' ⟨m, rfl, rfl⟩))
  go_ret
  exact ⟨rfl, below_drewN (Below.refl _ _) _⟩
end Go.Proofs.Ytlcmldgjkpjjfaa.fnExactSineTurns
