/- The walk of the law FnExactAngleTurns: it returns true, for all arguments. -/
import Derived.Test.YtlcmldgjkpjjfaaAngle4
import Derived.Below
namespace Go.Proofs.Ytlcmldgjkpjjfaa.fnExactAngleTurns
open Go.RowKit
set_option maxHeartbeats 400000 in
theorem walk (a0 : Nat) (a1 : Nat) (w : World) (_w0 : (Lit.float .f32 a0).wf = true) (_w1 : (Lit.float .f32 a1).wf = true) :
    Calls Try.prog 8 #[.float .f32 a0, .float .f32 a1] w fun e w' => e = .returned (.bool true) ∧ Below w.heap.size w w' := by
  go_enter Try.func8, Try.ntmps8
  go_wp2_with (first
    | (go_at_call 22; refine (sAngleTurns_any _ _ _).mono ?_; rintro e w' ⟨r, n, rfl, rfl, hr⟩)
    | (go_at_call 23; refine (AngleTurns_any _ _ _).mono ?_; rintro e w' ⟨r, n, rfl, rfl, hr⟩)
    | (refine wpList_up rfl _ _ _ rfl _ rfl Try.underlying22 Try.underlying25 ?_; intro r n hr hrb)
    | (go_at_call 12; refine (sameFloat_eq _ _ _ (by simp only [*])).mono ?_; rintro e w' ⟨m, rfl, rfl⟩))
  go_ret
  exact ⟨rfl, below_drewN (Below.refl _ _) _⟩
end Go.Proofs.Ytlcmldgjkpjjfaa.fnExactAngleTurns
