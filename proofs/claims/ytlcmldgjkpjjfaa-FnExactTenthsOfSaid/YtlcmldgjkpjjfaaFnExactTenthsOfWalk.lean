/- The walk of the law FnExactTenthsOf: it returns true, for every float32. -/
import Derived.Test.YtlcmldgjkpjjfaaTenths
import Derived.Below
namespace Go.Proofs.Ytlcmldgjkpjjfaa.fnExactTenthsOf
open Go.RowKit
set_option maxHeartbeats 400000 in
theorem walk (a0 : Nat) (w : World) (_w0 : (Lit.float .f32 a0).wf = true) :
    Calls Try.prog 7 #[.float .f32 a0] w fun e w' => e = .returned (.bool true) ∧ Below w.heap.size w w' := by
  go_enter Try.func7, Try.ntmps7
  go_wp2_with (first
    | (go_at_call 20; refine (sTenthsOf_any _ _).mono ?_; rintro e w' ⟨n, rfl, rfl⟩)
    | (go_at_call 21; refine (TenthsOf_any _ _).mono ?_; rintro e w' ⟨n, rfl, rfl⟩))
  go_ret
  exact ⟨rfl, below_drewN (Below.refl _ _) _⟩
end Go.Proofs.Ytlcmldgjkpjjfaa.fnExactTenthsOf
