/-
  Contracts of IsSubnormal and its twin.
-/
import Derived.Test.YtakaocddhaepmaaNum0
import Derived.Test.YtakaocddhaepmaaFlo
namespace Go.Proofs.Ytakaocddhaepmaa
open Go.RowKit

theorem retFl {k : FloatKind} {v v' : Nat} (h1 : v = v') : Ending.returned (.float k v) = .returned (.float k v') := by rw [h1]
set_option maxHeartbeats 400000 in
theorem Abs_any (b : Nat) (w : World) : Calls Try.prog 20 #[.float .f64 b] w fun e w' => e = .returned (.float .f64 (rg .f64 b)) ∧ w = w' := by
  have h1 := call_f64bits
  have h2 := call_f64from
  go_enter Try.func20, Try.ntmps20
  go_wp2
  go_ret
  exact ⟨retFl (by rw [andNot_sign]; simp), rfl⟩
end Go.Proofs.Ytakaocddhaepmaa
