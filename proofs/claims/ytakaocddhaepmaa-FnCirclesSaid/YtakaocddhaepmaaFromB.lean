/-
  Contracts of FromBits and its twin.
-/
import Derived.Test.YtakaocddhaepmaaFlo
import Derived.Test.YtakaocddhaepmaaHash
namespace Go.Proofs.Ytakaocddhaepmaa
open Go.RowKit

theorem retF2 {v v' : Nat} {b b' : Bool} (h1 : v = v') (h2 : b = b') : Ending.returned (.tuple #[.float .f32 v, .bool b]) = .returned (.tuple #[.float .f32 v', .bool b']) := by rw [h1, h2]
@[irreducible] def fbV (n : Int) : Nat := if isK n then n.toNat else 0
theorem fbV_t {n : Int} (h : isK n = true) : fbV n = n.toNat := by unfold fbV; simp [h]
theorem fbV_f {n : Int} (h : isK n = false) : fbV n = 0 := by unfold fbV; simp [h]
set_option maxHeartbeats 400000 in
theorem l01From_any (n : Int) (w : World) (hn1 : 0 ≤ n) (hn2 : n ≤ 4294967295) :
    Calls Try.prog 32 #[.int .i64 n] w fun e w' => e = .returned (.float .f32 n.toNat) ∧ w = w' := by
  have hf := call_f32from
  go_enter Try.func32, Try.ntmps32
  go_wp2
  go_ret
  exact ⟨rfl, rfl⟩
end Go.Proofs.Ytakaocddhaepmaa
