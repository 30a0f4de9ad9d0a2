/-
  Contracts of FromBits and its twin.
-/
import Derived.Test.YtdolhljnbipmlaaFlo
import Derived.Test.YtdolhljnbipmlaaHash
namespace Go.Proofs.Ytdolhljnbipmlaa
open Go.RowKit

theorem retF2 {v v' : Nat} {b b' : Bool} (h1 : v = v') (h2 : b = b') : Ending.returned (.tuple #[.float .f32 v, .bool b]) = .returned (.tuple #[.float .f32 v', .bool b']) := by rw [h1, h2]
@[irreducible] def fbV (n : Int) : Nat := if isK n then n.toNat else 0
theorem fbV_t {n : Int} (h : isK n = true) : fbV n = n.toNat := by unfold fbV; simp [h]
theorem fbV_f {n : Int} (h : isK n = false) : fbV n = 0 := by unfold fbV; simp [h]
set_option maxHeartbeats 400000 in
theorem FromBits_any (n : Int) (w : World) :
    Calls Try.prog 26 #[.int .i64 n] w fun e w' => e = .returned (.tuple #[.float .f32 (fbV n), .bool (isK n)]) ∧ w = w' := by
  have hf := call_f32from
  rcases h1 : isK n
  · go_enter Try.func26, Try.ntmps26
    go_wp2_with (go_at_call 46; refine (IsKey_any _ _).mono ?_; rintro e w' ⟨rfl, rfl⟩)
    go_ret2
    exact ⟨retF2 (fbV_f h1).symm rfl, rfl⟩
  · obtain ⟨hn1, hn2⟩ := isK_of h1
    go_enter Try.func26, Try.ntmps26
    go_wp2_with (go_at_call 46; refine (IsKey_any _ _).mono ?_; rintro e w' ⟨rfl, rfl⟩)
    go_ret2
    exact ⟨retF2 (fbV_t h1).symm rfl, rfl⟩
set_option maxHeartbeats 400000 in
theorem l01From_any (n : Int) (w : World) (hn1 : 0 ≤ n) (hn2 : n ≤ 4294967295) :
    Calls Try.prog 45 #[.int .i64 n] w fun e w' => e = .returned (.float .f32 n.toNat) ∧ w = w' := by
  have hf := call_f32from
  go_enter Try.func45, Try.ntmps45
  go_wp2
  go_ret
  exact ⟨rfl, rfl⟩
set_option maxHeartbeats 400000 in
theorem sFromBits_any (n : Int) (w : World) :
    Calls Try.prog 25 #[.int .i64 n] w fun e w' => e = .returned (.tuple #[.float .f32 (fbV n), .bool (isK n)]) ∧ w = w' := by
  rcases h1 : isK n
  · have h2 : inB n 0 4294967295 = false := by rw [isK_eq]; exact h1
    go_enter Try.func25, Try.ntmps25
    go_wp2_with (go_at_call 44; refine (l00In_any _ _ _ _).mono ?_; rintro e w' ⟨rfl, rfl⟩)
    go_ret2
    exact ⟨retF2 (fbV_f h1).symm rfl, rfl⟩
  · obtain ⟨hn1, hn2⟩ := isK_of h1
    have h2 : inB n 0 4294967295 = true := by rw [isK_eq]; exact h1
    go_enter Try.func25, Try.ntmps25
    go_wp2_with (first | (go_at_call 44; refine (l00In_any _ _ _ _).mono ?_; rintro e w' ⟨rfl, rfl⟩) | (go_at_call 45; refine (l01From_any _ _ hn1 hn2).mono ?_; rintro e w' ⟨rfl, rfl⟩))
    go_ret2
    exact ⟨retF2 (fbV_t h1).symm rfl, rfl⟩
end Go.Proofs.Ytdolhljnbipmlaa
