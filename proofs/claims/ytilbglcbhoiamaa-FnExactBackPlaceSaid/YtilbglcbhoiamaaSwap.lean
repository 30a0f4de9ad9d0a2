/-
  Contracts of the parts of SwapPlace and BackPlace: areSwaps, halfDigits, round, and their twins.
-/
import Derived.Test.YtilbglcbhoiamaaFeist
import Derived.LoopTactic
import Derived.Lib.Hide
import Derived.Deep.QuietTactic
import Derived.BigQuiet
import Derived.Deep.LoopGhost
namespace Go.Proofs.Ytilbglcbhoiamaa
open Go.RowKit

theorem rnd_int (z : Nat) (salt : Int) (r : Nat) (i : Int) : hsh r ((salt + i) % 4294967296) % z = (rnd z salt r i : Int) := by
  have hb := hsh_bd r ((salt + i) % 4294967296)
  unfold rnd
  generalize hsh r ((salt + i) % 4294967296) = H at *
  obtain ⟨a, rfl⟩ := Int.eq_ofNat_of_zero_le hb.1
  simp

/-- The digits of a half. -/
@[irreducible] def halfD (n : Nat) : Nat := if n ≤ 4 then 1 else if n ≤ 16 then 2 else if n ≤ 64 then 3 else if n ≤ 256 then 4 else if n ≤ 1024 then 5 else if n ≤ 4096 then 6 else if n ≤ 16384 then 7 else 8
theorem halfD_of (n : Nat) (hn : n ≤ 65536) : 1 ≤ halfD n ∧ halfD n ≤ 8 ∧ n ≤ 2 ^ halfD n * 2 ^ halfD n := by
  unfold halfD
  repeat' split
  all_goals refine ⟨by omega, by omega, ?_⟩
  all_goals simp
  all_goals omega
theorem eight {h : Nat} (h1 : 1 ≤ h) (h2 : h ≤ 8) : h = 1 ∨ h = 2 ∨ h = 3 ∨ h = 4 ∨ h = 5 ∨ h = 6 ∨ h = 7 ∨ h = 8 := by omega
/-- What the search for it knows at h. -/
def HalfAt (n h : Nat) : Prop := 1 ≤ h ∧ h ≤ halfD n

set_option maxHeartbeats 2000000 in
theorem round_any (h r : Nat) (i salt : Int) (w : World) (h1 : 1 ≤ h) (h2 : h ≤ 8) (hr : r < 65536) (hi0 : 0 ≤ i) (hi : i < 4) (hs1 : 0 ≤ salt) (hs2 : salt ≤ 4294967295) :
    Calls Try.prog 58 #[.int .i64 r, .int .i64 salt, .int .i64 i, .int .i64 h] w fun e w' => ∃ n, e = .returned (.int .i64 (rnd (2 ^ h) salt r i)) ∧ w' = w.drewN n := by
  have hh := hsh_bd r ((salt + i) % 4294967296)
  rcases eight h1 h2 with rfl | rfl | rfl | rfl | rfl | rfl | rfl | rfl
  all_goals
    go_enter Try.func58, Try.ntmps58
    go_wp2
    go_quiet ((go_at_call 45; exact Calls.quiet_of_same ((hash_any _ _ _ (by omega) (by omega)).mono fun _ _ ⟨h1, h2⟩ => ⟨h1, h2.symm⟩)))
    go_wp2
    go_ret
    exact ⟨_, ret1 (rnd_int _ salt r i), rfl⟩

/-! ### halfDigits -/
theorem half_up {n h : Nat} (hn : n ≤ 65536) (h1 : 1 ≤ h) (h2 : h ≤ halfD n) (hlt : 2 ^ h * 2 ^ h < n) : h + 1 ≤ halfD n := by
  have hd := halfD_of n hn
  rcases eight h1 (by omega) with rfl | rfl | rfl | rfl | rfl | rfl | rfl | rfl <;> simp at hlt <;> unfold halfD <;> (repeat' split) <;> omega
theorem half_end {n h : Nat} (hn : n ≤ 65536) (h1 : 1 ≤ h) (h2 : h ≤ halfD n) (hge : ¬ 2 ^ h * 2 ^ h < n) : halfD n = h := by
  have hd := halfD_of n hn
  rcases eight h1 (by omega) with rfl | rfl | rfl | rfl | rfl | rfl | rfl | rfl <;> simp at hge <;> unfold halfD at h2 ⊢ <;> (repeat' split) <;> (repeat' split at h2) <;> omega
set_option maxHeartbeats 4000000 in
theorem halfDigits_any (n : Nat) (w : World) (hn : n ≤ 65536) : Calls Try.prog 57 #[.int .i64 n] w fun e w' => e = .returned (.int .i64 (halfD n)) ∧ w = w' := by
  have hd := halfD_of n hn
  go_enter Try.func57, Try.ntmps57
  go_wp2
  go_loop [3] (fun v => ∃ h : Nat, 1 ≤ h ∧ h ≤ halfD n ∧ v = .int .i64 h) (fun v => 8 - (intOf v).toNat)
  case atStart => exact ⟨1, Nat.le_refl _, hd.1, rfl⟩
  case round =>
    obtain ⟨h, h1, h2, rfl⟩ := hrel
    by_cases hlt : 2 ^ h * 2 ^ h < n
    · have hup := half_up hn h1 h2 hlt
      rcases eight h1 (by omega) with rfl | rfl | rfl | rfl | rfl | rfl | rfl | rfl
      all_goals simp at hlt
      all_goals first
        | (exfalso; omega)
        | (go_wp2
           go_round
           case rel => exact ⟨_, by omega, hup, by simp⟩
           case measure => simp [intOf])
    · have hend := half_end hn h1 h2 hlt
      have HE := Lib.hid hend
      clear hend
      rcases eight h1 (by omega) with rfl | rfl | rfl | rfl | rfl | rfl | rfl | rfl
      all_goals simp at hlt
      all_goals
        go_wp2
        go_ret
        exact ⟨ret1 (by rw [HE.out]; simp), rfl⟩
set_option maxHeartbeats 4000000 in
theorem l02Half_any (n : Nat) (w : World) (hn : n ≤ 65536) : Calls Try.prog 54 #[.int .i64 n] w fun e w' => e = .returned (.int .u64 (halfD n)) ∧ w = w' := by
  have hd := halfD_of n hn
  go_enter Try.func54, Try.ntmps54
  go_wp2
  go_loop [3] (fun v => ∃ h : Nat, 1 ≤ h ∧ h ≤ halfD n ∧ v = .int .u64 h) (fun v => 8 - (intOf v).toNat)
  case atStart => exact ⟨1, Nat.le_refl _, hd.1, rfl⟩
  case round =>
    obtain ⟨h, h1, h2, rfl⟩ := hrel
    by_cases hlt : 2 ^ h * 2 ^ h < n
    · have hup := half_up hn h1 h2 hlt
      rcases eight h1 (by omega) with rfl | rfl | rfl | rfl | rfl | rfl | rfl | rfl
      all_goals simp at hlt
      all_goals first
        | (exfalso; omega)
        | (go_wp2
           go_round
           case rel => exact ⟨_, by omega, hup, by simp⟩
           case measure => simp [intOf])
    · have hend := half_end hn h1 h2 hlt
      have HE := Lib.hid hend
      clear hend
      rcases eight h1 (by omega) with rfl | rfl | rfl | rfl | rfl | rfl | rfl | rfl
      all_goals simp at hlt
      all_goals
        go_wp2
        go_ret
        exact ⟨ret1 (by rw [HE.out]; simp), rfl⟩
set_option maxHeartbeats 400000 in
theorem l02Salt_any (s i : Int) (w : World) (h1 : 0 ≤ s) (h2 : s ≤ 4294967295) (h3 : 0 ≤ i) (h4 : i < 4) : Calls Try.prog 55 #[.int .i64 s, .int .i64 i] w fun e w' => e = .returned (.int .i64 ((s + i) % 4294967296)) ∧ w = w' := by
  go_enter Try.func55, Try.ntmps55
  go_wp2
  go_ret
  exact ⟨rfl, rfl⟩

/-! ### areSwaps -/
@[irreducible] def arS (k n s : Int) : Bool := inB n 1 65536 && inB k 0 (n - 1) && isK s
theorem arS_of {k n s : Int} (h : arS k n s = true) : (1 ≤ n ∧ n ≤ 65536) ∧ (0 ≤ k ∧ k ≤ n - 1) ∧ 0 ≤ s ∧ s ≤ 4294967295 := by
  unfold arS at h
  simp only [Bool.and_eq_true] at h
  exact ⟨inB_of h.1.1, inB_of h.1.2, isK_of h.2⟩
theorem arS_t {k n s : Int} (h1 : inB n 1 65536 = true) (h2 : inB k 0 (n - 1) = true) (h3 : isK s = true) : arS k n s = true := by unfold arS; simp [h1, h2, h3]
theorem arS_f1 {k n s : Int} (h1 : inB n 1 65536 = false) : arS k n s = false := by unfold arS; simp [h1]
theorem arS_f2 {k n s : Int} (h1 : inB k 0 (n - 1) = false) : arS k n s = false := by unfold arS; simp [h1]
theorem arS_f3 {k n s : Int} (h1 : isK s = false) : arS k n s = false := by unfold arS; simp [h1]
set_option maxHeartbeats 400000 in
theorem areSwaps_any (k n s : Int) (w : World) : Calls Try.prog 56 #[.int .i64 k, .int .i64 n, .int .i64 s] w fun e w' => e = .returned (.bool (arS k n s)) ∧ w = w' := by
  rcases h1 : inB n 1 65536
  · go_enter Try.func56, Try.ntmps56
    go_wp2_with (first | (go_at_call 41; refine (within_any _ _ _ _).mono ?_; rintro e w' ⟨rfl, rfl⟩) | (go_at_call 15; refine (IsKey_any _ _).mono ?_; rintro e w' ⟨rfl, rfl⟩))
    go_ret
    exact ⟨retB (arS_f1 h1).symm, rfl⟩
  · obtain ⟨hn1, hn2⟩ := inB_of h1
    rcases h2 : inB k 0 (n - 1)
    all_goals rcases h3 : isK s
    all_goals
      go_enter Try.func56, Try.ntmps56
      go_wp2_with (first | (go_at_call 41; refine (within_any _ _ _ _).mono ?_; rintro e w' ⟨rfl, rfl⟩) | (go_at_call 15; refine (IsKey_any _ _).mono ?_; rintro e w' ⟨rfl, rfl⟩))
      go_ret
      exact ⟨retB (by first | rw [arS_t h1 h2 h3] | rw [arS_f2 h2] | rw [arS_f3 h3]), rfl⟩
end Go.Proofs.Ytilbglcbhoiamaa
