/-
  Contracts of ZerosOf and its twin: 32 less the number of binary digits.
-/
import Derived.Test.YtilbglcbhoiamaaHash2
import Derived.Test.YtilbglcbhoiamaaShelf
import Derived.LoopTactic
import Derived.Lib.Hide
namespace Go.Proofs.Ytilbglcbhoiamaa
open Go.RowKit

@[irreducible] def zer (x : Int) : Int := 32 - (Lib.bitLen x.toNat : Int)
theorem zer_at (x : Nat) (k : Nat) (hk : k < 32) (h1 : x < 2 ^ (32 - k)) (h2 : 2 ^ (31 - k) ≤ x) : zer x = k := by
  unfold zer
  have hx : x < 2 ^ 64 := Nat.lt_of_lt_of_le h1 (Nat.pow_le_pow_right (by decide) (by omega))
  have e := Lib.bitLen_shift (31 - k) x h2 hx
  have h3 : x / 2 ^ (31 - k) = 1 := by
    have hp : 0 < 2 ^ (31 - k) := Nat.two_pow_pos _
    have h4 : 2 ^ (32 - k) = 2 * 2 ^ (31 - k) := by rw [show 32 - k = (31 - k) + 1 by omega, Nat.pow_succ, Nat.mul_comm]
    have h5 : 1 ≤ x / 2 ^ (31 - k) := (Nat.le_div_iff_mul_le hp).2 (by omega)
    have h6 : x / 2 ^ (31 - k) < 2 := (Nat.div_lt_iff_lt_mul hp).2 (by omega)
    omega
  rw [h3] at e
  have e1 : Lib.bitLen 1 = 1 := by decide
  rw [e1] at e
  simp only [Int.toNat_natCast, e]
  omega
theorem zer_zero : zer 0 = 32 := by unfold zer; decide
theorem shr_zero (x k : Nat) (h : x < 2 ^ (31 - k)) : ((x : Int) / 2 ^ (31 - k) == 0) = true := by
  have : (x : Int) / 2 ^ (31 - k) = ((x / 2 ^ (31 - k) : Nat) : Int) := by simp
  rw [this, Nat.div_eq_of_lt h]; rfl
theorem shr_some (x k : Nat) (h : 2 ^ (31 - k) ≤ x) : ((x : Int) / 2 ^ (31 - k) == 0) = false := by
  have e : (x : Int) / 2 ^ (31 - k) = ((x / 2 ^ (31 - k) : Nat) : Int) := by simp
  have hp : 0 < 2 ^ (31 - k) := Nat.two_pow_pos _
  have h5 : 1 ≤ x / 2 ^ (31 - k) := (Nat.le_div_iff_mul_le hp).2 (by omega)
  rw [e]; simp; omega

set_option maxHeartbeats 400000 in
theorem l02Zeros_any (x : Nat) (w : World) (hx : x ≤ 4294967295) : Calls Try.prog 52 #[.int .i64 x] w fun e w' => e = .returned (.int .i64 (zer x)) ∧ w' = w := by
  go_enter Try.func52, Try.ntmps52
  go_wp2
  go_loop [3] (fun n => ∃ k : Nat, k ≤ 32 ∧ n = .int .i64 k ∧ x < 2 ^ (32 - k)) (fun n => 32 - (intOf n).toNat)
  case atStart => exact ⟨0, by omega, rfl, by have : (2 : Nat) ^ (32 - 0) = 4294967296 := by decide
                                              omega⟩
  case round =>
    obtain ⟨k, hk, rfl, hb⟩ := hrel
    have HB := Lib.hid hb
    clear hb
    by_cases hk32 : k < 32
    · by_cases hlt : x < 2 ^ (31 - k)
      · have hs := shr_zero x k hlt
        have HB2 : Hid (x < 2 ^ (32 - (k + 1))) := by rw [show 32 - (k + 1) = 31 - k by omega]; exact hlt
        clear hlt
        go_wp2
        go_round
        case rel => exact ⟨k + 1, by omega, by go_num, HB2.out⟩
        case measure => simp [intOf]; omega
      · have hs := shr_some x k (by omega)
        have HZ : Hid (zer x = k) := zer_at x k hk32 HB.out (by omega)
        clear hlt
        go_wp2
        go_ret
        exact ⟨ret1 HZ.out.symm, rfl⟩
    · have hk' : k = 32 := by omega
      have hx0 : x = 0 := by have := HB.out; rw [hk'] at this; simpa using this
      have HZ : Hid (zer x = k) := by rw [hx0, hk']; exact zer_zero
      clear hk' hx0
      go_wp2
      go_ret
      exact ⟨ret1 HZ.out.symm, rfl⟩
theorem bitLenAux_le : ∀ f x : Nat, Lib.bitLenAux f x ≤ f
  | 0, _ => Nat.le_refl _
  | f + 1, x => by
    unfold Lib.bitLenAux
    split
    · omega
    · have := bitLenAux_le f (x / 2); omega
theorem bitLen_le (x : Nat) : Lib.bitLen x ≤ 64 := bitLenAux_le 64 x
@[irreducible] def zerV (n : Int) : Int := if isK n then zer n else 0
theorem zerV_t {n : Int} (h : isK n = true) : zerV n = zer n := by unfold zerV; simp [h]
theorem zerV_f {n : Int} (h : isK n = false) : zerV n = 0 := by unfold zerV; simp [h]
set_option maxHeartbeats 400000 in
theorem sZerosOf_any (n : Int) (w : World) : Calls Try.prog 27 #[.int .i64 n] w fun e w' => e = .returned (.tuple #[.int .i64 (zerV n), .bool (isK n)]) ∧ w' = w := by
  rcases h1 : isK n
  · go_enter Try.func27, Try.ntmps27
    go_wp2_with (go_at_call 40; refine (l02Key_any _ _).mono ?_; rintro e w' ⟨rfl, rfl⟩)
    go_ret2
    exact ⟨ret2 (zerV_f h1).symm rfl, rfl⟩
  · have hn := isK_of h1
    have hV := Lib.hid (zerV_t h1)
    obtain ⟨x, rfl⟩ := Int.eq_ofNat_of_zero_le hn.1
    have hx : x ≤ 4294967295 := by omega
    clear hn
    go_enter Try.func27, Try.ntmps27
    go_wp2_with (first | (go_at_call 40; refine (l02Key_any _ _).mono ?_; rintro e w' ⟨rfl, rfl⟩) | (go_at_call 52; refine (l02Zeros_any _ _ hx).mono ?_; rintro e w' ⟨rfl, rfl⟩))
    go_ret2
    exact ⟨ret2 hV.out.symm rfl, rfl⟩
set_option maxHeartbeats 400000 in
theorem ZerosOf_any (n : Int) (w : World) : Calls Try.prog 28 #[.int .i64 n] w fun e w' => e = .returned (.tuple #[.int .i64 (zerV n), .bool (isK n)]) ∧ w' = w := by
  rcases h1 : isK n
  · go_enter Try.func28, Try.ntmps28
    go_wp2_with (go_at_call 15; refine (IsKey_any _ _).mono ?_; rintro e w' ⟨rfl, rfl⟩)
    go_ret2
    exact ⟨ret2 (zerV_f h1).symm rfl, rfl⟩
  · obtain ⟨hn1, hn2⟩ := isK_of h1
    have hV := Lib.hid (zerV_t h1)
    have hbl := bitLen_le n.toNat
    go_enter Try.func28, Try.ntmps28
    go_wp2_with (first | (go_at_call 15; refine (IsKey_any _ _).mono ?_; rintro e w' ⟨rfl, rfl⟩) | (go_at_call 53; refine (Try.bits_LeadingZeros32 _ _ hn1 hn2).mono ?_; rintro e w' ⟨rfl, rfl⟩))
    go_ret2
    exact ⟨ret2 (by rw [hV.out]; unfold zer; rfl) rfl, rfl⟩
end Go.Proofs.Ytilbglcbhoiamaa
