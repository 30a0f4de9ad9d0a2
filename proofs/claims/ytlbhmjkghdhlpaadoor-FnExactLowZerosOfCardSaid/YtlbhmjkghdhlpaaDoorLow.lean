/-
  Contracts of LowZerosOf and its twin: how many binary digits are 0 from the least one on.
-/
import Derived.Test.YtlbhmjkghdhlpaaDoorHash
import Derived.LoopTactic
import Derived.Lib.Hide
import Derived.Lib.TrailingZeros
import Derived.Laws.Bits64b
namespace Go.Proofs.YtlbhmjkghdhlpaaDoor
open Go.RowKit

theorem and_u32_nat (a b : Nat) (ha : a < 4294967296) (hb : b < 4294967296) : bits .and .u32 (a : Int) (b : Int) = ((a &&& b : Nat) : Int) := by
  have hx : a &&& b < 2 ^ 32 := Nat.and_lt_two_pow _ (by omega)
  have h1 : (BitVec.ofInt 32 (a : Int)).toNat = a := by
    rw [BitVec.ofInt_natCast, BitVec.toNat_ofNat]; exact Nat.mod_eq_of_lt (by omega)
  have h2 : (BitVec.ofInt 32 (b : Int)).toNat = b := by
    rw [BitVec.ofInt_natCast, BitVec.toNat_ofNat]; exact Nat.mod_eq_of_lt (by omega)
  show IntKind.u32.wrap ((BitVec.ofInt 32 (a : Int) &&& BitVec.ofInt 32 (b : Int)).toNat : Int) = _
  rw [BitVec.toNat_and, h1, h2, IntKind.wrap_u32]
  omega
theorem and_i64_one (a : Nat) (ha : a < 4294967296) : bits .and .i64 (a : Int) 1 = ((a % 2 : Nat) : Int) := by
  have h1 : (BitVec.ofInt 64 (a : Int)).toNat = a := by
    rw [BitVec.ofInt_natCast, BitVec.toNat_ofNat]; exact Nat.mod_eq_of_lt (by omega)
  show IntKind.i64.wrap ((BitVec.ofInt 64 (a : Int) &&& BitVec.ofInt 64 1).toNat : Int) = _
  rw [BitVec.toNat_and, h1, show (BitVec.ofInt 64 1).toNat = 1 by rfl, Nat.and_one_is_mod, IntKind.wrap_i64]
  omega
theorem ctz_key (x a : Nat) (hx : x < 4294967296) (hx0 : x ≠ 0) (hlow : x &&& (4294967296 - x) = a) :
    bits BinOp.and IntKind.u32 (x : Int) (-(x : Int) % 4294967296) * 125613361 % 4294967296 / 134217728 = ((a * 125613361 % 4294967296 / 134217728 : Nat) : Int) := by
  have e1 : -(x : Int) % 4294967296 = ((4294967296 - x : Nat) : Int) := by omega
  rw [e1, and_u32_nat x _ hx (by omega), hlow]
  omega
theorem ctzFrom_at : ∀ (f x k : Nat), x % 2 ^ k = 0 → x / 2 ^ k % 2 = 1 → k < f → Lib.ctzFrom f x = k
  | 0, _, _, _, _, h => by omega
  | f + 1, x, 0, _, h2, _ => by
    unfold Lib.ctzFrom
    rw [if_pos (by simpa using h2)]
  | f + 1, x, k + 1, h1, h2, h3 => by
    have hp : 2 ^ (k + 1) = 2 * 2 ^ k := by rw [Nat.pow_succ, Nat.mul_comm]
    have hd : 2 ^ (k + 1) ∣ x := Nat.dvd_of_mod_eq_zero h1
    obtain ⟨c, hc⟩ := hd
    rw [hp, Nat.mul_assoc] at hc
    have h0 : x % 2 = 0 := by omega
    have hh : x / 2 = 2 ^ k * c := by omega
    unfold Lib.ctzFrom
    rw [if_neg (by omega), ctzFrom_at f (x / 2) k (by rw [hh]; exact Nat.mul_mod_right _ _) (by rw [Nat.div_div_eq_div_mul, ← hp]; exact h2) (by omega)]
    omega
@[irreducible] def low (x : Nat) : Nat := Lib.ctz 32 x
theorem low_zero : low 0 = 32 := by unfold low Lib.ctz; rfl
theorem low_at {x k : Nat} (h1 : x % 2 ^ k = 0) (h2 : x / 2 ^ k % 2 = 1) (h3 : k < 32) : low x = k := by
  unfold low Lib.ctz
  have hx : x ≠ 0 := by
    rintro rfl
    rw [Nat.zero_div] at h2; omega
  rw [if_neg hx]
  exact ctzFrom_at 32 x k h1 h2 h3
theorem low_next {x k : Nat} (h1 : x % 2 ^ k = 0) (h2 : x / 2 ^ k % 2 = 0) : x % 2 ^ (k + 1) = 0 := by
  rw [Nat.pow_succ, Nat.mod_mul, h1, h2]; simp
theorem bit_test {x k : Nat} (hx : x < 4294967296) : (bits BinOp.and IntKind.i64 ((x : Int) / 2 ^ k) 1 == 0) = decide (x / 2 ^ k % 2 = 0) := by
  have e : (x : Int) / 2 ^ k = ((x / 2 ^ k : Nat) : Int) := by simp
  have hle : x / 2 ^ k ≤ x := Nat.div_le_self _ _
  rw [e, and_i64_one _ (by omega)]
  rcases Nat.mod_two_eq_zero_or_one (x / 2 ^ k) with h | h <;> rw [h] <;> rfl
/-- The table lies in its variable. -/
def Tab32 (w : World) : Prop := ∀ j, j < 32 → w.cell? ⟨0, j, none⟩ = some (.int .u8 (Lib.deBruijn32tab.getD j 0))

set_option maxHeartbeats 1000000 in
theorem tz32_core (x k idx : Nat) (w : World) (hx0 : ((x : Int) == 0) = false)
    (key : bits BinOp.and IntKind.u32 (x : Int) (-(x : Int) % 4294967296) * 125613361 % 4294967296 / 134217728 = (idx : Int))
    (hi : idx < 32) (hk : k < 32) (hcell : w.cell? ⟨0, idx, none⟩ = some (.int .u8 k)) :
    Calls Tryd.prog 24 #[.int .u32 x] w fun e w' => e = .returned (.int .i64 k) ∧ w = w' := by
  go_enter Tryd.func24, Tryd.ntmps24
  go_wp2_with (simp only [key])
  go_ret
  exact ⟨rfl, rfl⟩
set_option maxHeartbeats 400000 in
theorem tz32_zero (w : World) : Calls Tryd.prog 24 #[.int .u32 0] w fun e w' => e = .returned (.int .i64 32) ∧ w = w' := by
  go_enter Tryd.func24, Tryd.ntmps24
  go_wp2
  go_ret
  exact ⟨rfl, rfl⟩
theorem TrailingZeros32_any (x : Nat) (hx : x < 4294967296) (w : World) (hT : Tab32 w) : Calls Tryd.prog 24 #[.int .u32 x] w fun e w' => e = .returned (.int .i64 (low x : Int)) ∧ w = w' := by
  by_cases hx0 : x = 0
  · subst hx0
    rw [low_zero]
    exact tz32_zero w
  · obtain ⟨hlow, hk⟩ := Lib.lowest_bit 32 x hx0 hx
    obtain ⟨hi, htab⟩ := Lib.deBruijn32_at _ hk
    have hcell := hT _ hi
    rw [htab] at hcell
    have := tz32_core x (Lib.ctz 32 x) _ w (by simp; omega) (ctz_key x _ hx hx0 hlow) hi hk hcell
    unfold low
    exact this
@[irreducible] def lowV (n : Int) : Int := if isK n then (low n.toNat : Nat) else 0
theorem lowV_t {n : Int} (h : isK n = true) : lowV n = (low n.toNat : Nat) := by unfold lowV; rw [if_pos h]
theorem lowV_f {n : Int} (h : isK n = false) : lowV n = 0 := by unfold lowV; rw [if_neg (by rw [h]; decide)]
set_option maxHeartbeats 400000 in
theorem LowZerosOf_any (n : Int) (w : World) (hT : Tab32 w) : Calls Tryd.prog 9 #[.int .i64 n] w fun e w' => e = .returned (.tuple #[.int .i64 (lowV n), .bool (isK n)]) ∧ w = w' := by
  rcases h1 : isK n
  · go_enter Tryd.func9, Tryd.ntmps9
    go_wp2_with (go_at_call 23; refine (IsKey_any _ _).mono ?_; rintro e w' ⟨rfl, rfl⟩)
    go_ret2
    exact ⟨ret2 (lowV_f h1).symm rfl, rfl⟩
  · have hn := isK_of h1
    have hV := Lib.hid (lowV_t h1)
    have H1 := Lib.hid h1
    obtain ⟨x, rfl⟩ := Int.eq_ofNat_of_zero_le hn.1
    have hx : x < 4294967296 := by omega
    have HT := Lib.hid hT
    clear hn hT
    go_enter Tryd.func9, Tryd.ntmps9
    go_wp2_with (first | (go_at_call 23; refine (IsKey_any _ _).mono ?_; rintro e w' ⟨rfl, rfl⟩) | (go_at_call 24; refine (TrailingZeros32_any x hx _ HT.out).mono ?_; rintro e w' ⟨rfl, rfl⟩))
    go_ret2
    exact ⟨ret2 (by rw [hV.out, Int.toNat_natCast]) rfl, rfl⟩
set_option maxHeartbeats 800000 in
theorem sLowZerosOf_any (n : Int) (w : World) : Calls Tryd.prog 8 #[.int .i64 n] w fun e w' => e = .returned (.tuple #[.int .i64 (lowV n), .bool (isK n)]) ∧ w = w' := by
  rcases h1 : isK n
  · go_enter Tryd.func8, Tryd.ntmps8
    go_wp2_with (go_at_call 22; refine (l02Key_any _ _).mono ?_; rintro e w' ⟨rfl, rfl⟩)
    go_ret2
    exact ⟨ret2 (lowV_f h1).symm rfl, rfl⟩
  · have hn := isK_of h1
    have hV := Lib.hid (lowV_t h1)
    have H1 := Lib.hid h1
    obtain ⟨x, rfl⟩ := Int.eq_ofNat_of_zero_le hn.1
    have hx : x < 4294967296 := by omega
    clear hn
    go_enter Tryd.func8, Tryd.ntmps8
    go_wp2_with (go_at_call 22; refine (l02Key_any _ _).mono ?_; rintro e w' ⟨rfl, rfl⟩)
    go_loop [4] (fun v => ∃ k : Nat, k ≤ 32 ∧ v = .int .i64 k ∧ Hid (x % 2 ^ k = 0)) (fun v => 32 - (intOf v).toNat)
    case atStart => exact ⟨0, by omega, rfl, Lib.hid (by simp [Nat.mod_one])⟩
    case round =>
      obtain ⟨k, hk, rfl, hm⟩ := hrel
      by_cases hlt : k < 32
      · have hbt := bit_test (k := k) hx
        rcases hd : decide (x / 2 ^ k % 2 = 0)
        · have HL := Lib.hid (low_at hm.out (by have := of_decide_eq_false hd; omega) hlt)
          rw [hd] at hbt
          clear hd
          go_wp2
          go_ret2
          exact ⟨ret2 (by rw [hV.out, Int.toNat_natCast, HL.out]) rfl, rfl⟩
        · have HM := Lib.hid (low_next hm.out (of_decide_eq_true hd))
          rw [hd] at hbt
          clear hd
          go_wp2
          go_round
          case rel => exact ⟨k + 1, by omega, by go_num, HM⟩
          case measure => simp [intOf]; omega
      · obtain rfl : k = 32 := by omega
        have HL : Hid (low x = 32) := Lib.hid (by
          have h32 := hm.out
          rw [show (2 : Nat) ^ 32 = 4294967296 by decide, Nat.mod_eq_of_lt hx] at h32
          rw [h32]; exact low_zero)
        clear hm hlt hk
        go_wp2
        go_ret2
        exact ⟨ret2 (by rw [hV.out, Int.toNat_natCast, HL.out]; rfl) rfl, rfl⟩
end Go.Proofs.YtlbhmjkghdhlpaaDoor
