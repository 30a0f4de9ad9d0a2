/-
  Integers as float64 and float64 as integers: exact up to 2 ^ 53; cut towards zero; floor.
-/
import Derived.Test.YtakaocddhaepmaaMono
namespace Go.Proofs.Ytakaocddhaepmaa
open Ieee

@[irreducible] def c1074 : Nat := 1074
theorem c1074_eq : c1074 = 1074 := by unfold c1074; rfl
/-- One, in units of the least place. -/
def U : Nat := 2 ^ c1074
theorem U_pos : 0 < U := Nat.two_pow_pos _
theorem U_at (e : Int) (he : -1074 ≤ e) (m : Nat) : m * 2 ^ (e - -1074).toNat * 2 ^ (-e).toNat = m * 2 ^ e.toNat * U := by
  unfold U
  rw [Nat.mul_assoc, Nat.mul_assoc, ← pow_split, ← pow_split]
  exact congrArg (fun n => m * 2 ^ n) (by rw [c1074_eq]; omega)
theorem read_fin64 {b : Nat} (h : fin .f64 b) : ∃ m e, FloatKind.f64.format.read b = .number (sg .f64 b) m e ∧ -1074 ≤ e ∧ m * 2 ^ (e - -1074).toNat = sz .f64 b := by
  obtain ⟨m, e, h1, h2, h3⟩ := read_fin h
  unfold LP at h2 h3
  rw [D_lp] at h2 h3
  exact ⟨m, e, h1, h2, h3⟩
/-- A whole number's digits: cut. -/
theorem whole_cut {b m : Nat} {e : Int} (he : -1074 ≤ e) (hm : m * 2 ^ (e - -1074).toNat = sz .f64 b) : m * 2 ^ e.toNat / 2 ^ (-e).toNat = sz .f64 b / U := by
  have h1 := U_at e he m
  rw [hm] at h1
  have hp := Nat.two_pow_pos (-e).toNat
  rw [← Nat.mul_div_mul_right _ _ U_pos, ← h1, Nat.mul_comm (2 ^ (-e).toNat) U, Nat.mul_div_mul_right _ _ hp]
theorem whole_rest {b m : Nat} {e : Int} (he : -1074 ≤ e) (hm : m * 2 ^ (e - -1074).toNat = sz .f64 b) : m * 2 ^ e.toNat % 2 ^ (-e).toNat = 0 ↔ sz .f64 b % U = 0 := by
  have h1 := U_at e he m
  rw [hm] at h1
  have hp := Nat.two_pow_pos (-e).toNat
  have h2 : m * 2 ^ e.toNat % 2 ^ (-e).toNat * U = sz .f64 b % U * 2 ^ (-e).toNat := by
    rw [← Nat.mul_mod_mul_right, ← h1, Nat.mul_comm (2 ^ (-e).toNat) U, Nat.mul_mod_mul_right]
  constructor
  · intro h
    rw [h, Nat.zero_mul] at h2
    rcases Nat.mul_eq_zero.1 h2.symm with h3 | h3 <;> omega
  · intro h
    rw [h, Nat.zero_mul] at h2
    have := U_pos
    rcases Nat.mul_eq_zero.1 h2 with h3 | h3 <;> omega
theorem div_gap (n d : Nat) : n / (1 <<< min d (n.log2 + 2)) = n / 2 ^ d ∧ (n % (1 <<< min d (n.log2 + 2)) = 0 ↔ n % 2 ^ d = 0) := by
  rw [Nat.shiftLeft_eq, Nat.one_mul]
  by_cases h : d ≤ n.log2 + 2
  · rw [Nat.min_eq_left h]; exact ⟨rfl, Iff.rfl⟩
  · rw [Nat.min_eq_right (by omega)]
    have h1 : n < 2 ^ (n.log2 + 1) := Nat.lt_log2_self
    have h2 : 2 ^ (n.log2 + 1) ≤ 2 ^ (n.log2 + 2) := Nat.pow_le_pow_right (by decide) (by omega)
    have h3 : 2 ^ (n.log2 + 2) ≤ 2 ^ d := Nat.pow_le_pow_right (by decide) (by omega)
    rw [Nat.div_eq_of_lt (by omega), Nat.div_eq_of_lt (by omega), Nat.mod_eq_of_lt (by omega), Nat.mod_eq_of_lt (by omega)]
    exact ⟨rfl, Iff.rfl⟩
theorem cut_to_zero (s : Bool) (n d : Nat) : Toward.zero.cut s n d = n / 2 ^ d := by
  unfold Toward.cut
  simp only [(div_gap n d).1]
  simp
theorem cut_to_down (s : Bool) (n d : Nat) : Toward.down.cut s n d = n / 2 ^ d + (s && n % 2 ^ d != 0).toNat := by
  unfold Toward.cut
  simp only [(div_gap n d).1]
  congr 2
  rw [Bool.eq_iff_iff]
  simp [(div_gap n d).2]
/-- TOWARDS ZERO. -/
theorem toInt_fin {b : Nat} (h : fin .f64 b) : (FloatKind.f64.decode b).toInt .zero = some (if sg .f64 b then -((sz .f64 b / U : Nat) : Int) else ((sz .f64 b / U : Nat) : Int)) := by
  obtain ⟨m, e, hr, he, hm⟩ := read_fin64 h
  have hd : FloatKind.f64.decode b = .number (sg .f64 b) m e := hr
  rw [hd]
  simp only [Datum.toInt, Datum.integral, cut_to_zero, Nat.shiftLeft_eq]
  rw [whole_cut he hm]
  simp only [signed, Nat.shiftLeft_eq]
  simp
theorem toIntVal_fin {b : Nat} (h : fin .f64 b) (hs : sz .f64 b / U ≤ 9223372036854775807) : floatToIntVal .f64 b .i64 = some (if sg .f64 b then -((sz .f64 b / U : Nat) : Int) else ((sz .f64 b / U : Nat) : Int)) := by
  unfold floatToIntVal
  rw [toInt_fin h]
  generalize sz .f64 b / U = F at *
  simp only
  rw [if_pos]
  have h1 : IntKind.i64.min = -9223372036854775808 := by decide
  have h2 : IntKind.i64.max = 9223372036854775807 := by decide
  rw [h1, h2]
  split <;> omega
/-- FLOOR, of numbers. -/
@[irreducible] def flo (b : Nat) : Nat := FloatKind.f64.encode ((FloatKind.f64.decode b).integral .down)
theorem int_write (s : Bool) (n : Nat) (hn : n < 9007199254740992) : fin .f64 (FloatKind.f64.format.write (.number s n 0)) ∧ sg .f64 (FloatKind.f64.format.write (.number s n 0)) = s ∧ sz .f64 (FloatKind.f64.format.write (.number s n 0)) = n * U := by
  have hw := write_rg .f64 s n 0
  have h53 : (2 : Nat) ^ 53 = 9007199254740992 := by decide
  have hfb : FloatKind.f64.format.fractionBits + 1 = 53 := rfl
  have hx := nr_exact FloatKind.f64.format n 0 (by rw [hfb, h53]; exact hn) (by rw [D_lp]; decide)
  have hp : inP 53 := by unfold inP; omega
  have hlt : nr FloatKind.f64.format n 0 ≤ RD 53 := by
    rw [← RD_eq]
    exact nr_le _ _ _ _ 53 (by rw [h53]; omega) (by omega) (ok_of hp)
  have hfin := Nat.lt_of_le_of_lt hlt (RD_lt hp)
  rw [Nat.min_eq_left (Nat.le_of_lt hfin)] at hw
  refine ⟨by unfold fin; rw [hw.2]; exact hfin, hw.1, ?_⟩
  unfold sz U
  rw [hw.2, hx, D_lp]
  exact congrArg (fun k => n * 2 ^ k) (by rw [c1074_eq]; decide)
theorem int_fin (n : Int) (hn : n.natAbs < 9007199254740992) : fin .f64 (floatOfInt .f64 n) ∧ sg .f64 (floatOfInt .f64 n) = decide (n < 0) ∧ sz .f64 (floatOfInt .f64 n) = n.natAbs * U :=
  int_write (decide (n < 0)) n.natAbs hn
theorem flo_fin {b : Nat} (h : fin .f64 b) (hs : sz .f64 b / U < 9007199254740991) :
    fin .f64 (flo b) ∧ sg .f64 (flo b) = sg .f64 b ∧ sz .f64 (flo b) = (sz .f64 b / U + (sg .f64 b && sz .f64 b % U != 0).toNat) * U := by
  obtain ⟨m, e, hr, he, hm⟩ := read_fin64 h
  have hd : FloatKind.f64.decode b = .number (sg .f64 b) m e := hr
  have hc : Toward.down.cut (sg .f64 b) (m <<< e.toNat) (-e).toNat = sz .f64 b / U + (sg .f64 b && sz .f64 b % U != 0).toNat := by
    rw [cut_to_down, Nat.shiftLeft_eq, whole_cut he hm]
    congr 2
    rw [Bool.eq_iff_iff]
    simp [whole_rest he hm]
  unfold flo
  rw [hd]
  simp only [Datum.integral, hc]
  refine int_write _ _ ?_
  cases (sg .f64 b && sz .f64 b % U != 0) <;> simp <;> omega
end Go.Proofs.Ytakaocddhaepmaa
