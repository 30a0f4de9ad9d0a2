/-
  Plain laws of IsSubnormal, SameNumber and FlushNumber on canonical forms.
-/
import Derived.Test.YtakaocddhaepmaaVal4
namespace Go.Proofs.Ytakaocddhaepmaa
open Ieee

theorem ford_cmp {k : FloatKind} {a b : Nat} (ha : rg k a ≤ k.format.infRung) (hb : rg k b ≤ k.format.infRung) : ford k (some a) (some b) = some (compare (key k a) (key k b)) := by
  rw [ford_some, order_key k a b ha hb]
theorem cmp_lt_iff {x y : Int} : compare x y = .lt ↔ x < y := by
  constructor
  · intro h
    by_cases c : x < y
    · exact c
    · by_cases d : x = y
      · rw [cmp_eq d] at h; cases h
      · rw [cmp_gt (by omega)] at h; cases h
  · exact cmp_lt
theorem cmp_gt_iff {x y : Int} : compare x y = .gt ↔ y < x := by
  constructor
  · intro h
    by_cases c : y < x
    · exact c
    · by_cases d : x = y
      · rw [cmp_eq d] at h; cases h
      · rw [cmp_lt (by omega)] at h; cases h
  · exact cmp_gt
theorem cmp_eq_iff {x y : Int} : compare x y = .eq ↔ x = y := by
  constructor
  · intro h
    by_cases c : x = y
    · exact c
    · by_cases d : x < y
      · rw [cmp_lt d] at h; cases h
      · rw [cmp_gt (by omega)] at h; cases h
  · exact cmp_eq
theorem o_eq (x y : Int) : (some (compare x y) == some Ordering.eq) = decide (x = y) := by
  rw [Bool.eq_iff_iff]; simp
theorem o_ne (x y : Int) : (some (compare x y) != some Ordering.eq) = !decide (x = y) := by
  show (!(some (compare x y) == some Ordering.eq)) = _
  rw [o_eq]
theorem o_lt (x y : Int) : (some (compare x y) == some Ordering.lt) = decide (x < y) := by
  rw [Bool.eq_iff_iff]; simp [cmp_lt_iff]
theorem o_gt (x y : Int) : (some (compare x y) == some Ordering.gt) = decide (y < x) := by
  rw [Bool.eq_iff_iff]; simp [cmp_gt_iff]
theorem cn_rg {k : FloatKind} {b : Nat} (h : cn k b = some b) : rg k b ≤ k.format.infRung := rg_le k b (cn_some h).2
theorem key0 (k : FloatKind) : key k 0 = 0 := by cases k <;> decide
theorem rg0 (k : FloatKind) : rg k 0 ≤ k.format.infRung := by cases k <;> decide

/-- The canonical form without its sign. -/
@[irreducible] def absC (x : Option Nat) : Option Nat := x.map fun b => rg .f64 b
theorem absC_none : absC none = none := by unfold absC; rfl
theorem absC_some (b : Nat) : absC (some b) = some (rg .f64 b) := by unfold absC; rfl
theorem rg_rg (b : Nat) : rg .f64 (rg .f64 b) = rg .f64 b := (rg_self (rg_small b)).1
theorem key_rg (b : Nat) : key .f64 (rg .f64 b) = rg .f64 b := by
  unfold key; rw [(rg_self (rg_small b)).2, rg_rg]; rfl
theorem cn_abs (b : Nat) : cn .f64 (rg .f64 b) = absC (cn .f64 b) := by
  cases h : cn .f64 b with
  | none =>
    rw [absC_none]
    refine cn_nan ?_
    have h1 := cn_none h
    by_cases c : rg .f64 b ≤ FloatKind.f64.format.infRung
    · rw [num_of_rg .f64 b c] at h1; cases h1
    · by_cases d : (FloatKind.f64.format.read (rg .f64 b)).isNaN = true
      · exact d
      · exfalso
        have := rg_le .f64 (rg .f64 b) (by simpa using d)
        rw [rg_rg] at this; exact c this
  | some x =>
    obtain ⟨rfl, hx⟩ := cn_some h
    rw [absC_some]
    exact cn_of_rg _ _ (by rw [rg_rg]; exact rg_le .f64 b hx)

/-- Subnormal. -/
@[irreducible] def subC (x : Option Nat) : Bool := match x with | none => false | some b => decide (0 < rg .f32 b ∧ rg .f32 b < 8388608)
theorem subC_none : subC none = false := by unfold subC; rfl
theorem subC_some (b : Nat) : subC (some b) = decide (0 < rg .f32 b ∧ rg .f32 b < 8388608) := by unfold subC; rfl
theorem ne_zero_test {b : Nat} (h : cn .f32 b = some b) : (ford .f32 (some b) (some 0) != some Ordering.eq) = decide (0 < rg .f32 b) := by
  rw [ford_cmp (cn_rg h) (rg0 _), o_ne, key0]
  unfold key
  rw [Bool.eq_iff_iff]
  cases sg .f32 b <;> simp <;> omega
theorem min_c : cn .f64 4039728865751334912 = some 4039728865751334912 := cn_num (by decide)
theorem sz32_small {b : Nat} : sz .f32 b < 2 ^ 23 ↔ rg .f32 b < 8388608 := by
  have h := R_le_rg (k := .f32) (b := b) (p := -126) (by unfold LP; rw [S_lp, S_fb]; decide)
  have h1 : R FloatKind.f32.format (-126) = 8388608 := by decide
  have h2 : (-126 - LP .f32).toNat = 23 := by decide
  rw [h1, h2] at h
  omega
/-- '|x| < 2 ^ -126'. -/
theorem sub_test {b : Nat} (h : cn .f32 b = some b) : (ford .f64 (absC (cvF .f32 .f64 (some b))) (some 4039728865751334912) == some Ordering.lt) = decide (rg .f32 b < 8388608) := by
  have hc1 : rg .f64 4039728865751334912 = 4039728865751334912 ∧ sg .f64 4039728865751334912 = false := rg_self (by decide)
  have hc2 : key .f64 4039728865751334912 = 4039728865751334912 := by unfold key; rw [hc1.1, hc1.2]; rfl
  have hR : RD (-126) = 4039728865751334912 := by decide
  have hb := cn_rg h
  by_cases hf : rg .f32 b < FloatKind.f32.format.infRung
  · obtain ⟨r, hr, hfr, _, hsz⟩ := up_fin hf
    rw [hr, absC_some, ford_cmp (by rw [rg_rg]; exact Nat.le_of_lt hfr) (by rw [hc1.1, D_inf]; decide), o_lt, hc2, key_rg]
    have h1 := sz_ge (b := r) (p := -126) (by unfold inP; omega)
    rw [hR, hsz] at h1
    have h2 : (-126 + 1074 : Int).toNat = 23 + c925 := by rw [c925_eq]; decide
    rw [h2, pow_split] at h1
    have h3 := sz32_small (b := b)
    have h4 : 2 ^ 23 * 2 ^ c925 ≤ sz .f32 b * 2 ^ c925 ↔ 2 ^ 23 ≤ sz .f32 b :=
      ⟨fun h => Nat.le_of_mul_le_mul_right h (Nat.two_pow_pos _), fun h => Nat.mul_le_mul_right _ h⟩
    rw [h4] at h1
    rw [Bool.eq_iff_iff]
    simp only [decide_eq_true_eq]
    omega
  · have hi : rg .f32 b = FloatKind.f32.format.infRung := by omega
    obtain ⟨r, hr, _, hrg⟩ := up_inf hi
    rw [hr, absC_some, ford_cmp (by rw [rg_rg, hrg]; exact Nat.le_refl _) (by rw [hc1.1, D_inf]; decide), o_lt, hc2, key_rg, hrg, hi, D_inf, S_inf]
    decide
/-- The exponent's bits. -/
theorem mask_and (b : Nat) : b &&& 2139095040 = (b / 2 ^ 23 % 2 ^ 8) * 2 ^ 23 := by
  refine Nat.eq_of_testBit_eq fun j => ?_
  rw [Nat.testBit_and, ← Nat.shiftLeft_eq, Nat.testBit_shiftLeft, Nat.testBit_mod_two_pow, Nat.testBit_div_two_pow]
  have hm : (2139095040 : Nat) = (2 ^ 8 - 1) <<< 23 := by decide
  rw [hm, Nat.testBit_shiftLeft, Nat.testBit_two_pow_sub_one]
  by_cases h1 : j ≥ 23
  · rw [show j - 23 + 23 = j by omega]
    simp [h1]
    rw [Bool.and_comm]
  · simp [h1]
theorem exp_test {b : Nat} (hb : b < 4294967296) : (bits BinOp.and IntKind.i64 b 2139095040 == 0) = decide (rg .f32 b < 8388608) := by
  have e1 : bits BinOp.and IntKind.i64 b 2139095040 = IntKind.i64.wrap (((BitVec.ofNat 64 b &&& BitVec.ofNat 64 2139095040).toNat : Nat) : Int) := rfl
  have e2 : (BitVec.ofNat 64 b &&& BitVec.ofNat 64 2139095040).toNat = (b / 2 ^ 23 % 2 ^ 8) * 2 ^ 23 := by
    rw [BitVec.toNat_and, BitVec.toNat_ofNat, Nat.mod_eq_of_lt (show b < 2 ^ 64 by omega)]
    exact mask_and b
  rw [e1, e2, Bool.eq_iff_iff]
  unfold rg
  rw [S_sw, IntKind.wrap_i64]
  simp only [beq_iff_eq, decide_eq_true_eq]
  have : b / 2 ^ 23 = b / 8388608 := rfl
  omega
end Go.Proofs.Ytakaocddhaepmaa
