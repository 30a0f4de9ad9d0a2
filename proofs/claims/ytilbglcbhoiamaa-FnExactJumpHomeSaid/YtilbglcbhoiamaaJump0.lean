/-
  The plain law of JumpHome's step: it is defined, and it goes on by one at least.
-/
import Derived.Test.YtilbglcbhoiamaaInt
import Derived.Test.YtilbglcbhoiamaaHash2
namespace Go.Proofs.Ytilbglcbhoiamaa
open Ieee

def cTwo31 : Nat := 4746794007248502784
/-- The step's number, from where the last one was and the divisor. -/
def jq (d : Int) : Nat := (floatBits .quo .f64 4746794007248502784 (floatOfInt .f64 d)).getD 0
def jy (j d : Int) : Nat := (floatBits .mul .f64 (floatOfInt .f64 (j + 1)) (jq d)).getD 0
@[irreducible] def jn (j d : Int) : Int := (floatToIntVal .f64 (flo (jy j d)) .i64).getD 0
theorem pow_at (p : Nat) (z : Int) (h : z = (p : Int) + 1074) : 2 ^ z.toNat = 2 ^ p * U := by
  unfold U; rw [← pow_split]
  exact congrArg (fun n => 2 ^ n) (by rw [c1074_eq]; omega)
theorem jump_facts (j d : Int) (hj0 : 0 ≤ j) (hj : j < 1000000) (hd1 : 1 ≤ d) (hd2 : d ≤ 2147483648) :
    floatBits .quo .f64 4746794007248502784 (floatOfInt .f64 d) = some (jq d) ∧
    floatBits .mul .f64 (floatOfInt .f64 (j + 1)) (jq d) = some (jy j d) ∧
    cn .f64 (jy j d) = some (jy j d) ∧ fin .f64 (jy j d) ∧
    floatToIntVal .f64 (flo (jy j d)) .i64 = some (jn j d) ∧ j + 1 ≤ jn j d ∧ jn j d ≤ 4503599627370496 := by
  have ip0 : inP 0 := by unfold inP; omega
  have ip31 : inP 31 := by unfold inP; omega
  have ip20 : inP 20 := by unfold inP; omega
  have ip51 : inP (20 + 31) := by unfold inP; omega
  -- the divisor
  obtain ⟨f1, s1, z1⟩ := int_fin d (by omega)
  have e31 : (2 : Nat) ^ 31 = 2147483648 := by decide
  have hd31 : rg .f64 (floatOfInt .f64 d) ≤ RD 31 := by
    rw [sz_le ip31, z1, pow_at 31 (31 + 1074) (by decide)]; exact Nat.mul_le_mul_right _ (by rw [e31]; omega)
  have hd0 : RD 0 ≤ rg .f64 (floatOfInt .f64 d) := by
    rw [sz_ge ip0, z1, pow_at 0 (0 + 1074) (by decide)]
    exact Nat.mul_le_mul_right _ (by simp; omega)
  -- 2 ^ 31
  have hc : rg .f64 4746794007248502784 = 4746794007248502784 ∧ sg .f64 4746794007248502784 = false := rg_self (by decide)
  have hR31 : RD 31 = 4746794007248502784 := by decide
  have fc : fin .f64 4746794007248502784 := by unfold fin; rw [hc.1, D_inf]; decide
  have hRi : ∀ p, inP p → R FloatKind.f64.format p ≤ FloatKind.f64.format.infRung := fun p hp => by rw [RD_eq]; exact Nat.le_of_lt (RD_lt hp)
  obtain ⟨q, hq, hq1⟩ := div_fin (p := 31) (q := 0) fc f1 (ok_of ip31) (ok_of ip0) (ok_of ip31) (by rw [RD_eq, hc.1, hR31]; exact Nat.le_refl _) (by rw [RD_eq]; exact hd0)
  obtain ⟨q', hq', hq2, hq3⟩ := div_fin_ge (p := 31) (q := 31) fc f1 (ok_of ip31) (ok_of ip31) (ok_of ip0) (hRi _ ip0)
    (by have h := hd0
        have : 0 < RD 0 := by decide
        omega) (by rw [RD_eq, hc.1, hR31]; exact Nat.le_refl _) (by rw [RD_eq]; exact hd31)
  have hqq : q' = q := by rw [hq'] at hq; exact Option.some.inj hq
  subst hqq
  have ejq : jq d = q' := by unfold jq; rw [hq]; rfl
  have fq : fin .f64 q' := by unfold fin; rw [RD_eq] at hq1; exact Nat.lt_of_le_of_lt hq1 (RD_lt ip31)
  have sq : sg .f64 q' = false := by rw [hq3, hc.2, s1]; simp; omega
  have zq : U ≤ sz .f64 q' := by
    have h2 : RD 0 ≤ rg .f64 q' := by rw [← RD_eq]; exact hq2
    rw [sz_ge ip0, pow_at 0 (0 + 1074) (by decide)] at h2
    simpa using h2
  have zq2 : sz .f64 q' ≤ 2147483648 * U := by
    have h2 : rg .f64 q' ≤ RD 31 := by rw [← RD_eq]; exact hq1
    rw [sz_le ip31, pow_at 31 (31 + 1074) (by decide), e31] at h2
    exact h2
  -- j + 1 and the product
  obtain ⟨f2, s2, z2⟩ := int_fin (j + 1) (by omega)
  have hLP : (-LP .f64).toNat = c1074 := by unfold LP; rw [D_lp, c1074_eq]; decide
  obtain ⟨y, hy, hys, hyge, hyle⟩ := mul_mono f2 fq (by unfold LP; rw [D_lp]; decide)
  rw [hLP] at hyge hyle
  have ejy : jy j d = y := by unfold jy; rw [ejq, hy]; rfl
  have sy : sg .f64 y = false := by rw [hys, s2, sq]; simp; omega
  have hyR : rg .f64 y ≤ RD 51 := by
    refine hyle _ ?_
    rw [← RD_eq, mg_R _ _ (ok_of (by unfold inP; omega : inP 51)), D_lp, pow_at 51 (51 - -1074) (by decide), z2]
    show _ ≤ 2 ^ 51 * U * U
    have h51 : (2 : Nat) ^ 51 = 1048576 * 2147483648 := by decide
    rw [h51]
    calc (j + 1).natAbs * U * sz .f64 q' ≤ (1048576 * U) * (2147483648 * U) := Nat.mul_le_mul (Nat.mul_le_mul_right _ (by omega)) zq2
      _ = 1048576 * 2147483648 * U * U := by rw [Nat.mul_assoc 1048576 U, Nat.mul_left_comm U, ← Nat.mul_assoc, ← Nat.mul_assoc]
  have fy : fin .f64 y := by unfold fin; exact Nat.lt_of_le_of_lt hyR (RD_lt (by unfold inP; omega))
  have zy1 : (j + 1).natAbs * U ≤ sz .f64 y := by
    have h1 := hyge (rg .f64 (floatOfInt .f64 (j + 1))) (Nat.le_of_lt f2) (by
      show sz .f64 (floatOfInt .f64 (j + 1)) * U ≤ _
      exact Nat.mul_le_mul_left _ zq)
    have h2 : sz .f64 (floatOfInt .f64 (j + 1)) ≤ sz .f64 y := by
      have := mg_lt_iff FloatKind.f64.format (rg .f64 y) (rg .f64 (floatOfInt .f64 (j + 1)))
      unfold sz; omega
    rw [z2] at h2; exact h2
  have zy2 : sz .f64 y ≤ 2251799813685248 * U := by
    have h2 := hyR
    rw [sz_le (by unfold inP; omega), pow_at 51 (51 + 1074) (by decide)] at h2
    exact h2
  have cy : cn .f64 y = some y := cn_of_rg _ _ (Nat.le_of_lt fy)
  have hF1 : (j + 1).natAbs ≤ sz .f64 y / U := (Nat.le_div_iff_mul_le U_pos).2 zy1
  have hF2 : sz .f64 y / U ≤ 2251799813685248 := Nat.div_le_of_le_mul (by rw [Nat.mul_comm]; exact zy2)
  obtain ⟨ff, fs, fz⟩ := flo_fin fy (by omega)
  rw [sy] at fz
  have fz' : sz .f64 (flo y) / U = sz .f64 y / U := by rw [fz]; simp; exact Nat.mul_div_cancel _ U_pos
  have hI := toIntVal_fin ff (by rw [fz']; omega)
  rw [fs, sy, fz'] at hI
  have ejn : jn j d = ((sz .f64 y / U : Nat) : Int) := by unfold jn; rw [ejy, hI]; rfl
  rw [ejn, ejy, ejq]
  refine ⟨hq, hy, cy, fy, hI, ?_, ?_⟩ <;> (generalize sz .f64 y / U = F at *; omega)
end Go.Proofs.Ytilbglcbhoiamaa
