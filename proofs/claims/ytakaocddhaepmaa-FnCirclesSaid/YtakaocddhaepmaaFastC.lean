/-
  Conversions by plain whole numbers: float32 to float64; the floor as an integer.
-/
import Derived.Test.YtakaocddhaepmaaFastR
import Derived.Test.YtakaocddhaepmaaInt
import Derived.Test.YtakaocddhaepmaaVal4
namespace Go.Proofs.Ytakaocddhaepmaa
open Ieee Go.RowKit

theorem rg_F (b : Nat) : rg .f64 b = rgF b := by unfold rg rgF; rw [D_sw]
theorem sg_F {b : Nat} (h : b < 18446744073709551616) : sg .f64 b = sgF b := by unfold sg; exact sgF_eq h
theorem sz_F (b : Nat) : sz .f64 b = mF (rgF b) * 2 ^ pF (rgF b) := by
  unfold sz mg
  rw [rg_F, D_bin, mF_eq, pF_eq]
  split
  · simp
  · rfl
/-- The floor is V - 182. -/
def flC (s : Bool) (m p V : Nat) : Bool :=
  cond (Nat.ble p (nat_lit 1074)) (cond s (Nat.beq (Nat.add V (Nat.add (Nat.div m (Nat.pow (nat_lit 2) (Nat.sub (nat_lit 1074) p))) (cond (Nat.beq (Nat.mod m (Nat.pow (nat_lit 2) (Nat.sub (nat_lit 1074) p))) (nat_lit 0)) (nat_lit 0) (nat_lit 1)))) (nat_lit 182))
    (Nat.beq (Nat.add (Nat.div m (Nat.pow (nat_lit 2) (Nat.sub (nat_lit 1074) p))) (nat_lit 182)) V)) false
def flR (t V : Nat) : Bool := and (okR t) (flC (sgR t) (mR (rgR t)) (pR (rgR t)) V)
theorem div_U {m p : Nat} (h : p ≤ 1074) : m * 2 ^ p / U = m / 2 ^ (1074 - p) ∧ (m * 2 ^ p % U = 0 ↔ m % 2 ^ (1074 - p) = 0) := by
  have e : U = 2 ^ (1074 - p) * 2 ^ p := by
    unfold U
    rw [← pow_split]
    exact congrArg (fun n => 2 ^ n) (by rw [c1074_eq]; omega)
  have hp := Nat.two_pow_pos p
  rw [e]
  refine ⟨Nat.mul_div_mul_right _ _ hp, ?_⟩
  rw [Nat.mul_mod_mul_right]
  constructor
  · intro h0
    rcases Nat.mul_eq_zero.1 h0 with h1 | h1
    · exact h1
    · omega
  · intro h0; rw [h0, Nat.zero_mul]
theorem fl_ok {t V : Nat} (h : flR t V = true) (hV : V < 1000) : floatToIntVal .f64 (flo t) .i64 = some ((V : Int) - 182) := by
  unfold flR at h
  change (okF t && flC (sgF t) (mF (rgF t)) (pF (rgF t)) V) = true at h
  rw [Bool.and_eq_true] at h
  obtain ⟨h1, h2⟩ := h
  obtain ⟨k1, k2⟩ := okF_of h1
  have hf : fin .f64 t := by unfold fin; rw [rg_F, D_inf]; exact k2
  have hsz := sz_F t
  unfold flC at h2
  change cond (Nat.ble (pF (rgF t)) 1074) (cond (sgF t) (Nat.beq (V + (mF (rgF t) / 2 ^ (1074 - pF (rgF t)) + cond (Nat.beq (mF (rgF t) % 2 ^ (1074 - pF (rgF t))) 0) 0 1)) 182) (Nat.beq (mF (rgF t) / 2 ^ (1074 - pF (rgF t)) + 182) V)) false = true at h2
  rcases hp : Nat.ble (pF (rgF t)) 1074
  · rw [hp] at h2; cases h2
  · rw [hp] at h2
    obtain ⟨d1, d2⟩ := div_U (m := mF (rgF t)) (Nat.le_of_ble_eq_true hp)
    rw [← hsz] at d1 d2
    rw [← d1] at h2
    have hs := sg_F k1
    rcases hn : sgF t
    · rw [hn] at h2 hs
      have h3 := Nat.eq_of_beq_eq_true (show Nat.beq (sz .f64 t / U + 182) V = true from h2)
      obtain ⟨f1, f2, f3⟩ := flo_fin hf (by omega)
      rw [hs] at f2 f3
      have f4 : sz .f64 (flo t) / U = sz .f64 t / U := by
        rw [f3]
        simp only [Bool.false_and, Bool.toNat_false, Nat.add_zero]
        exact Nat.mul_div_cancel _ U_pos
      rw [toIntVal_fin f1 (by rw [f4]; omega), f2, f4]
      simp; omega
    · rw [hn] at h2 hs
      have h3 := Nat.eq_of_beq_eq_true (show Nat.beq (V + (sz .f64 t / U + cond (Nat.beq (mF (rgF t) % 2 ^ (1074 - pF (rgF t))) 0) 0 1)) 182 = true from h2)
      have hc : (cond (Nat.beq (mF (rgF t) % 2 ^ (1074 - pF (rgF t))) 0) 0 1 : Nat) = (sz .f64 t % U != 0).toNat := by
        by_cases h0 : mF (rgF t) % 2 ^ (1074 - pF (rgF t)) = 0
        · rw [h0, d2.2 h0]; rfl
        · have e1 : Nat.beq (mF (rgF t) % 2 ^ (1074 - pF (rgF t))) 0 = false := by rw [Bool.eq_false_iff]; intro e; exact h0 (Nat.eq_of_beq_eq_true e)
          have e2 : (sz .f64 t % U != 0) = true := by rw [bne_iff_ne]; exact fun e => h0 (d2.1 e)
          rw [e1, e2]; rfl
      rw [hc] at h3
      obtain ⟨f1, f2, f3⟩ := flo_fin hf (by omega)
      rw [hs] at f2 f3
      have f4 : sz .f64 (flo t) / U = sz .f64 t / U + (sz .f64 t % U != 0).toNat := by
        rw [f3, Bool.true_and]
        exact Nat.mul_div_cancel _ U_pos
      rw [toIntVal_fin f1 (by rw [f4]; omega), f2, f4, if_pos rfl]
      congr 1; omega
/-- float32 to float64, of a normal number above 0: b32 and b64 are the same number. -/
def upC (b c : Nat) : Bool :=
  and (and (Nat.ble (nat_lit 8388608) b) (Nat.ble (Nat.succ b) (nat_lit 2139095040))) (and (and (okR c) (Nat.ble (nat_lit 4503599627370496) c))
    (and (Nat.ble (Nat.succ c) (nat_lit 9223372036854775808)) (Nat.beq (Nat.mul (mR c) (Nat.pow (nat_lit 2) (pR c))) (Nat.mul (Nat.add (nat_lit 8388608) (Nat.mod b (nat_lit 8388608))) (Nat.pow (nat_lit 2) (Nat.add (Nat.sub (Nat.div b (nat_lit 8388608)) (nat_lit 1)) (nat_lit 925)))))))
theorem upC_ok {b c : Nat} (h : upC b c = true) : cvF .f32 .f64 (some b) = some c ∧ 8388608 ≤ b ∧ b < 2139095040 := by
  unfold upC at h
  change ((Nat.ble 8388608 b && Nat.ble (b + 1) 2139095040) && ((okF c && Nat.ble 4503599627370496 c) && (Nat.ble (c + 1) 9223372036854775808 && Nat.beq (mF c * 2 ^ pF c) ((8388608 + b % 8388608) * 2 ^ (b / 8388608 - 1 + 925))))) = true at h
  simp only [Bool.and_eq_true] at h
  obtain ⟨⟨h1, h2⟩, ⟨h3, h4⟩, h5, h6⟩ := h
  have h1 := Nat.le_of_ble_eq_true h1
  have h2 := Nat.le_of_ble_eq_true h2
  have h5 := Nat.le_of_ble_eq_true h5
  have h6 := Nat.eq_of_beq_eq_true h6
  obtain ⟨r1, r2⟩ := rg_self32 (b := b) (by omega)
  obtain ⟨s1, s2⟩ := rg_self (b := c) (by omega)
  have hf : fin .f32 b := by unfold fin; rw [r1, S_inf]; omega
  obtain ⟨r, hr, hrf, hrs, hrz⟩ := up_fin hf
  refine ⟨?_, h1, by omega⟩
  rw [hr]
  have hz : sz .f64 r = sz .f64 c := by
    rw [hrz, sz_F c, ← rg_F, s1, h6]
    unfold sz mg
    rw [r1, S_bin, if_neg (by omega), Nat.mul_assoc, ← pow_split]
    exact congrArg (fun n => (8388608 + b % 8388608) * 2 ^ n) (by rw [c925_eq])
  have hg : rg .f64 r = rg .f64 c := by
    unfold sz at hz
    exact (mg_eq_iff _ _ _).1 hz
  have hlt : r < 18446744073709551616 := by
    rw [cvF_some] at hr
    have := conv_lt (by decide) hr
    exact this
  have w1 := word_split64 hlt
  rw [hrs, r2, hg, s1] at w1
  simp at w1
  rw [w1]
end Go.Proofs.Ytakaocddhaepmaa
