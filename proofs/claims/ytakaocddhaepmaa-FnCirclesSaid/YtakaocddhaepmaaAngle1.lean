/-
  The angle of a point: the cases.
-/
import Derived.Test.YtakaocddhaepmaaAngle0
namespace Go.Proofs.Ytakaocddhaepmaa
open Go.RowKit

def tN (t : Option Nat) : Nat → Option Nat
  | 0 => t
  | j + 1 => agR (tN t j)
theorem tN_le {t : Option Nat} (h : le2 t 1) : ∀ j, le2 (tN t j) 1
  | 0 => h
  | j + 1 => agR_le (tN_le h j)
@[irreducible] def ang1 (g : Bool) (a : Option Nat) : Option Nat := if g then fop .sub .f64 (some 4598175219545276416) a else a
@[irreducible] def ang2 (g : Bool) (a : Option Nat) : Option Nat := if g then fop .sub .f64 (some 4602678819172646912) a else a
@[irreducible] def ang3 (g : Bool) (a : Option Nat) : Option Nat := if g then fneg a else a
@[irreducible] def angO (g sx sy : Bool) (t : Option Nat) : Option Nat := ang3 sy (ang2 sx (ang1 g (agA (tN t 3))))
theorem angO_le {g sx sy : Bool} {t : Option Nat} (h : le2 t 1) : le2 (angO g sx sy t) 127 := by
  have h0 := agA_le (tN_le h 3)
  have hb0 : ∀ b, agA (tN t 3) = some b → b < 2 ^ FloatKind.f64.format.width := by intro b hb; unfold agA at hb; exact fop_lt hb
  have h1 : le2 (ang1 g (agA (tN t 3))) 31 := by
    unfold ang1; split
    · exact le2_sub (p := 30) (by rw [le2_some]; decide) h0 (inP_of' (by omega) (by omega)) (inP_of' (by omega) (by omega))
    · exact le2_mono h0 (by omega)
  have hb1 : ∀ b, ang1 g (agA (tN t 3)) = some b → b < 2 ^ FloatKind.f64.format.width := by
    intro b hb; unfold ang1 at hb
    split at hb
    · exact fop_lt hb
    · exact hb0 b hb
  have h2 : le2 (ang2 sx (ang1 g (agA (tN t 3)))) 32 := by
    unfold ang2; split
    · exact le2_sub (p := 31) (by rw [le2_some]; decide) h1 (inP_of' (by omega) (by omega)) (inP_of' (by omega) (by omega))
    · exact le2_mono h1 (by omega)
  have hb2 : ∀ b, ang2 sx (ang1 g (agA (tN t 3))) = some b → b < 2 ^ FloatKind.f64.format.width := by
    intro b hb; unfold ang2 at hb
    split at hb
    · exact fop_lt hb
    · exact hb1 b hb
  unfold angO ang3
  split
  · exact le2_neg (le2_mono h2 (by omega)) hb2
  · exact le2_mono h2 (by omega)
/-- A word that stands for a finite float32. -/
structure Up (b r : Nat) : Prop where
  cv : cvF .f32 .f64 (cn .f32 b) = some r
  own : cn .f64 r = some r
  f : fin .f64 r
  hi : rg .f64 r ≤ RD 128
  lo : rg .f64 r ≠ 0 → RD (-149) ≤ rg .f64 r
  sg : sg .f64 r = sg .f32 b
  zero : rg .f64 r = 0 ↔ rg .f32 b = 0
  own32 : cn .f32 b = some b
theorem up_of {b : Nat} (h : isFin .f32 (cn .f32 b) = true) : ∃ r, Up b r := by
  rcases cn_own .f32 b with ha | ha
  · rw [ha, isFin_none] at h; cases h
  · rw [ha, isFin_some ha] at h
    have hf : fin .f32 b := by unfold fin; simpa using h
    have hle := cn_rg ha
    obtain ⟨r, hr, fr, hs, hz⟩ := up_fin hf
    obtain ⟨r', hr', _, hz'⟩ := up_word ha
    rw [hr] at hr'; cases hr'
    have ip : inP (-149) := inP_of' (by omega) (by omega)
    have iq : inP 128 := inP_of' (by omega) (by omega)
    refine ⟨r, by rw [ha]; exact hr, cn_of_rg _ _ (Nat.le_of_lt fr), fr, ?_, ?_, hs, hz', ha⟩
    · rw [sz_le iq, hz]
      have h3 : rg .f32 b ≤ R FloatKind.f32.format 128 := by
        have : R FloatKind.f32.format 128 = FloatKind.f32.format.infRung := by decide
        rw [this]; exact hle
      rw [rg_le_R (by unfold LP; rw [S_lp, S_fb]; omega)] at h3
      have e1 : ((128 : Int) - LP .f32).toNat = c277 := by unfold LP; rw [S_lp, c277_eq]; decide
      rw [e1] at h3
      have e2 : ((128 : Int) + 1074).toNat = c277 + c925 := by rw [c925_eq, c277_eq]; decide
      rw [e2, pow_split]
      exact Nat.mul_le_mul_right _ h3
    · intro h0
      have hz0 : sz .f64 r ≠ 0 := fun e => h0 ((mg_eq_iff FloatKind.f64.format (rg .f64 r) 0).1 (by rw [mg_zero]; exact e))
      have hb0 : 1 ≤ sz .f32 b := by
        rcases Nat.eq_zero_or_pos (sz .f32 b) with h | h
        · rw [hz, h, Nat.zero_mul] at hz0; exact absurd rfl hz0
        · exact h
      rw [sz_ge ip, hz, show ((-149 : Int) + 1074).toNat = c925 by rw [c925_eq]; decide]
      exact Nat.le_mul_of_pos_left _ hb0
theorem le_next52 (g : Nat) : g ≤ (g / 4503599627370496 + 1) * 4503599627370496 := by
  have h1 := Nat.div_add_mod g 4503599627370496
  have h2 := Nat.mod_lt g (show 0 < 4503599627370496 by decide)
  rw [Nat.add_mul, Nat.mul_comm (g / 4503599627370496)]
  omega
/-- A quotient of what is no larger. -/
theorem quo_one {a b : Nat} (h : rg .f64 a ≤ rg .f64 b) (hhi : rg .f64 b ≤ RD 128) (hlo : RD (-149) ≤ rg .f64 b) : le2 (fop .quo .f64 (some a) (some b)) 1 := by
  have hp : ∃ p : Int, -149 ≤ p ∧ p ≤ 128 ∧ RD p ≤ rg .f64 b ∧ rg .f64 b ≤ RD (p + 1) := by
    have h1 : RD 128 = 1151 * 4503599627370496 := by decide
    have h2 : RD (-149) = 874 * 4503599627370496 := by decide
    rw [h1] at hhi
    rw [h2] at hlo
    generalize rg .f64 b = g at *
    have a1 : 874 ≤ g / 4503599627370496 := (Nat.le_div_iff_mul_le (by decide)).2 hlo
    have a2 : g / 4503599627370496 ≤ 1151 := Nat.div_le_of_le_mul (by rw [Nat.mul_comm]; exact hhi)
    have a3 := Nat.div_mul_le_self g 4503599627370496
    have a4 : g ≤ (g / 4503599627370496 + 1) * 4503599627370496 := by
      have := le_next52 g
      exact this
    generalize g / 4503599627370496 = q at *
    refine ⟨(q : Int) - 1023, by omega, by omega, ?_, ?_⟩
    · unfold RD
      rw [show ((q : Int) - 1023 + 1023).toNat = q by omega]
      exact a3
    · unfold RD
      rw [show ((q : Int) - 1023 + 1 + 1023).toNat = q + 1 by omega]
      exact a4
  obtain ⟨p, p1, p2, p3, p4⟩ := hp
  have hf : fin .f64 b := by
    have := RD_lt (p := 128) (inP_of' (by omega) (by omega))
    unfold fin; omega
  exact le2_mono (le2_quo (p := p + 1) (q := p) (le2_some.2 (by omega)) (ge2_some.2 p3) (fi_some.2 hf) (inP_of' (by omega) (by omega)) (inP_of' (by omega) (by omega)) (inP_of' (by omega) (by omega))) (by omega)
/-- Which is the larger. -/
@[irreducible] def agG (y x : Nat) : Bool := decide (rg .f64 x < rg .f64 y)
@[irreducible] def agT (y x : Nat) : Option Nat := if agG y x then fop .quo .f64 (some (rg .f64 x)) (some (rg .f64 y)) else fop .quo .f64 (some (rg .f64 y)) (some (rg .f64 x))
theorem agG_eq {y x : Nat} (hy : fin .f64 y) (hx : fin .f64 x) : (ford .f64 (some (rg .f64 y)) (some (rg .f64 x)) == some Ordering.gt) = agG y x := by
  unfold fin at hx hy
  rw [ford_cmp (by rw [rg_rg]; exact Nat.le_of_lt hy) (by rw [rg_rg]; exact Nat.le_of_lt hx), o_gt, key_rg, key_rg]
  unfold agG
  rw [Bool.eq_iff_iff]; simp
theorem agT_le {b c y x : Nat} (uy : Up b y) (ux : Up c x) (h : ¬ (rg .f64 x = 0 ∧ rg .f64 y = 0)) : le2 (agT y x) 1 := by
  unfold agT agG
  by_cases hg : rg .f64 x < rg .f64 y
  · simp only [hg, decide_true, ite_true]
    exact quo_one (by rw [rg_rg, rg_rg]; omega) (by rw [rg_rg]; exact uy.hi) (by rw [rg_rg]; exact uy.lo (by omega))
  · simp only [hg, decide_false, Bool.false_eq_true, ite_false]
    exact quo_one (by rw [rg_rg, rg_rg]; omega) (by rw [rg_rg]; exact ux.hi) (by rw [rg_rg]; exact ux.lo (by omega))
/-- Under zero. -/
@[irreducible] def neg (k : FloatKind) (b : Nat) : Bool := decide (sg k b = true ∧ 0 < rg k b)
theorem neg_up {b r : Nat} (u : Up b r) : neg .f64 r = neg .f32 b := by
  unfold neg
  have := u.zero
  rw [u.sg, Bool.eq_iff_iff]
  simp; omega
theorem lt_neg {k : FloatKind} {b : Nat} (h : rg k b ≤ k.format.infRung) : (ford k (some b) (some 0) == some Ordering.lt) = neg k b := by
  rw [lt_zero h]; unfold neg; rfl
/-- The angle of a point of float32. -/
@[irreducible] def angV (y x : Nat) : Option Nat := if rg .f64 x = 0 ∧ rg .f64 y = 0 then some 0 else angO (agG y x) (neg .f64 x) (neg .f64 y) (agT y x)
theorem angV_le {b c y x : Nat} (uy : Up b y) (ux : Up c x) : le2 (angV y x) 127 := by
  unfold angV
  split
  · rw [le2_some]; decide
  · rename_i h; exact angO_le (agT_le uy ux h)
end Go.Proofs.Ytakaocddhaepmaa
