/-
  Bounds for canonical forms of float64; what float32 can take; the conversions in rungs; the bits of a word.
-/
import Derived.Test.YtakaocddhaepmaaVal2
namespace Go.Proofs.Ytakaocddhaepmaa
open Ieee

theorem D_inf : FloatKind.f64.format.infRung = 9218868437227405312 := by decide
theorem D_bin : FloatKind.f64.format.binade = 4503599627370496 := by decide
theorem D_lp : FloatKind.f64.format.leastPlace = -1074 := by decide
theorem D_sw : FloatKind.f64.format.signWeight = 9223372036854775808 := by decide
theorem S_inf : FloatKind.f32.format.infRung = 2139095040 := by decide
theorem S_bin : FloatKind.f32.format.binade = 8388608 := by decide
theorem S_lp : FloatKind.f32.format.leastPlace = -149 := by decide
theorem S_sw : FloatKind.f32.format.signWeight = 2147483648 := by decide
theorem D_fb : FloatKind.f64.format.fractionBits = 52 := rfl
theorem S_fb : FloatKind.f32.format.fractionBits = 23 := rfl
/-- The rung of 2 ^ p. -/
def RD (p : Int) : Nat := (p + 1023).toNat * 4503599627370496
theorem RD_eq (p : Int) : R FloatKind.f64.format p = RD p := by
  unfold R RD
  rw [D_bin, D_lp, D_fb]
  congr 2; omega
def inP (p : Int) : Prop := -1022 ≤ p ∧ p ≤ 1023
theorem ok_of {p : Int} (h : inP p) : okP .f64 p := by unfold okP LP; rw [D_lp, D_fb]; unfold inP at h; omega
theorem RD_lt {p : Int} (h : inP p) : RD p < FloatKind.f64.format.infRung := by
  rw [D_inf]; unfold RD inP at *
  have : (p + 1023).toNat ≤ 2046 := by omega
  have := Nat.mul_le_mul_right 4503599627370496 this
  omega
/-- |x| at most 2 ^ p, if x is no NaN. -/
@[irreducible] def le2 (x : Option Nat) (p : Int) : Prop := ∀ b, x = some b → rg .f64 b ≤ RD p
/-- |x| at least 2 ^ p, if x is no NaN. -/
@[irreducible] def ge2 (x : Option Nat) (p : Int) : Prop := ∀ b, x = some b → RD p ≤ rg .f64 b
/-- Finite, if no NaN. -/
@[irreducible] def fi (x : Option Nat) : Prop := ∀ b, x = some b → fin .f64 b
theorem fi_le2 {x : Option Nat} {p : Int} (hp : inP p) (h : le2 x p) : fi x := by
  unfold fi; unfold le2 at h
  intro b hb
  have := h b hb
  have := RD_lt hp
  unfold fin; omega
theorem le2_none (p : Int) : le2 none p := by unfold le2; intro b h; cases h
theorem le2_some {b : Nat} {p : Int} : le2 (some b) p ↔ rg .f64 b ≤ RD p := by
  unfold le2; exact ⟨fun h => h b rfl, fun h b' e => by cases e; exact h⟩
theorem ge2_some {b : Nat} {p : Int} : ge2 (some b) p ↔ RD p ≤ rg .f64 b := by
  unfold ge2; exact ⟨fun h => h b rfl, fun h b' e => by cases e; exact h⟩
theorem fi_some {b : Nat} : fi (some b) ↔ fin .f64 b := by
  unfold fi; exact ⟨fun h => h b rfl, fun h b' e => by cases e; exact h⟩
theorem le2_mono {x : Option Nat} {p q : Int} (h : le2 x p) (hpq : p ≤ q) : le2 x q := by
  unfold le2 at *
  intro b hb
  refine Nat.le_trans (h b hb) ?_
  unfold RD
  exact Nat.mul_le_mul_right _ (by omega)

theorem le2_mul {x y : Option Nat} {p q : Int} (hx : le2 x p) (hy : le2 y q) (hp : inP p) (hq : inP q) (hpq : inP (p + q)) : le2 (fop .mul .f64 x y) (p + q) := by
  cases x with
  | none => rw [fop_none_l]; exact le2_none _
  | some a =>
    cases y with
    | none => rw [fop_none_r]; exact le2_none _
    | some b =>
      have fa := fi_some.1 (fi_le2 hp hx)
      have fb := fi_some.1 (fi_le2 hq hy)
      rw [le2_some, ← RD_eq] at hx hy
      obtain ⟨r, hr, h⟩ := mul_fin fa fb (ok_of hp) (ok_of hq) (ok_of hpq) hx hy
      rw [fop_some, hr, le2_some, ← RD_eq]; exact h
theorem le2_quo {x y : Option Nat} {p q : Int} (hx : le2 x p) (hy : ge2 y q) (fy : fi y) (hp : inP p) (hq : inP q) (hpq : inP (p - q)) : le2 (fop .quo .f64 x y) (p - q) := by
  cases x with
  | none => rw [fop_none_l]; exact le2_none _
  | some a =>
    cases y with
    | none => rw [fop_none_r]; exact le2_none _
    | some b =>
      have fa := fi_some.1 (fi_le2 hp hx)
      rw [le2_some, ← RD_eq] at hx
      rw [ge2_some, ← RD_eq] at hy
      obtain ⟨r, hr, h⟩ := div_fin fa (fi_some.1 fy) (ok_of hp) (ok_of hq) (ok_of hpq) hx hy
      rw [fop_some, hr, le2_some, ← RD_eq]; exact h
theorem sz_le {b : Nat} {p : Int} (hp : inP p) : rg .f64 b ≤ RD p ↔ sz .f64 b ≤ 2 ^ (p + 1074).toNat := by
  have h := rg_le_R (k := .f64) (b := b) (p := p) (ok_of hp)
  rw [RD_eq] at h
  rw [h]; unfold LP; rw [D_lp]
  rw [show p - -1074 = p + 1074 by omega]
theorem sz_ge {b : Nat} {p : Int} (hp : inP p) : RD p ≤ rg .f64 b ↔ 2 ^ (p + 1074).toNat ≤ sz .f64 b := by
  have h := R_le_rg (k := .f64) (b := b) (p := p) (ok_of hp)
  rw [RD_eq] at h
  rw [h]; unfold LP; rw [D_lp]
  rw [show p - -1074 = p + 1074 by omega]
/-- The other sign. -/
def opp (b : Nat) : Nat := if sg .f64 b then rg .f64 b else 9223372036854775808 + rg .f64 b
/-- A difference is a sum with the other sign. -/
theorem sub_add {x y : Nat} (hx : fin .f64 x) (hy : fin .f64 y) : ∃ r, floatBits .sub .f64 x y = some r ∧
    (∀ p, inP p → (V .f64 x - V .f64 y).natAbs ≤ 2 ^ (p + 1074).toNat → rg .f64 r ≤ RD p) ∧
    (∀ p, inP p → 2 ^ (p + 1074).toNat ≤ (V .f64 x - V .f64 y).natAbs → RD p ≤ rg .f64 r) := by
  obtain ⟨m, i, hr, hi, hm⟩ := read_fin hx
  obtain ⟨n, j, hr', hj, hn⟩ := read_fin hy
  unfold floatBits
  simp only [Format.sub, hr, hr', Datum.opposite, Datum.sum, Option.map_some]
  have hb1 : LP .f64 ≤ min i j := by omega
  have e1 := signed_V hb1 (show min i j ≤ i by omega) hm
  have e2 := signed_V hb1 (show min i j ≤ j by omega) hn
  have e4 : signed (!sg .f64 y) n (j - min i j).toNat = - signed (sg .f64 y) n (j - min i j).toNat := by
    rw [signed_mul, signed_mul]; cases sg .f64 y <;> simp
  rw [e4]
  generalize signed (sg .f64 x) m (i - min i j).toNat = A at *
  generalize signed (sg .f64 y) n (j - min i j).toNat = B at *
  have e3 : (A + -B).natAbs * 2 ^ (min i j - LP .f64).toNat = (V .f64 x - V .f64 y).natAbs := by
    rw [← e1, ← e2, ← Int.sub_mul, Int.natAbs_mul, Int.natAbs_natCast]; rfl
  have hlp : ∀ p : Int, (p - LP .f64).toNat = (p + 1074).toNat := fun p => by unfold LP; rw [D_lp]; rfl
  refine ⟨_, rfl, fun p hp h => ?_, fun p hp h => ?_⟩
  · rw [← RD_eq]; exact write_le .f64 _ _ _ p hb1 (ok_of hp) (by rw [e3, hlp]; exact h)
  · rw [← RD_eq]; exact write_ge .f64 _ _ _ p hb1 (ok_of hp) (by rw [RD_eq]; exact Nat.le_of_lt (RD_lt hp)) (by rw [e3, hlp]; exact h)
theorem add_fin {x y : Nat} (hx : fin .f64 x) (hy : fin .f64 y) : ∃ r, floatBits .add .f64 x y = some r ∧
    (∀ p, inP p → (V .f64 x + V .f64 y).natAbs ≤ 2 ^ (p + 1074).toNat → rg .f64 r ≤ RD p) ∧
    (∀ p, inP p → 2 ^ (p + 1074).toNat ≤ (V .f64 x + V .f64 y).natAbs → RD p ≤ rg .f64 r) := by
  obtain ⟨r, hr, h1, h2⟩ := sum_fin hx hy
  have hlp : ∀ p : Int, (p - LP .f64).toNat = (p + 1074).toNat := fun p => by unfold LP; rw [D_lp]; rfl
  refine ⟨r, hr, fun p hp h => ?_, fun p hp h => ?_⟩
  · rw [← RD_eq]; exact h1 p (ok_of hp) (by rw [hlp]; exact h)
  · rw [← RD_eq]; exact h2 p (ok_of hp) (by rw [RD_eq]; exact Nat.le_of_lt (RD_lt hp)) (by rw [hlp]; exact h)
theorem V_le (b : Nat) : (V .f64 b).natAbs = sz .f64 b := V_abs .f64 b
theorem le2_add {x y : Option Nat} {p : Int} (hx : le2 x p) (hy : le2 y p) (hp : inP p) (hp1 : inP (p + 1)) : le2 (fop .add .f64 x y) (p + 1) := by
  cases x with
  | none => rw [fop_none_l]; exact le2_none _
  | some a =>
    cases y with
    | none => rw [fop_none_r]; exact le2_none _
    | some b =>
      obtain ⟨r, hr, h, _⟩ := add_fin (fi_some.1 (fi_le2 hp hx)) (fi_some.1 (fi_le2 hp hy))
      rw [le2_some, sz_le hp] at hx hy
      rw [fop_some, hr, le2_some]
      refine h _ hp1 ?_
      have e : 2 ^ (p + 1 + 1074).toNat = 2 * 2 ^ (p + 1074).toNat := by
        rw [show (p + 1 + 1074).toNat = (p + 1074).toNat + 1 by unfold inP at hp; omega, Nat.pow_succ, Nat.mul_comm]
      have h1 := V_le a
      have h2 := V_le b
      omega
theorem le2_sub {x y : Option Nat} {p : Int} (hx : le2 x p) (hy : le2 y p) (hp : inP p) (hp1 : inP (p + 1)) : le2 (fop .sub .f64 x y) (p + 1) := by
  cases x with
  | none => rw [fop_none_l]; exact le2_none _
  | some a =>
    cases y with
    | none => rw [fop_none_r]; exact le2_none _
    | some b =>
      obtain ⟨r, hr, h, _⟩ := sub_add (fi_some.1 (fi_le2 hp hx)) (fi_some.1 (fi_le2 hp hy))
      rw [le2_some, sz_le hp] at hx hy
      rw [fop_some, hr, le2_some]
      refine h _ hp1 ?_
      have e : 2 ^ (p + 1 + 1074).toNat = 2 * 2 ^ (p + 1074).toNat := by
        rw [show (p + 1 + 1074).toNat = (p + 1074).toNat + 1 by unfold inP at hp; omega, Nat.pow_succ, Nat.mul_comm]
      have h1 := V_le a
      have h2 := V_le b
      omega
/-- What float32 takes. -/
theorem fits_down {x : Option Nat} (h : le2 x 127) : fits .f64 .f32 x := by
  unfold fits
  cases x with
  | none => exact .inl rfl
  | some b =>
    refine .inr ?_
    have hp : inP 127 := by unfold inP; omega
    have hf := fi_some.1 (fi_le2 hp h)
    rw [le2_some, ← RD_eq, rg_le_R (ok_of hp)] at h
    obtain ⟨m, e, hr, he, hm⟩ := read_fin hf
    rw [← hm] at h
    obtain ⟨m1, m2⟩ := m_of_le he h (okP_lp (ok_of hp))
    rw [cvF_some]
    unfold floatToFloatBits
    rw [if_neg (by decide)]
    have hd : FloatKind.f64.decode b = .number (sg .f64 b) m e := hr
    rw [hd]
    simp only
    have hrg := write_rg .f32 (sg .f64 b) m e
    have hle : nr FloatKind.f32.format m e ≤ R FloatKind.f32.format 127 := by
      by_cases c : (127 : Int) < e
      · rw [m2 c]; unfold nr; rw [if_pos rfl]; exact Nat.zero_le _
      · refine nr_le _ _ _ _ (127 - e).toNat m1 (by omega) (by rw [S_lp, S_fb]; decide)
    have hR : R FloatKind.f32.format 127 = 2130706432 := by decide
    have hfin : fin .f32 (FloatKind.f32.format.write (.number (sg .f64 b) m e)) := by
      unfold fin; rw [hrg.2, S_inf]; rw [hR] at hle; omega
    obtain ⟨m', e', hr', _, _⟩ := read_fin hfin
    have hni : (FloatKind.f32.decode (FloatKind.f32.encode (.number (sg .f64 b) m e))).isInfinity = false := by
      show ((FloatKind.f32.format).read (FloatKind.f32.format.write (.number (sg .f64 b) m e))).isInfinity = false
      rw [hr']; rfl
    simp [hni]
end Go.Proofs.Ytakaocddhaepmaa
