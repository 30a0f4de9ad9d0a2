/-
  float32 by plain whole numbers: there and back; the gap of two numbers.
-/
import Derived.Test.YtakaocddhaepmaaFastR
import Derived.Test.YtakaocddhaepmaaCirc0
namespace Go.Proofs.Ytakaocddhaepmaa
open Ieee Go.RowKit

def sgS (b : Nat) : Bool := Nat.ble (nat_lit 2147483648) b
def rgS (b : Nat) : Nat := Nat.mod b (nat_lit 2147483648)
def mS (r : Nat) : Nat := cond (Nat.ble (nat_lit 8388608) r) (Nat.add (nat_lit 8388608) (Nat.mod r (nat_lit 8388608))) r
def pS (r : Nat) : Nat := cond (Nat.ble (nat_lit 8388608) r) (Nat.sub (Nat.div r (nat_lit 8388608)) (nat_lit 1)) (nat_lit 0)
def nrS2 (mag P L : Nat) : Nat :=
  cond (Nat.ble (nat_lit 23) L) (Nat.add (Nat.mul (Nat.add P (Nat.sub L (nat_lit 23))) (nat_lit 8388608)) (evR mag (Nat.pow (nat_lit 2) (Nat.sub L (nat_lit 23)))))
    (cond (Nat.ble (nat_lit 23) (Nat.add P L)) (Nat.add (Nat.mul (Nat.sub (Nat.add P L) (nat_lit 23)) (nat_lit 8388608)) (Nat.mul mag (Nat.pow (nat_lit 2) (Nat.sub (nat_lit 23) L)))) (Nat.mul mag (Nat.pow (nat_lit 2) P)))
def nrS (mag P : Nat) : Nat := cond (Nat.beq mag (nat_lit 0)) (nat_lit 0) (nrS2 mag P (lg2 mag))
def outS (neg : Bool) (q : Nat) : Option Nat := cond (Nat.ble (Nat.succ q) (nat_lit 2139095040)) (some (cond neg (Nat.add (nat_lit 2147483648) q) q)) none
def okS (b : Nat) : Bool := and (Nat.ble (Nat.succ b) (nat_lit 4294967296)) (Nat.ble (Nat.succ (rgS b)) (nat_lit 2139095040))
theorem okS_of {b : Nat} (h : okS b = true) : b < 4294967296 ∧ rgS b < 2139095040 := by
  unfold okS at h
  change (Nat.ble (b + 1) 4294967296 && Nat.ble (rgS b + 1) 2139095040) = true at h
  rw [Bool.and_eq_true] at h
  exact ⟨Nat.le_of_ble_eq_true h.1, Nat.le_of_ble_eq_true h.2⟩
theorem nble {a b : Nat} (h : b < a) : Nat.ble a b = false := by rw [Bool.eq_false_iff]; intro e; have := Nat.le_of_ble_eq_true e; omega
theorem mS_eq (r : Nat) : mS r = if r < 8388608 then r else 8388608 + r % 8388608 := by
  unfold mS
  by_cases h : r < 8388608
  · rw [show Nat.ble (nat_lit 8388608) r = false from nble h, if_pos h]; rfl
  · rw [show Nat.ble (nat_lit 8388608) r = true from Nat.ble_eq_true_of_le (show 8388608 ≤ r by omega), if_neg h]; rfl
theorem pS_eq (r : Nat) : pS r = if r < 8388608 then 0 else r / 8388608 - 1 := by
  unfold pS
  by_cases h : r < 8388608
  · rw [show Nat.ble (nat_lit 8388608) r = false from nble h, if_pos h]; rfl
  · rw [show Nat.ble (nat_lit 8388608) r = true from Nat.ble_eq_true_of_le (show 8388608 ≤ r by omega), if_neg h]; rfl
theorem sgS_eq {b : Nat} (h : b < 4294967296) : (b / FloatKind.f32.format.signWeight % 2 == 1) = sgS b := by
  rw [S_sw]
  unfold sgS
  by_cases hb : 2147483648 ≤ b
  · rw [show Nat.ble (nat_lit 2147483648) b = true from Nat.ble_eq_true_of_le hb, beq_iff_eq]; omega
  · rw [show Nat.ble (nat_lit 2147483648) b = false from nble (show b < 2147483648 by omega), beq_eq_false_iff_ne]; omega
theorem read_S {b : Nat} (h : okS b = true) : FloatKind.f32.format.read b = .number (sgS b) (mS (rgS b)) (-149 + (pS (rgS b) : Nat)) := by
  obtain ⟨h1, h2⟩ := okS_of h
  unfold Format.read
  have e : rgS b = b % 2147483648 := rfl
  rw [sgS_eq h1, S_sw, S_bin, S_inf, S_lp, mS_eq, pS_eq, e]
  have h2 : b % 2147483648 < 2139095040 := h2
  dsimp only
  by_cases c : b % 2147483648 < 8388608
  · rw [if_pos c, if_pos c, if_pos c]; simp
  · rw [if_neg c, if_pos h2, if_neg c, if_neg c]
theorem nrS_eq (mag P : Nat) : nr FloatKind.f32.format mag (-149 + (P : Nat)) = nrS mag P := by
  unfold nr nrS lastP
  rw [S_lp, S_bin, S_fb]
  by_cases h0 : mag = 0
  · rw [if_pos h0, h0]; rfl
  · have hb : Nat.beq mag (nat_lit 0) = false := by rw [Bool.eq_false_iff]; intro e; exact h0 (Nat.eq_of_beq_eq_true e)
    rw [if_neg h0, hb, lg2_eq mag (by omega)]
    unfold nrS2
    generalize hL : mag.log2 = L
    by_cases h1 : 23 ≤ L
    · have e1 : max (-149 + (P : Int) + (L : Nat) - (23 : Nat)) (-149) = -149 + (P : Int) + (L : Nat) - (23 : Nat) := by omega
      rw [e1, show Nat.ble (nat_lit 23) L = true from Nat.ble_eq_true_of_le h1]
      have e2 : (-149 + (P : Int) + (L : Nat) - (23 : Nat) - -149).toNat = P + (L - 23) := by omega
      have e3 : (-149 + (P : Int) - (-149 + (P : Int) + (L : Nat) - (23 : Nat))).toNat = 0 := by omega
      have e4 : (-149 + (P : Int) + (L : Nat) - (23 : Nat) - (-149 + (P : Int))).toNat = L - 23 := by omega
      rw [e2, e3, e4, Nat.pow_zero, Nat.mul_one, evF_eq (by omega)]
      rfl
    · rw [show Nat.ble (nat_lit 23) L = false from nble (show L < 23 by omega)]
      by_cases h2 : 23 ≤ P + L
      · have e1 : max (-149 + (P : Int) + (L : Nat) - (23 : Nat)) (-149) = -149 + (P : Int) + (L : Nat) - (23 : Nat) := by omega
        rw [e1, show Nat.ble (nat_lit 23) (Nat.add P L) = true from Nat.ble_eq_true_of_le h2]
        have e2 : (-149 + (P : Int) + (L : Nat) - (23 : Nat) - -149).toNat = P + L - 23 := by omega
        have e3 : (-149 + (P : Int) - (-149 + (P : Int) + (L : Nat) - (23 : Nat))).toNat = 23 - L := by omega
        have e4 : (-149 + (P : Int) + (L : Nat) - (23 : Nat) - (-149 + (P : Int))).toNat = 0 := by omega
        rw [e2, e3, e4, ev_zero]
        rfl
      · have e1 : max (-149 + (P : Int) + (L : Nat) - (23 : Nat)) (-149) = -149 := by omega
        rw [e1, show Nat.ble (nat_lit 23) (Nat.add P L) = false from nble (show P + L < 23 by omega)]
        have e2 : ((-149 : Int) - -149).toNat = 0 := by omega
        have e3 : (-149 + (P : Int) - -149).toNat = P := by omega
        have e4 : (-149 - (-149 + (P : Int))).toNat = 0 := by omega
        rw [e2, e3, e4, ev_zero, Nat.zero_mul, Nat.zero_add]
        rfl
theorem outS_eq {neg : Bool} {q r : Nat} (h : outS neg q = some r) : q < 2139095040 ∧ FloatKind.f32.format.word neg q = r := by
  unfold outS at h
  change cond (Nat.ble (q + 1) 2139095040) _ _ = some r at h
  rcases hb : Nat.ble (q + 1) 2139095040
  · rw [hb] at h; cases h
  · rw [hb] at h
    refine ⟨Nat.le_of_ble_eq_true hb, ?_⟩
    unfold Format.word
    rw [S_sw]
    cases neg <;> exact Option.some.inj h
theorem write_S {neg : Bool} {mag P r : Nat} (h : outS neg (nrS mag P) = some r) : FloatKind.f32.format.write (.number neg mag (-149 + (P : Nat))) = r ∧ rg .f32 r < FloatKind.f32.format.infRung := by
  obtain ⟨h1, h2⟩ := outS_eq h
  refine ⟨?_, ?_⟩
  · show FloatKind.f32.format.nearest neg mag _ = r
    rw [nearest_nr, nrS_eq, S_inf, Nat.min_eq_left (Nat.le_of_lt h1), h2]
  · rw [← h2, rg_word .f32 neg _ (by rw [S_inf]; omega), S_inf]; exact h1
theorem not_inf {k : FloatKind} {r : Nat} (h : rg k r < k.format.infRung) : (k.decode r).isInfinity = false := by
  obtain ⟨m, e, hr, _⟩ := read_num k r h
  have : k.decode r = .number (sg k r) m e := hr
  rw [this]; rfl
/-- float64 to float32. -/
def downR (b : Nat) : Option Nat := cond (and (okR b) (Nat.ble (nat_lit 925) (pR (rgR b)))) (outS (sgR b) (nrS (mR (rgR b)) (Nat.sub (pR (rgR b)) (nat_lit 925)))) (cond (Nat.beq b (nat_lit 0)) (some (nat_lit 0)) (cond (Nat.beq b (nat_lit 9223372036854775808)) (some (nat_lit 2147483648)) none))
theorem cv_mzero : cvF .f64 .f32 (some 9223372036854775808) = some 2147483648 := by decide +kernel
theorem cv_zero' : cvF .f64 .f32 (some 0) = some 0 := by decide +kernel
theorem downR_ok {b r : Nat} (h : downR b = some r) : cvF .f64 .f32 (some b) = some r ∧ cn .f32 r = some r := by
  unfold downR at h
  change cond (okF b && Nat.ble 925 (pF (rgF b))) (outS (sgF b) (nrS (mF (rgF b)) (pF (rgF b) - 925))) (cond (Nat.beq b 0) (some 0) (cond (Nat.beq b 9223372036854775808) (some 2147483648) none)) = some r at h
  rcases hc : okF b && Nat.ble 925 (pF (rgF b))
  · rw [hc] at h
    change cond (Nat.beq b 0) (some 0) (cond (Nat.beq b 9223372036854775808) (some 2147483648) none) = some r at h
    rcases h0 : Nat.beq b 0
    · rw [h0] at h
      change cond (Nat.beq b 9223372036854775808) (some 2147483648) none = some r at h
      rcases h1 : Nat.beq b 9223372036854775808
      · rw [h1] at h; cases h
      · rw [h1] at h
        cases h
        rw [Nat.eq_of_beq_eq_true h1]
        exact ⟨cv_mzero, cn_num (by decide)⟩
    · rw [h0] at h
      cases h
      rw [Nat.eq_of_beq_eq_true h0]
      exact ⟨cv_zero', cn_num (by decide)⟩
  · rw [hc] at h
    rw [Bool.and_eq_true] at hc
    have hp := Nat.le_of_ble_eq_true hc.2
    obtain ⟨w1, w2⟩ := write_S h
    have e : (-1074 + (pF (rgF b) : Nat) : Int) = -149 + ((pF (rgF b) - 925 : Nat) : Int) := by omega
    have hd : FloatKind.f64.decode b = .number (sgF b) (mF (rgF b)) (-149 + ((pF (rgF b) - 925 : Nat) : Int)) := by rw [← e]; exact read_F hc.1
    have he : FloatKind.f32.encode (.number (sgF b) (mF (rgF b)) (-149 + ((pF (rgF b) - 925 : Nat) : Int))) = r := w1
    refine ⟨?_, cn_of_rg .f32 r (Nat.le_of_lt w2)⟩
    rw [cvF_some]
    unfold floatToFloatBits
    rw [if_neg (by decide), hd]
    simp only [he, not_inf w2]
    rfl
/-- float32 to float64. -/
def upR32 (b : Nat) : Option Nat := cond (okS b) (outR (sgS b) (nrR (mS (rgS b)) (Nat.add (pS (rgS b)) (nat_lit 925)))) none
theorem outR_F {s : Bool} {q : Nat} : outR s q = outF s q := rfl
theorem upR32_ok {b r : Nat} (h : upR32 b = some r) : cvF .f32 .f64 (some b) = some r := by
  unfold upR32 at h
  rw [nrR_eq, outR_F] at h
  rcases hc : okS b
  · rw [hc] at h; cases h
  · rw [hc] at h
    change outF (sgS b) (nrF (mS (rgS b)) (pS (rgS b) + 925)) = some r at h
    have w1 := write_F h
    obtain ⟨h1, h2⟩ := out_eq h
    have w2 : rg .f64 r < FloatKind.f64.format.infRung := by
      rw [← h2, rg_word .f64 _ _ (by rw [D_inf]; omega), D_inf]; exact h1
    have e : (-149 + (pS (rgS b) : Nat) : Int) = -1074 + ((pS (rgS b) + 925 : Nat) : Int) := by omega
    have hd : FloatKind.f32.decode b = .number (sgS b) (mS (rgS b)) (-1074 + ((pS (rgS b) + 925 : Nat) : Int)) := by rw [← e]; exact read_S hc
    have he : FloatKind.f64.encode (.number (sgS b) (mS (rgS b)) (-1074 + ((pS (rgS b) + 925 : Nat) : Int))) = r := w1
    rw [cvF_some]
    unfold floatToFloatBits
    rw [if_neg (by decide), hd]
    simp only [he, not_inf w2]
    rfl
/-- x below y. -/
def kltR (x y : Nat) : Bool := cond (sgR x) (cond (sgR y) (Nat.ble (Nat.succ (rgR y)) (rgR x)) (not (and (Nat.beq (rgR x) (nat_lit 0)) (Nat.beq (rgR y) (nat_lit 0))))) (cond (sgR y) false (Nat.ble (Nat.succ (rgR x)) (rgR y)))
theorem kltR_eq {x y : Nat} (hx : x < 18446744073709551616) (hy : y < 18446744073709551616) : kltR x y = decide (key .f64 x < key .f64 y) := by
  have kx : ∀ b, b < 18446744073709551616 → key .f64 b = if sgF b then -(rgF b : Int) else rgF b := by
    intro b hb
    unfold key sg rg
    rw [sgF_eq hb, D_sw]; rfl
  rw [kx x hx, kx y hy]
  unfold kltR
  change cond (sgF x) (cond (sgF y) (Nat.ble (rgF y + 1) (rgF x)) (not (Nat.beq (rgF x) 0 && Nat.beq (rgF y) 0))) (cond (sgF y) false (Nat.ble (rgF x + 1) (rgF y))) = _
  generalize rgF x = a
  generalize rgF y = b
  cases sgF x <;> cases sgF y
  · show Nat.ble (a + 1) b = _
    rw [Bool.eq_iff_iff, decide_eq_true_eq]; simp
    omega
  · show false = _
    symm; rw [decide_eq_false_iff_not]; simp; try omega
  · show (!(Nat.beq a 0 && Nat.beq b 0)) = _
    by_cases h : a = 0 ∧ b = 0
    · obtain ⟨rfl, rfl⟩ := h; rfl
    · have e1 : (Nat.beq a 0 && Nat.beq b 0) = false := by
        rw [Bool.eq_false_iff]
        intro e
        rw [Bool.and_eq_true] at e
        exact h ⟨Nat.eq_of_beq_eq_true e.1, Nat.eq_of_beq_eq_true e.2⟩
      rw [e1]
      symm
      rw [show (!false) = true from rfl, decide_eq_true_eq]
      simp; omega
  · show Nat.ble (b + 1) a = _
    rw [Bool.eq_iff_iff, decide_eq_true_eq]; simp
    omega
def gapR (x y : Nat) : Option Nat := cond (kltR x y) (subR y x) (subR x y)
theorem gapR_ok {x y r : Nat} (h : gapR x y = some r) : gapC (some x) (some y) = some r := by
  have hok : okF x = true ∧ okF y = true := by
    unfold gapR at h
    cases hk : kltR x y
    · rw [hk] at h
      have : addS x y (!sgF y) = some r := by rw [← addT_eq]; exact h
      obtain ⟨a, b, _⟩ := sum_F this
      exact ⟨a, b⟩
    · rw [hk] at h
      have : addS y x (!sgF x) = some r := by rw [← addT_eq]; exact h
      obtain ⟨a, b, _⟩ := sum_F this
      exact ⟨b, a⟩
  obtain ⟨x1, x2⟩ := okF_of hok.1
  obtain ⟨y1, y2⟩ := okF_of hok.2
  have rx : rg .f64 x ≤ FloatKind.f64.format.infRung := by unfold rg; rw [D_sw, D_inf]; exact Nat.le_of_lt x2
  have ry : rg .f64 y ≤ FloatKind.f64.format.infRung := by unfold rg; rw [D_sw, D_inf]; exact Nat.le_of_lt y2
  have ht : (ford .f64 (some x) (some y) == some Ordering.lt) = kltR x y := by rw [ford_cmp rx ry, o_lt, kltR_eq x1 y1]
  unfold gapC
  rw [ht]
  unfold gapR at h
  cases hk : kltR x y
  · rw [hk] at h; rw [if_neg (by decide)]; exact subR_ok h
  · rw [hk] at h; rw [if_pos rfl]; exact subR_ok h
end Go.Proofs.Ytakaocddhaepmaa
