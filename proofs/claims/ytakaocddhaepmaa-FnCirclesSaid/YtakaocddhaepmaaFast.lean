/-
  The operations on float64 by plain whole numbers: the same words, sooner reckoned by the kernel.
-/
import Derived.Test.YtakaocddhaepmaaPha0
namespace Go.Proofs.Ytakaocddhaepmaa
open Ieee Go.RowKit

def sgF (b : Nat) : Bool := Nat.ble 9223372036854775808 b
def rgF (b : Nat) : Nat := b % 9223372036854775808
def mF (r : Nat) : Nat := cond (Nat.ble 4503599627370496 r) (4503599627370496 + r % 4503599627370496) r
def pF (r : Nat) : Nat := cond (Nat.ble 4503599627370496 r) (r / 4503599627370496 - 1) 0
def evF (n d : Nat) : Nat := n / 2 ^ d + cond (Nat.blt (2 ^ d) (2 * (n % 2 ^ d)) || (Nat.beq (2 ^ d) (2 * (n % 2 ^ d)) && Nat.beq (n / 2 ^ d % 2) 1)) 1 0
def nrF (mag P : Nat) : Nat :=
  cond (Nat.beq mag 0) 0 (cond (Nat.ble 52 mag.log2) ((P + (mag.log2 - 52)) * 4503599627370496 + evF mag (mag.log2 - 52))
    (cond (Nat.ble 52 (P + mag.log2)) ((P + mag.log2 - 52) * 4503599627370496 + mag * 2 ^ (52 - mag.log2)) (mag * 2 ^ P)))
def outF (neg : Bool) (q : Nat) : Option Nat := cond (Nat.blt q 9218868437227405312) (some (cond neg (9223372036854775808 + q) q)) none
def okF (b : Nat) : Bool := Nat.blt b 18446744073709551616 && Nat.blt (rgF b) 9218868437227405312
def mulF (b c : Nat) : Option Nat :=
  cond (okF b && okF c && (Nat.ble 1074 (pF (rgF b) + pF (rgF c)) || Nat.beq (mF (rgF b) * mF (rgF c)) 0)) (outF (sgF b ^^ sgF c) (nrF (mF (rgF b) * mF (rgF c)) (pF (rgF b) + pF (rgF c) - 1074))) none
def addG (s t : Bool) (q M N : Nat) : Option Nat :=
  cond (s ^^ t) (cond (Nat.beq M N) (outF false (nrF 0 q)) (cond (Nat.blt N M) (outF s (nrF (M - N) q)) (outF t (nrF (N - M) q)))) (outF s (nrF (M + N) q))
def addS (b c : Nat) (t : Bool) : Option Nat :=
  cond (okF b && okF c) (addG (sgF b) t (min (pF (rgF b)) (pF (rgF c))) (mF (rgF b) * 2 ^ (pF (rgF b) - min (pF (rgF b)) (pF (rgF c)))) (mF (rgF c) * 2 ^ (pF (rgF c) - min (pF (rgF b)) (pF (rgF c))))) none
def addF (b c : Nat) : Option Nat := addS b c (sgF c)
def subF (b c : Nat) : Option Nat := addS b c (!sgF c)
def quoG (s : Bool) (m n p1 p2 more : Nat) : Option Nat :=
  cond (Nat.ble (p2 + more + 1) (p1 + 1074)) (outF s (nrF (2 * (m * 2 ^ more / n) + cond (Nat.beq (m * 2 ^ more % n) 0) 0 1) (p1 + 1074 - (p2 + more + 1)))) none
def quoF (b c : Nat) : Option Nat :=
  cond (okF b && okF c && Nat.blt 0 (rgF c)) (quoG (sgF b ^^ sgF c) (mF (rgF b)) (mF (rgF c)) (pF (rgF b)) (pF (rgF c)) (54 + (mF (rgF c)).log2 - (mF (rgF b)).log2)) none

theorem okF_of {b : Nat} (h : okF b = true) : b < 18446744073709551616 ∧ rgF b < 9218868437227405312 := by
  unfold okF at h
  simp only [Bool.and_eq_true] at h
  exact ⟨by simpa using h.1, by simpa using h.2⟩
theorem mF_eq (r : Nat) : mF r = if r < 4503599627370496 then r else 4503599627370496 + r % 4503599627370496 := by
  unfold mF
  by_cases h : r < 4503599627370496
  · have : Nat.ble 4503599627370496 r = false := by rw [Bool.eq_false_iff]; intro e; have := Nat.le_of_ble_eq_true e; omega
    rw [this, if_pos h]; rfl
  · rw [Nat.ble_eq_true_of_le (by omega), if_neg h]; rfl
theorem pF_eq (r : Nat) : pF r = if r < 4503599627370496 then 0 else r / 4503599627370496 - 1 := by
  unfold pF
  by_cases h : r < 4503599627370496
  · have : Nat.ble 4503599627370496 r = false := by rw [Bool.eq_false_iff]; intro e; have := Nat.le_of_ble_eq_true e; omega
    rw [this, if_pos h]; rfl
  · rw [Nat.ble_eq_true_of_le (by omega), if_neg h]; rfl
theorem sgF_eq {b : Nat} (h : b < 18446744073709551616) : (b / FloatKind.f64.format.signWeight % 2 == 1) = sgF b := by
  rw [D_sw]
  unfold sgF
  by_cases hb : 9223372036854775808 ≤ b
  · rw [Nat.ble_eq_true_of_le hb, beq_iff_eq]; omega
  · have : Nat.ble 9223372036854775808 b = false := by rw [Bool.eq_false_iff]; intro e; have := Nat.le_of_ble_eq_true e; omega
    rw [this, beq_eq_false_iff_ne]; omega
theorem read_F {b : Nat} (h : okF b = true) : FloatKind.f64.format.read b = .number (sgF b) (mF (rgF b)) (-1074 + (pF (rgF b) : Nat)) := by
  obtain ⟨h1, h2⟩ := okF_of h
  unfold Format.read
  rw [sgF_eq h1, D_sw, D_bin, D_inf, D_lp, mF_eq, pF_eq]
  unfold rgF at *
  dsimp only
  by_cases c : b % 9223372036854775808 < 4503599627370496
  · rw [if_pos c, if_pos c, if_pos c]; simp
  · rw [if_neg c, if_pos h2, if_neg c, if_neg c]
theorem beqN (a b : Nat) : (a == b) = Nat.beq a b := Bool.eq_iff_iff.2 ⟨fun e => by rw [beq_iff_eq.1 e]; exact Nat.beq_refl _, fun e => beq_iff_eq.2 (Nat.eq_of_beq_eq_true e)⟩
theorem evF_eq {n d : Nat} (h : d ≤ n.log2 + 2) : ev n d = evF n d := by
  unfold ev Toward.cut evF
  dsimp only
  rw [Nat.min_eq_left h, Nat.shiftLeft_eq, Nat.one_mul]
  generalize n / 2 ^ d = low
  generalize n % 2 ^ d = rest
  generalize 2 ^ d = g
  have e1 : decide (g < 2 * rest) = Nat.blt g (2 * rest) := by rw [Bool.eq_iff_iff]; simp
  have e2 := beqN g (2 * rest)
  have e3 := beqN (low % 2) 1
  rw [e1, e2, e3]
  cases (Nat.blt g (2 * rest) || Nat.beq g (2 * rest) && Nat.beq (low % 2) 1) <;> rfl
theorem nrF_eq (mag P : Nat) : nr FloatKind.f64.format mag (-1074 + (P : Nat)) = nrF mag P := by
  unfold nr nrF lastP
  rw [D_lp, D_bin, D_fb]
  by_cases h0 : mag = 0
  · rw [if_pos h0, h0]; rfl
  · have hb : Nat.beq mag 0 = false := by rw [Bool.eq_false_iff]; intro e; exact h0 (Nat.eq_of_beq_eq_true e)
    rw [if_neg h0, hb]
    generalize hL : mag.log2 = L
    by_cases h1 : 52 ≤ L
    · have e1 : max (-1074 + (P : Int) + (L : Nat) - (52 : Nat)) (-1074) = -1074 + (P : Int) + (L : Nat) - (52 : Nat) := by omega
      rw [e1, Nat.ble_eq_true_of_le h1]
      have e2 : (-1074 + (P : Int) + (L : Nat) - (52 : Nat) - -1074).toNat = P + (L - 52) := by omega
      have e3 : (-1074 + (P : Int) - (-1074 + (P : Int) + (L : Nat) - (52 : Nat))).toNat = 0 := by omega
      have e4 : (-1074 + (P : Int) + (L : Nat) - (52 : Nat) - (-1074 + (P : Int))).toNat = L - 52 := by omega
      rw [e2, e3, e4, Nat.pow_zero, Nat.mul_one, evF_eq (by omega)]
      rfl
    · have hb1 : Nat.ble 52 L = false := by rw [Bool.eq_false_iff]; intro e; have := Nat.le_of_ble_eq_true e; omega
      rw [hb1]
      by_cases h2 : 52 ≤ P + L
      · have e1 : max (-1074 + (P : Int) + (L : Nat) - (52 : Nat)) (-1074) = -1074 + (P : Int) + (L : Nat) - (52 : Nat) := by omega
        rw [e1, Nat.ble_eq_true_of_le h2]
        have e2 : (-1074 + (P : Int) + (L : Nat) - (52 : Nat) - -1074).toNat = P + L - 52 := by omega
        have e3 : (-1074 + (P : Int) - (-1074 + (P : Int) + (L : Nat) - (52 : Nat))).toNat = 52 - L := by omega
        have e4 : (-1074 + (P : Int) + (L : Nat) - (52 : Nat) - (-1074 + (P : Int))).toNat = 0 := by omega
        rw [e2, e3, e4, ev_zero]
        rfl
      · have hb2 : Nat.ble 52 (P + L) = false := by rw [Bool.eq_false_iff]; intro e; have := Nat.le_of_ble_eq_true e; omega
        have e1 : max (-1074 + (P : Int) + (L : Nat) - (52 : Nat)) (-1074) = -1074 := by omega
        rw [e1, hb2]
        have e2 : ((-1074 : Int) - -1074).toNat = 0 := by omega
        have e3 : (-1074 + (P : Int) - -1074).toNat = P := by omega
        have e4 : (-1074 - (-1074 + (P : Int))).toNat = 0 := by omega
        rw [e2, e3, e4, ev_zero, Nat.zero_mul, Nat.zero_add]
        rfl
theorem out_eq {neg : Bool} {q r : Nat} (h : outF neg q = some r) : q < 9218868437227405312 ∧ FloatKind.f64.format.word neg q = r := by
  unfold outF at h
  rcases hb : Nat.blt q 9218868437227405312
  · rw [hb] at h; cases h
  · rw [hb] at h
    refine ⟨by simpa using hb, ?_⟩
    unfold Format.word
    rw [D_sw]
    cases neg <;> (simp at h; simpa using h)
theorem write_F {neg : Bool} {mag P r : Nat} (h : outF neg (nrF mag P) = some r) : FloatKind.f64.format.write (.number neg mag (-1074 + (P : Nat))) = r := by
  obtain ⟨h1, h2⟩ := out_eq h
  show FloatKind.f64.format.nearest neg mag _ = r
  rw [nearest_nr, nrF_eq, D_inf, Nat.min_eq_left (Nat.le_of_lt h1), h2]
theorem mulF_ok {b c r : Nat} (h : mulF b c = some r) : fop .mul .f64 (some b) (some c) = some r := by
  unfold mulF at h
  rcases hc : okF b && okF c && (Nat.ble 1074 (pF (rgF b) + pF (rgF c)) || Nat.beq (mF (rgF b) * mF (rgF c)) 0)
  · rw [hc] at h; cases h
  · rw [hc] at h
    simp only [Bool.and_eq_true, Bool.or_eq_true] at hc
    obtain ⟨⟨h1, h2⟩, h3⟩ := hc
    rw [fop_some]
    unfold floatBits
    simp only [Format.mul, read_F h1, read_F h2, Datum.product, Option.map_some]
    by_cases h0 : mF (rgF b) * mF (rgF c) = 0
    · rw [h0] at h ⊢
      obtain ⟨_, h4⟩ := out_eq (show outF (sgF b ^^ sgF c) 0 = some r from h)
      refine congrArg some ?_
      show FloatKind.f64.format.nearest _ 0 _ = r
      unfold Format.nearest
      rw [if_pos rfl, h4]
    have h3 : 1074 ≤ pF (rgF b) + pF (rgF c) := h3.elim Nat.le_of_ble_eq_true (fun e => absurd (Nat.eq_of_beq_eq_true e) h0)
    have e : (-1074 + (pF (rgF b) : Nat) + (-1074 + (pF (rgF c) : Nat)) : Int) = -1074 + ((pF (rgF b) + pF (rgF c) - 1074 : Nat) : Int) := by omega
    rw [e, write_F h]
theorem quoF_ok {b c r : Nat} (h : quoF b c = some r) : fop .quo .f64 (some b) (some c) = some r := by
  unfold quoF at h
  rcases hc : okF b && okF c && Nat.blt 0 (rgF c)
  · rw [hc] at h; cases h
  · rw [hc] at h
    simp only [Bool.and_eq_true] at hc
    obtain ⟨⟨h1, h2⟩, h3⟩ := hc
    have h3 : 0 < rgF c := by simpa using h3
    have hm : mF (rgF c) ≠ 0 := by rw [mF_eq]; split <;> omega
    rw [fop_some]
    unfold floatBits
    simp only [Format.div, read_F h1, read_F h2, Datum.quotient]
    rw [if_neg hm, D_fb]
    unfold quoG at h
    change cond _ _ _ = some r at h
    rw [show (52 : Nat) + 2 = 54 from rfl]
    generalize 54 + (mF (rgF c)).log2 - (mF (rgF b)).log2 = more at h ⊢
    rcases hp : Nat.ble (pF (rgF c) + more + 1) (pF (rgF b) + 1074)
    · rw [hp] at h; cases h
    · rw [hp] at h
      have hp := Nat.le_of_ble_eq_true hp
      have ep : (-1074 + (pF (rgF b) : Nat) - (-1074 + (pF (rgF c) : Nat)) - (more : Nat) - 1 : Int) = -1074 + ((pF (rgF b) + 1074 - (pF (rgF c) + more + 1) : Nat) : Int) := by omega
      have es : ∀ x : Nat, (x != 0).toNat = cond (Nat.beq x 0) 0 1 := fun x => by rw [bne, beqN]; cases Nat.beq x 0 <;> rfl
      rw [ep, Nat.shiftLeft_eq, es]
      exact congrArg some (write_F h)
theorem sum_G {s t : Bool} {q M N r : Nat} (h : addG s t q M N = some r) :
    FloatKind.f64.format.write (.number (if (if s then -(M : Int) else M) + (if t then -(N : Int) else N) = 0 then s && t else decide ((if s then -(M : Int) else M) + (if t then -(N : Int) else N) < 0)) ((if s then -(M : Int) else M) + (if t then -(N : Int) else N)).natAbs (-1074 + (q : Nat))) = r := by
  unfold addG at h
  have key : ∀ (neg : Bool) (mag : Nat), outF neg (nrF mag q) = some r → ∀ (neg' : Bool) (mag' : Nat), neg' = neg → mag' = mag → FloatKind.f64.format.write (.number neg' mag' (-1074 + (q : Nat))) = r := by
    rintro neg mag ho neg' mag' rfl rfl
    exact write_F ho
  cases s <;> cases t
  · refine key _ _ h _ _ ?_ ?_
    · simp; omega
    · simp; omega
  · change cond (Nat.beq M N) _ _ = some r at h
    rcases hb : Nat.beq M N
    · rw [hb] at h
      have hne : M ≠ N := fun e => by rw [e, Nat.beq_refl] at hb; cases hb
      change cond (Nat.blt N M) _ _ = some r at h
      rcases hl : Nat.blt N M
      · rw [hl] at h
        have hl : ¬ N < M := fun e => by rw [show Nat.blt N M = true by simpa using e] at hl; cases hl
        refine key _ _ h _ _ ?_ ?_
        · rw [if_neg (by simp; omega)]; simp; omega
        · simp; omega
      · rw [hl] at h
        have hl : N < M := by simpa using hl
        refine key _ _ h _ _ ?_ ?_
        · rw [if_neg (by simp; omega)]; simp; omega
        · simp; omega
    · rw [hb] at h
      obtain rfl := Nat.eq_of_beq_eq_true hb
      refine key false 0 h _ _ ?_ ?_
      · rw [if_pos (by simp; try omega)]; rfl
      · simp; omega
  · change cond (Nat.beq M N) _ _ = some r at h
    rcases hb : Nat.beq M N
    · rw [hb] at h
      have hne : M ≠ N := fun e => by rw [e, Nat.beq_refl] at hb; cases hb
      change cond (Nat.blt N M) _ _ = some r at h
      rcases hl : Nat.blt N M
      · rw [hl] at h
        have hl : ¬ N < M := fun e => by rw [show Nat.blt N M = true by simpa using e] at hl; cases hl
        refine key _ _ h _ _ ?_ ?_
        · rw [if_neg (by simp; omega)]; simp; omega
        · simp; omega
      · rw [hl] at h
        have hl : N < M := by simpa using hl
        refine key _ _ h _ _ ?_ ?_
        · rw [if_neg (by simp; omega)]; simp; omega
        · simp; omega
    · rw [hb] at h
      obtain rfl := Nat.eq_of_beq_eq_true hb
      refine key false 0 h _ _ ?_ ?_
      · rw [if_pos (by simp; try omega)]; rfl
      · simp; omega
  · refine key _ _ h _ _ ?_ ?_
    · by_cases h0 : M + N = 0
      · rw [if_pos (by simp; omega)]; rfl
      · rw [if_neg (by simp; omega)]; simp; omega
    · simp; omega
theorem sum_F {b c r : Nat} {t : Bool} (h : addS b c t = some r) : okF b = true ∧ okF c = true ∧
    Option.map FloatKind.f64.format.write (Datum.sum (.number (sgF b) (mF (rgF b)) (-1074 + (pF (rgF b) : Nat))) (.number t (mF (rgF c)) (-1074 + (pF (rgF c) : Nat)))) = some r := by
  unfold addS at h
  rcases hc : okF b && okF c
  · rw [hc] at h; cases h
  · rw [hc] at h
    simp only [Bool.and_eq_true] at hc
    refine ⟨hc.1, hc.2, ?_⟩
    have := sum_G h
    simp only [Datum.sum, Option.map_some]
    generalize pF (rgF b) = p1 at *
    generalize pF (rgF c) = p2 at *
    have e0 : min (-1074 + (p1 : Int)) (-1074 + (p2 : Int)) = -1074 + ((min p1 p2 : Nat) : Int) := by omega
    have e1 : (-1074 + (p1 : Int) - (-1074 + ((min p1 p2 : Nat) : Int))).toNat = p1 - min p1 p2 := by omega
    have e2 : (-1074 + (p2 : Int) - (-1074 + ((min p1 p2 : Nat) : Int))).toNat = p2 - min p1 p2 := by omega
    rw [e0, e1, e2]
    unfold signed
    rw [Nat.shiftLeft_eq, Nat.shiftLeft_eq]
    exact congrArg some this
theorem addF_ok {b c r : Nat} (h : addF b c = some r) : fop .add .f64 (some b) (some c) = some r := by
  obtain ⟨h1, h2, h3⟩ := sum_F h
  rw [fop_some]
  unfold floatBits
  simp only [Format.add, read_F h1, read_F h2]
  exact h3
theorem subF_ok {b c r : Nat} (h : subF b c = some r) : fop .sub .f64 (some b) (some c) = some r := by
  obtain ⟨h1, h2, h3⟩ := sum_F h
  rw [fop_some]
  unfold floatBits
  simp only [Format.sub, read_F h1, read_F h2, Datum.opposite]
  exact h3
end Go.Proofs.Ytakaocddhaepmaa
