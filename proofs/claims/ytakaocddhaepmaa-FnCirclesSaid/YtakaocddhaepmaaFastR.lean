/-
  The same functions, spelt by the whole numbers' own operations: for the kernel.
-/
import Derived.Test.YtakaocddhaepmaaFast
namespace Go.Proofs.Ytakaocddhaepmaa
open Ieee Go.RowKit

def lg1 (n : Nat) : Nat := cond (Nat.ble (nat_lit 2) n) (nat_lit 1) (nat_lit 0)
def lgStep (w : Nat) (f : Nat → Nat) (n : Nat) : Nat := cond (Nat.ble (Nat.pow (nat_lit 2) w) n) (Nat.add w (f (Nat.div n (Nat.pow (nat_lit 2) w)))) (f n)
def lg2 (n : Nat) : Nat := cond (Nat.ble (Nat.pow (nat_lit 2) (nat_lit 128)) n) (Nat.log2 n) (lgStep 64 (lgStep 32 (lgStep 16 (lgStep 8 (lgStep 4 (lgStep 2 lg1))))) n)
theorem log2_unique {n k : Nat} (h1 : 2 ^ k ≤ n) (h2 : n < 2 ^ (k + 1)) : n.log2 = k := by
  have hp := Nat.two_pow_pos k
  have h0 : n ≠ 0 := by omega
  have a1 := (Nat.le_log2 h0).2 h1
  have a2 := (Nat.log2_lt h0).2 h2
  omega
theorem log2_shift {n w : Nat} (h : 2 ^ w ≤ n) : n.log2 = w + (n / 2 ^ w).log2 := by
  have hp := Nat.two_pow_pos w
  have hm : n / 2 ^ w ≠ 0 := by
    have := (Nat.le_div_iff_mul_le hp).2 (show 1 * 2 ^ w ≤ n by omega)
    omega
  have b1 := Nat.log2_self_le hm
  have b2 : n / 2 ^ w < 2 ^ ((n / 2 ^ w).log2 + 1) := Nat.lt_log2_self
  refine log2_unique ?_ ?_
  · rw [Nat.add_comm, Nat.pow_add]; exact (Nat.le_div_iff_mul_le hp).1 b1
  · have := (Nat.div_lt_iff_lt_mul hp).1 b2
    rw [show w + (n / 2 ^ w).log2 + 1 = (n / 2 ^ w).log2 + 1 + w by omega, Nat.pow_add]; exact this
theorem lgStep_eq {w : Nat} {f : Nat → Nat} (hf : ∀ n, 0 < n → n < 2 ^ w → f n = n.log2) (n : Nat) (h0 : 0 < n) (h : n < 2 ^ (2 * w)) : lgStep w f n = n.log2 := by
  have hp := Nat.two_pow_pos w
  unfold lgStep
  by_cases c : 2 ^ w ≤ n
  · rw [show Nat.ble (Nat.pow (nat_lit 2) w) n = true from Nat.ble_eq_true_of_le c, log2_shift c]
    have h1 : n / 2 ^ w < 2 ^ w := (Nat.div_lt_iff_lt_mul hp).2 (by rw [← Nat.pow_add, ← Nat.two_mul]; exact h)
    have h2 : 0 < n / 2 ^ w := (Nat.le_div_iff_mul_le hp).2 (by omega)
    exact congrArg (w + ·) (hf _ h2 h1)
  · have : Nat.ble (Nat.pow (nat_lit 2) w) n = false := by
      rw [Bool.eq_false_iff]; intro e; exact c (Nat.le_of_ble_eq_true e)
    rw [this]
    exact hf n h0 (by omega)
theorem lg1_eq (n : Nat) (h0 : 0 < n) (h : n < 2 ^ 2) : lg1 n = n.log2 := by
  have : n = 1 ∨ n = 2 ∨ n = 3 := by omega
  rcases this with rfl | rfl | rfl <;> decide
theorem lg2_eq (n : Nat) (h0 : 0 < n) : lg2 n = n.log2 := by
  unfold lg2
  by_cases c : 2 ^ 128 ≤ n
  · rw [show Nat.ble (Nat.pow (nat_lit 2) (nat_lit 128)) n = true from Nat.ble_eq_true_of_le c]; rfl
  · have : Nat.ble (Nat.pow (nat_lit 2) (nat_lit 128)) n = false := by
      rw [Bool.eq_false_iff]; intro e; exact c (Nat.le_of_ble_eq_true e)
    rw [this]
    have s2 := lgStep_eq (w := 2) (f := lg1) lg1_eq
    have s4 := lgStep_eq (w := 4) (f := lgStep 2 lg1) (fun n h0 h => s2 n h0 h)
    have s8 := lgStep_eq (w := 8) (fun n h0 h => s4 n h0 h)
    have s16 := lgStep_eq (w := 16) (fun n h0 h => s8 n h0 h)
    have s32 := lgStep_eq (w := 32) (fun n h0 h => s16 n h0 h)
    have s64 := lgStep_eq (w := 64) (fun n h0 h => s32 n h0 h)
    exact s64 n h0 (by omega)

def rgR (b : Nat) : Nat := Nat.mod b (nat_lit 9223372036854775808)
def mR (r : Nat) : Nat := cond (Nat.ble (nat_lit 4503599627370496) r) (Nat.add (nat_lit 4503599627370496) (Nat.mod r (nat_lit 4503599627370496))) r
def pR (r : Nat) : Nat := cond (Nat.ble (nat_lit 4503599627370496) r) (Nat.sub (Nat.div r (nat_lit 4503599627370496)) (nat_lit 1)) (nat_lit 0)
def evR2 (low rest g : Nat) : Nat := Nat.add low (cond (or (Nat.ble (Nat.succ g) (Nat.mul (nat_lit 2) rest)) (and (Nat.beq g (Nat.mul (nat_lit 2) rest)) (Nat.beq (Nat.mod low (nat_lit 2)) (nat_lit 1)))) (nat_lit 1) (nat_lit 0))
def evR (n g : Nat) : Nat := evR2 (Nat.div n g) (Nat.mod n g) g
def nrR2 (mag P L : Nat) : Nat :=
  cond (Nat.ble (nat_lit 52) L) (Nat.add (Nat.mul (Nat.add P (Nat.sub L (nat_lit 52))) (nat_lit 4503599627370496)) (evR mag (Nat.pow (nat_lit 2) (Nat.sub L (nat_lit 52)))))
    (cond (Nat.ble (nat_lit 52) (Nat.add P L)) (Nat.add (Nat.mul (Nat.sub (Nat.add P L) (nat_lit 52)) (nat_lit 4503599627370496)) (Nat.mul mag (Nat.pow (nat_lit 2) (Nat.sub (nat_lit 52) L)))) (Nat.mul mag (Nat.pow (nat_lit 2) P)))
def nrR (mag P : Nat) : Nat := cond (Nat.beq mag (nat_lit 0)) (nat_lit 0) (nrR2 mag P (lg2 mag))
theorem nrR_eq (mag P : Nat) : nrR mag P = nrF mag P := by
  unfold nrR nrF
  rcases hb : Nat.beq mag 0
  · have h0 : 0 < mag := by
      rcases Nat.eq_zero_or_pos mag with rfl | h
      · cases hb
      · exact h
    rw [lg2_eq mag h0]; rfl
  · rfl
def outR (neg : Bool) (q : Nat) : Option Nat := cond (Nat.ble (Nat.succ q) (nat_lit 9218868437227405312)) (some (cond neg (Nat.add (nat_lit 9223372036854775808) q) q)) none
def sgR (b : Nat) : Bool := Nat.ble (nat_lit 9223372036854775808) b
def okR (b : Nat) : Bool := and (Nat.ble (Nat.succ b) (nat_lit 18446744073709551616)) (Nat.ble (Nat.succ (rgR b)) (nat_lit 9218868437227405312))
def mulR2 (s : Bool) (m n p : Nat) : Option Nat := cond (or (Nat.ble (nat_lit 1074) p) (Nat.beq (Nat.mul m n) (nat_lit 0))) (outR s (nrR (Nat.mul m n) (Nat.sub p (nat_lit 1074)))) none
def mulR (b c : Nat) : Option Nat := cond (and (okR b) (okR c)) (mulR2 (xor (sgR b) (sgR c)) (mR (rgR b)) (mR (rgR c)) (Nat.add (pR (rgR b)) (pR (rgR c)))) none
def addR2 (s t : Bool) (q M N : Nat) : Option Nat :=
  cond (xor s t) (cond (Nat.beq M N) (outR false (nat_lit 0)) (cond (Nat.ble (Nat.succ N) M) (outR s (nrR (Nat.sub M N) q)) (outR t (nrR (Nat.sub N M) q)))) (outR s (nrR (Nat.add M N) q))
def addR1 (s t : Bool) (m n p1 p2 q : Nat) : Option Nat := addR2 s t q (Nat.mul m (Nat.pow (nat_lit 2) (Nat.sub p1 q))) (Nat.mul n (Nat.pow (nat_lit 2) (Nat.sub p2 q)))
def addR0 (s t : Bool) (m n p1 p2 : Nat) : Option Nat := addR1 s t m n p1 p2 (cond (Nat.ble p1 p2) p1 p2)
def addT (b c : Nat) (t : Bool) : Option Nat := cond (and (okR b) (okR c)) (addR0 (sgR b) t (mR (rgR b)) (mR (rgR c)) (pR (rgR b)) (pR (rgR c))) none
def addR (b c : Nat) : Option Nat := addT b c (sgR c)
def subR (b c : Nat) : Option Nat := addT b c (not (sgR c))
def quoR3 (s : Bool) (n p1 p2 more D : Nat) : Option Nat :=
  cond (Nat.ble (Nat.add (Nat.add p2 more) (nat_lit 1)) (Nat.add p1 (nat_lit 1074))) (outR s (nrR (Nat.add (Nat.mul (nat_lit 2) (Nat.div D n)) (cond (Nat.beq (Nat.mod D n) (nat_lit 0)) (nat_lit 0) (nat_lit 1))) (Nat.sub (Nat.add p1 (nat_lit 1074)) (Nat.add (Nat.add p2 more) (nat_lit 1))))) none
def quoR2 (s : Bool) (m n p1 p2 more : Nat) : Option Nat := quoR3 s n p1 p2 more (Nat.mul m (Nat.pow (nat_lit 2) more))
def quoR1 (s : Bool) (m n p1 p2 : Nat) : Option Nat := quoR2 s m n p1 p2 (Nat.sub (Nat.add (nat_lit 54) (lg2 n)) (lg2 m))
def quoR (b c : Nat) : Option Nat := cond (and (and (okR b) (Nat.ble (nat_lit 1) (rgR b))) (and (okR c) (Nat.ble (nat_lit 1) (rgR c)))) (quoR1 (xor (sgR b) (sgR c)) (mR (rgR b)) (mR (rgR c)) (pR (rgR b)) (pR (rgR c))) none
theorem mulR_ok {b c r : Nat} (h : mulR b c = some r) : fop .mul .f64 (some b) (some c) = some r := by
  refine mulF_ok ?_
  rw [← h]
  unfold mulR mulR2 mulF
  rw [nrR_eq]
  show cond (okF b && okF c && _) _ _ = cond (okF b && okF c) _ _
  cases okF b && okF c
  · rfl
  · rfl
theorem addT_eq (b c : Nat) (t : Bool) : addT b c t = addS b c t := by
  unfold addT addR0 addR1 addR2 addS addG
  rw [nrR_eq, nrR_eq, nrR_eq]
  have hm : (cond (Nat.ble (pR (rgR b)) (pR (rgR c))) (pR (rgR b)) (pR (rgR c))) = min (pF (rgF b)) (pF (rgF c)) := by
    show cond (Nat.ble (pF (rgF b)) (pF (rgF c))) (pF (rgF b)) (pF (rgF c)) = _
    by_cases h : pF (rgF b) ≤ pF (rgF c)
    · rw [Nat.ble_eq_true_of_le h, Nat.min_eq_left h]; rfl
    · have : Nat.ble (pF (rgF b)) (pF (rgF c)) = false := by rw [Bool.eq_false_iff]; intro e; exact h (Nat.le_of_ble_eq_true e)
      rw [this, Nat.min_eq_right (by omega)]; rfl
  rw [hm]; rfl
theorem addR_ok {b c r : Nat} (h : addR b c = some r) : fop .add .f64 (some b) (some c) = some r := by
  unfold addR at h; rw [addT_eq] at h; exact addF_ok h
theorem subR_ok {b c r : Nat} (h : subR b c = some r) : fop .sub .f64 (some b) (some c) = some r := by
  unfold subR at h; rw [addT_eq] at h; exact subF_ok h
theorem mF_pos {r : Nat} (h : 0 < r) : 0 < mF r := by rw [mF_eq]; split <;> omega
theorem quoR_ok {b c r : Nat} (h : quoR b c = some r) : fop .quo .f64 (some b) (some c) = some r := by
  refine quoF_ok ?_
  unfold quoR at h
  change cond ((okF b && Nat.ble 1 (rgF b)) && (okF c && Nat.ble 1 (rgF c))) (quoR1 (sgF b ^^ sgF c) (mF (rgF b)) (mF (rgF c)) (pF (rgF b)) (pF (rgF c))) none = some r at h
  rcases hc : (okF b && Nat.ble 1 (rgF b)) && (okF c && Nat.ble 1 (rgF c))
  · rw [hc] at h; cases h
  · rw [hc] at h
    simp only [Bool.and_eq_true] at hc
    obtain ⟨⟨h1, h2⟩, h3, h4⟩ := hc
    have p1 := mF_pos (Nat.le_of_ble_eq_true h2)
    have p2 := mF_pos (Nat.le_of_ble_eq_true h4)
    have h5 : quoR1 (sgF b ^^ sgF c) (mF (rgF b)) (mF (rgF c)) (pF (rgF b)) (pF (rgF c)) = some r := h
    unfold quoR1 quoR2 quoR3 at h5
    rw [nrR_eq, lg2_eq _ p1, lg2_eq _ p2] at h5
    unfold quoF
    have h6 : Nat.blt 0 (rgF c) = true := h4
    rw [h1, h3, h6]
    exact h5
end Go.Proofs.Ytakaocddhaepmaa
