/-
  The order of floats is the order of their rungs with signs: the bits without the sign bit, read as one number.
-/
import Derived.Test.YtakaocddhaepmaaFl
namespace Go.Proofs.Ytakaocddhaepmaa
open Ieee

/-- The size of a rung, in units of the format's least place. -/
def mg (f : Format) (r : Nat) : Nat := if r < f.binade then r else (f.binade + r % f.binade) * 2 ^ (r / f.binade - 1)
theorem binade_pos (f : Format) : 0 < f.binade := Nat.two_pow_pos _
theorem mg_succ (f : Format) (r : Nat) : mg f r < mg f (r + 1) := by
  have hB := binade_pos f
  unfold mg
  by_cases h1 : r + 1 < f.binade
  · rw [if_pos h1, if_pos (by omega)]; omega
  · rw [if_neg h1]
    by_cases h2 : r < f.binade
    · rw [if_pos h2]
      have e : r + 1 = f.binade := by omega
      rw [e, Nat.mod_self, Nat.div_self hB]; simp; exact h2
    · rw [if_neg h2]
      generalize f.binade = B at *
      have hd := Nat.div_add_mod r B
      have hm := Nat.mod_lt r hB
      have hq : 1 ≤ r / B := (Nat.le_div_iff_mul_le hB).2 (by omega)
      generalize r / B = q at *
      generalize r % B = t at *
      by_cases h3 : t + 1 < B
      · have e1 : (r + 1) / B = q := by
          rw [← hd, Nat.add_assoc, Nat.mul_add_div hB, Nat.div_eq_of_lt h3, Nat.add_zero]
        have e2 : (r + 1) % B = t + 1 := by
          rw [← hd, Nat.add_assoc, Nat.mul_add_mod, Nat.mod_eq_of_lt h3]
        rw [e1, e2]
        exact Nat.mul_lt_mul_of_pos_right (by omega) (Nat.two_pow_pos _)
      · have h4 : t + 1 = B := by omega
        have e0 : r + 1 = B * (q + 1) := by rw [Nat.mul_add]; omega
        have e1 : (r + 1) / B = q + 1 := by rw [e0, Nat.mul_div_cancel_left _ hB]
        have e2 : (r + 1) % B = 0 := by rw [e0, Nat.mul_mod_right]
        rw [e1, e2, Nat.add_zero, show q + 1 - 1 = (q - 1) + 1 by omega, Nat.pow_succ, Nat.mul_comm (2 ^ (q - 1)) 2, ← Nat.mul_assoc]
        exact Nat.mul_lt_mul_of_pos_right (by omega) (Nat.two_pow_pos _)
theorem mg_lt (f : Format) {r r' : Nat} (h : r < r') : mg f r < mg f r' := by
  induction r' with
  | zero => omega
  | succ n ih =>
    by_cases hn : r = n
    · subst hn; exact mg_succ f r
    · exact Nat.lt_trans (ih (by omega)) (mg_succ f n)
theorem mg_lt_iff (f : Format) (r r' : Nat) : mg f r < mg f r' ↔ r < r' := by
  constructor
  · intro h
    by_cases h1 : r < r'
    · exact h1
    · by_cases h2 : r = r'
      · subst h2; omega
      · have := mg_lt f (show r' < r by omega); omega
  · exact mg_lt f
theorem mg_eq_iff (f : Format) (r r' : Nat) : mg f r = mg f r' ↔ r = r' := by
  constructor
  · intro h
    by_cases h1 : r < r'
    · have := mg_lt f h1; omega
    · by_cases h2 : r' < r
      · have := mg_lt f h2; omega
      · omega
  · intro h; rw [h]
theorem mg_zero (f : Format) : mg f 0 = 0 := by unfold mg; rw [if_pos (binade_pos f)]

/-- A word's sign and rung. -/
def sg (k : FloatKind) (b : Nat) : Bool := b / k.format.signWeight % 2 == 1
def rg (k : FloatKind) (b : Nat) : Nat := b % k.format.signWeight
def key (k : FloatKind) (b : Nat) : Int := if sg k b then -(rg k b : Int) else rg k b

/-- What a word that is no NaN stands for. -/
theorem read_num (k : FloatKind) (b : Nat) (h : rg k b < k.format.infRung) :
    ∃ m e, k.format.read b = .number (sg k b) m e ∧ k.format.leastPlace ≤ e ∧ m * 2 ^ (e - k.format.leastPlace).toNat = mg k.format (rg k b) := by
  unfold Format.read
  simp only [← show rg k b = b % k.format.signWeight from rfl, ← show sg k b = (b / k.format.signWeight % 2 == 1) from rfl]
  by_cases h1 : rg k b < k.format.binade
  · rw [if_pos h1]
    exact ⟨_, _, rfl, Int.le_refl _, by unfold mg; rw [if_pos h1]; simp⟩
  · rw [if_neg h1, if_pos h]
    refine ⟨_, _, rfl, by omega, ?_⟩
    unfold mg; rw [if_neg h1]
    congr 2
    omega
theorem read_inf (k : FloatKind) (b : Nat) (h : rg k b = k.format.infRung) (hb : k.format.binade ≤ k.format.infRung) : k.format.read b = .infinity (sg k b) := by
  unfold Format.read
  simp only [← show rg k b = b % k.format.signWeight from rfl, ← show sg k b = (b / k.format.signWeight % 2 == 1) from rfl]
  rw [if_neg (by omega), if_neg (by omega), if_pos h]
theorem binade_inf (k : FloatKind) : k.format.binade ≤ k.format.infRung := by cases k <;> decide
/-- No NaN: the rung is at most infinity's. -/
theorem rg_le (k : FloatKind) (b : Nat) (h : (k.format.read b).isNaN = false) : rg k b ≤ k.format.infRung := by
  have hb := binade_inf k
  by_cases h1 : rg k b ≤ k.format.infRung
  · exact h1
  · exfalso
    unfold Format.read at h
    simp only [← show rg k b = b % k.format.signWeight from rfl, ← show sg k b = (b / k.format.signWeight % 2 == 1) from rfl] at h
    rw [if_neg (by omega), if_neg (by omega), if_neg (by omega)] at h
    cases h
theorem num_of_rg (k : FloatKind) (b : Nat) (h : rg k b ≤ k.format.infRung) : (k.format.read b).isNaN = false := by
  by_cases h1 : rg k b < k.format.infRung
  · obtain ⟨m, e, hr, _, _⟩ := read_num k b h1; rw [hr]; rfl
  · rw [read_inf k b (by omega) (binade_inf k)]; rfl
theorem cn_of_rg (k : FloatKind) (b : Nat) (h : rg k b ≤ k.format.infRung) : cn k b = some b := cn_num (num_of_rg k b h)

theorem cmp_iff {x y x' y' : Int} (h1 : x < y ↔ x' < y') (h2 : x = y ↔ x' = y') : compare x y = compare x' y' := by
  simp only [compare, compareOfLessAndEq]
  by_cases a : x < y
  · rw [if_pos a, if_pos (h1.1 a)]
  · rw [if_neg a, if_neg (fun c => a (h1.2 c))]
    by_cases b : x = y
    · rw [if_pos b, if_pos (h2.1 b)]
    · rw [if_neg b, if_neg (fun c => b (h2.2 c))]
theorem cmp_lt {x y : Int} (h : x < y) : compare x y = .lt := by simp only [compare, compareOfLessAndEq]; rw [if_pos h]
theorem cmp_gt {x y : Int} (h : y < x) : compare x y = .gt := by simp only [compare, compareOfLessAndEq]; rw [if_neg (by omega), if_neg (by omega)]
theorem cmp_eq {x y : Int} (h : x = y) : compare x y = .eq := by simp only [compare, compareOfLessAndEq]; rw [if_neg (by omega), if_pos h]
theorem signed_mul (s : Bool) (m up : Nat) : signed s m up = (if s then -1 else 1) * ((m * 2 ^ up : Nat) : Int) := by
  unfold signed; rw [Nat.shiftLeft_eq]; cases s <;> simp
theorem mul_lt_iff (a b : Int) (c : Nat) : a * ((2 ^ c : Nat) : Int) < b * ((2 ^ c : Nat) : Int) ↔ a < b := by
  have hp : (0 : Int) < ((2 ^ c : Nat) : Int) := by exact_mod_cast Nat.two_pow_pos c
  exact ⟨fun h => Int.lt_of_mul_lt_mul_right h (Int.le_of_lt hp), fun h => Int.mul_lt_mul_of_pos_right h hp⟩
theorem mul_eq_iff (a b : Int) (c : Nat) : a * ((2 ^ c : Nat) : Int) = b * ((2 ^ c : Nat) : Int) ↔ a = b := by
  have hp : ((2 ^ c : Nat) : Int) ≠ 0 := by have := Nat.two_pow_pos c; omega
  exact ⟨fun h => Int.eq_of_mul_eq_mul_right hp h, fun h => by rw [h]⟩
/-- The order of two numbers. -/
theorem order_key (k : FloatKind) (a b : Nat) (ha : rg k a ≤ k.format.infRung) (hb : rg k b ≤ k.format.infRung) :
    k.format.order a b = some (compare (key k a) (key k b)) := by
  have hmono := fun r r' => mg_lt_iff k.format r r'
  have hinj := fun r r' => mg_eq_iff k.format r r'
  have h0 := mg_zero k.format
  have hI : 0 < k.format.infRung := Nat.lt_of_lt_of_le (binade_pos k.format) (binade_inf k)
  unfold Format.order
  by_cases a1 : rg k a < k.format.infRung
  · obtain ⟨m, e, hr, he, hm⟩ := read_num k a a1
    rw [hr]
    by_cases b1 : rg k b < k.format.infRung
    · obtain ⟨n, e', hr', he', hn⟩ := read_num k b b1
      rw [hr']
      simp only [Datum.order]
      congr 1
      have key1 : ∀ (s : Bool) (m : Nat) (e base : Int), k.format.leastPlace ≤ base → base ≤ e →
          signed s m (e - base).toNat * ((2 ^ (base - k.format.leastPlace).toNat : Nat) : Int) = (if s then -1 else 1) * ((m * 2 ^ (e - k.format.leastPlace).toNat : Nat) : Int) := by
        intro s m e base h1 h2
        rw [signed_mul, Int.mul_assoc]
        congr 1
        have : m * 2 ^ (e - base).toNat * 2 ^ (base - k.format.leastPlace).toNat = m * 2 ^ (e - k.format.leastPlace).toNat := by
          rw [Nat.mul_assoc, ← Nat.pow_add]; congr 2; omega
        exact_mod_cast this
      have hb1 : k.format.leastPlace ≤ min e e' := by omega
      refine cmp_iff ?_ ?_
      · rw [← mul_lt_iff _ _ (min e e' - k.format.leastPlace).toNat, key1 _ _ _ _ hb1 (by omega), key1 _ _ _ _ hb1 (by omega), hm, hn]
        unfold key
        have i1 := hmono (rg k a) (rg k b)
        have i2 := hmono (rg k b) (rg k a)
        have i3 := hmono 0 (rg k a)
        have i4 := hmono 0 (rg k b)
        rw [h0] at i3 i4
        cases sg k a <;> cases sg k b <;> simp <;> omega
      · rw [← mul_eq_iff _ _ (min e e' - k.format.leastPlace).toNat, key1 _ _ _ _ hb1 (by omega), key1 _ _ _ _ hb1 (by omega), hm, hn]
        unfold key
        have i1 := hinj (rg k a) (rg k b)
        have i3 := hmono 0 (rg k a)
        have i4 := hmono 0 (rg k b)
        rw [h0] at i3 i4
        cases sg k a <;> cases sg k b <;> simp <;> omega
    · have b2 : rg k b = k.format.infRung := by omega
      rw [read_inf k b b2 (binade_inf k)]
      simp only [Datum.order]
      congr 1
      unfold key
      rw [b2]
      cases sg k a <;> cases sg k b <;> first | exact (cmp_lt (by simp; omega)).symm | exact (cmp_gt (by simp; omega)).symm | exact (cmp_eq (by simp)).symm
  · have a2 : rg k a = k.format.infRung := by omega
    rw [read_inf k a a2 (binade_inf k)]
    by_cases b1 : rg k b < k.format.infRung
    · obtain ⟨n, e', hr', he', hn⟩ := read_num k b b1
      rw [hr']
      simp only [Datum.order]
      congr 1
      unfold key
      rw [a2]
      cases sg k a <;> cases sg k b <;> first | exact (cmp_lt (by simp; omega)).symm | exact (cmp_gt (by simp; omega)).symm | exact (cmp_eq (by simp)).symm
    · have b2 : rg k b = k.format.infRung := by omega
      rw [read_inf k b b2 (binade_inf k)]
      simp only [Datum.order]
      congr 1
      unfold key
      rw [a2, b2]
      cases sg k a <;> cases sg k b <;> first | exact (cmp_lt (by simp; omega)).symm | exact (cmp_gt (by simp; omega)).symm | exact (cmp_eq (by simp)).symm
end Go.Proofs.Ytakaocddhaepmaa
