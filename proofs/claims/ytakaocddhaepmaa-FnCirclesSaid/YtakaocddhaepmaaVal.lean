/-
  The value of a float, in units of its format's least place, and the operations on values: sums, products, quotients, roots keep bounds that are powers of two.
-/
import Derived.Test.YtakaocddhaepmaaRound
namespace Go.Proofs.Ytakaocddhaepmaa
open Ieee

def LP (k : FloatKind) : Int := k.format.leastPlace
/-- The size of a word, and its value. -/
def sz (k : FloatKind) (b : Nat) : Nat := mg k.format (rg k b)
def V (k : FloatKind) (b : Nat) : Int := if sg k b then -(sz k b : Int) else sz k b
def fin (k : FloatKind) (b : Nat) : Prop := rg k b < k.format.infRung
theorem V_abs (k : FloatKind) (b : Nat) : (V k b).natAbs = sz k b := by unfold V; split <;> simp
theorem mg_R (f : Format) (p : Int) (hp : f.leastPlace + f.fractionBits ≤ p) : mg f (R f p) = 2 ^ (p - f.leastPlace).toNat := by
  have hB := binade_pos f
  have hq : 1 ≤ (p - f.leastPlace - f.fractionBits + 1).toNat := by omega
  unfold mg R
  have h1 : ¬ (p - f.leastPlace - ↑f.fractionBits + 1).toNat * f.binade < f.binade := by
    have := Nat.mul_le_mul_right f.binade hq
    omega
  rw [if_neg h1, Nat.mul_mod_left, Nat.mul_div_cancel _ hB, Nat.add_zero]
  show 2 ^ f.fractionBits * _ = _
  rw [← pow_split]; congr 1; omega
theorem rg_le_R {k : FloatKind} {b : Nat} {p : Int} (hp : LP k + k.format.fractionBits ≤ p) : rg k b ≤ R k.format p ↔ sz k b ≤ 2 ^ (p - LP k).toNat := by
  have h1 := mg_lt_iff k.format (R k.format p) (rg k b)
  have h2 := mg_R k.format p hp
  unfold sz LP
  rw [h2] at h1
  omega
theorem R_le_rg {k : FloatKind} {b : Nat} {p : Int} (hp : LP k + k.format.fractionBits ≤ p) : R k.format p ≤ rg k b ↔ 2 ^ (p - LP k).toNat ≤ sz k b := by
  have h1 := mg_lt_iff k.format (rg k b) (R k.format p)
  have h2 := mg_R k.format p hp
  unfold sz LP
  rw [h2] at h1
  omega

/-- What can be written exactly is. -/
theorem nr_exact (f : Format) (mag : Nat) (place : Int) (hm : mag < 2 ^ (f.fractionBits + 1)) (hp : f.leastPlace ≤ place) : mg f (nr f mag place) = mag * 2 ^ (place - f.leastPlace).toNat := by
  unfold nr
  split
  · rename_i h; rw [mg_zero, h, Nat.zero_mul]
  · rename_i h0
    have hB := binade_pos f
    have hL0 : 2 ^ mag.log2 ≤ mag := Nat.log2_self_le h0
    have hL1 : mag < 2 ^ (mag.log2 + 1) := Nat.lt_log2_self
    have hLt : mag.log2 < f.fractionBits + 1 := (Nat.log2_lt h0).2 hm
    have hlast : lastP f mag place = max (place + mag.log2 - f.fractionBits) f.leastPlace := rfl
    generalize lastP f mag place = last at *
    have hd : (last - place).toNat = 0 := by omega
    rw [hd, ev_zero]
    have hBe : f.binade = 2 ^ f.fractionBits := rfl
    by_cases c : f.leastPlace ≤ place + mag.log2 - f.fractionBits
    · have e1 : last = place + mag.log2 - f.fractionBits := by omega
      have g1 : f.binade ≤ mag * 2 ^ (place - last).toNat := by
        rw [hBe]
        refine Nat.le_trans ?_ (Nat.mul_le_mul_right _ hL0)
        rw [← pow_split]
        exact Nat.pow_le_pow_right (by decide) (by omega)
      have g2 : mag * 2 ^ (place - last).toNat < 2 * f.binade := by
        have e2 : 2 * f.binade = 2 ^ (mag.log2 + 1) * 2 ^ (place - last).toNat := by
          rw [hBe, ← pow_split, show 2 * 2 ^ f.fractionBits = 2 ^ (f.fractionBits + 1) by rw [Nat.pow_succ, Nat.mul_comm]]
          congr 1; omega
        rw [e2]
        exact Nat.mul_lt_mul_of_pos_right hL1 (Nat.two_pow_pos _)
      have e5 : mag * 2 ^ (place - f.leastPlace).toNat = mag * 2 ^ (place - last).toNat * 2 ^ (last - f.leastPlace).toNat := by
        rw [Nat.mul_assoc, ← pow_split]; congr 2; omega
      rw [e5]
      generalize mag * 2 ^ (place - last).toNat = K at *
      generalize (last - f.leastPlace).toNat = q at *
      have e6 : q * f.binade + K = (q + 1) * f.binade + (K - f.binade) := by rw [Nat.add_mul, Nat.one_mul]; omega
      unfold mg
      have h7 : ¬ q * f.binade + K < f.binade := by omega
      rw [if_neg h7, e6, Nat.mul_comm (q + 1), Nat.mul_add_mod, Nat.mul_add_div hB, Nat.mod_eq_of_lt (by omega), Nat.div_eq_of_lt (show K - f.binade < f.binade by omega)]
      rw [show f.binade + (K - f.binade) = K by omega, show q + 1 + 0 - 1 = q by omega]
    · have e1 : last = f.leastPlace := by omega
      have g2 : mag * 2 ^ (place - last).toNat < f.binade := by
        have h8 : 2 ^ (mag.log2 + 1) * 2 ^ (place - last).toNat ≤ f.binade := by
          rw [hBe, ← pow_split]; exact Nat.pow_le_pow_right (by decide) (by omega)
        exact Nat.lt_of_lt_of_le (Nat.mul_lt_mul_of_pos_right hL1 (Nat.two_pow_pos _)) h8
      rw [e1] at g2 ⊢
      rw [show (f.leastPlace - f.leastPlace).toNat = 0 by omega, Nat.zero_mul, Nat.zero_add]
      unfold mg; rw [if_pos g2]

/-- What is written: sign and rung. -/
theorem write_rg (k : FloatKind) (neg : Bool) (mag : Nat) (place : Int) :
    sg k (k.format.write (.number neg mag place)) = neg ∧ rg k (k.format.write (.number neg mag place)) = min (nr k.format mag place) k.format.infRung := by
  show sg k (k.format.nearest neg mag place) = neg ∧ rg k (k.format.nearest neg mag place) = _
  rw [nearest_nr]
  exact ⟨sg_word k neg _ (Nat.min_le_right ..), rg_word k neg _ (Nat.min_le_right ..)⟩

/-- mag * 2 ^ (place - LP) at most 2 ^ (p - LP): the rung is at most 2 ^ p's. -/
theorem write_le (k : FloatKind) (neg : Bool) (mag : Nat) (place p : Int) (hlp : LP k ≤ place) (hp : LP k + k.format.fractionBits ≤ p) (h : mag * 2 ^ (place - LP k).toNat ≤ 2 ^ (p - LP k).toNat) :
    rg k (k.format.write (.number neg mag place)) ≤ R k.format p := by
  rw [(write_rg k neg mag place).2]
  refine Nat.le_trans (Nat.min_le_left ..) ?_
  by_cases c : place ≤ p
  · refine nr_le _ _ _ _ (p - place).toNat ?_ (by omega) hp
    have e : 2 ^ (p - LP k).toNat = 2 ^ (p - place).toNat * 2 ^ (place - LP k).toNat := by rw [← pow_split]; congr 1; omega
    rw [e] at h
    exact Nat.le_of_mul_le_mul_right h (Nat.two_pow_pos _)
  · have h1 : 2 ^ (p - LP k).toNat < 2 ^ (place - LP k).toNat := Nat.pow_lt_pow_right (by decide) (by omega)
    have h2 : mag = 0 := by
      cases mag with
      | zero => rfl
      | succ m => rw [Nat.succ_mul] at h; omega
    rw [h2]; unfold nr; rw [if_pos rfl]; exact Nat.zero_le _
theorem write_ge (k : FloatKind) (neg : Bool) (mag : Nat) (place p : Int) (hlp : LP k ≤ place) (hp : LP k + k.format.fractionBits ≤ p) (hR : R k.format p ≤ k.format.infRung) (h : 2 ^ (p - LP k).toNat ≤ mag * 2 ^ (place - LP k).toNat) :
    R k.format p ≤ rg k (k.format.write (.number neg mag place)) := by
  rw [(write_rg k neg mag place).2]
  refine Nat.le_min.2 ⟨?_, hR⟩
  refine nr_ge _ _ _ _ (p - place).toNat ?_ (by omega) hp
  by_cases c : place ≤ p
  · have e : 2 ^ (p - LP k).toNat = 2 ^ (p - place).toNat * 2 ^ (place - LP k).toNat := by rw [← pow_split]; congr 1; omega
    rw [e] at h
    exact Nat.le_of_mul_le_mul_right h (Nat.two_pow_pos _)
  · rw [show (p - place).toNat = 0 by omega]
    have hpp := Nat.two_pow_pos (p - LP k).toNat
    cases mag with
    | zero => omega
    | succ m => omega
theorem read_fin {k : FloatKind} {b : Nat} (h : fin k b) : ∃ m e, k.format.read b = .number (sg k b) m e ∧ LP k ≤ e ∧ m * 2 ^ (e - LP k).toNat = sz k b := read_num k b h

theorem signed_V {k : FloatKind} {b m : Nat} {e base : Int} (h1 : LP k ≤ base) (h2 : base ≤ e) (hm : m * 2 ^ (e - LP k).toNat = sz k b) :
    signed (sg k b) m (e - base).toNat * ((2 ^ (base - LP k).toNat : Nat) : Int) = V k b := by
  rw [signed_mul, Int.mul_assoc]
  have : m * 2 ^ (e - base).toNat * 2 ^ (base - LP k).toNat = sz k b := by
    rw [← hm, Nat.mul_assoc, ← Nat.pow_add]; congr 2; omega
  have h3 : ((m * 2 ^ (e - base).toNat : Nat) : Int) * ((2 ^ (base - LP k).toNat : Nat) : Int) = (sz k b : Int) := by exact_mod_cast this
  rw [h3]; unfold V; cases sg k b <;> simp
/-- A SUM OF TWO FINITE NUMBERS: what bounds the exact sum bounds the rounded one. -/
theorem sum_fin {k : FloatKind} {x y : Nat} (hx : fin k x) (hy : fin k y) : ∃ r, floatBits .add k x y = some r ∧
    (∀ p, LP k + k.format.fractionBits ≤ p → (V k x + V k y).natAbs ≤ 2 ^ (p - LP k).toNat → rg k r ≤ R k.format p) ∧
    (∀ p, LP k + k.format.fractionBits ≤ p → R k.format p ≤ k.format.infRung → 2 ^ (p - LP k).toNat ≤ (V k x + V k y).natAbs → R k.format p ≤ rg k r) := by
  obtain ⟨m, i, hr, hi, hm⟩ := read_fin hx
  obtain ⟨n, j, hr', hj, hn⟩ := read_fin hy
  unfold floatBits
  simp only [Format.add, hr, hr', Datum.sum, Option.map_some]
  have hb1 : LP k ≤ min i j := by omega
  have e1 := signed_V hb1 (show min i j ≤ i by omega) hm
  have e2 := signed_V hb1 (show min i j ≤ j by omega) hn
  generalize signed (sg k x) m (i - min i j).toNat = A at *
  generalize signed (sg k y) n (j - min i j).toNat = B at *
  have hpos := Nat.two_pow_pos (min i j - LP k).toNat
  have e3 : (A + B).natAbs * 2 ^ (min i j - LP k).toNat = (V k x + V k y).natAbs := by
    rw [← e1, ← e2, ← Int.add_mul, Int.natAbs_mul, Int.natAbs_natCast]
  refine ⟨_, rfl, fun p hp h => ?_, fun p hp hR h => ?_⟩
  · exact write_le k _ _ _ p hb1 hp (by rw [e3]; exact h)
  · exact write_ge k _ _ _ p hb1 hp hR (by rw [e3]; exact h)
end Go.Proofs.Ytakaocddhaepmaa
