/-
  Rounding keeps bounds that are powers of two: the nearest word of a number of at most 2 ^ p is of at most 2 ^ p, of one of at least 2 ^ p of at least 2 ^ p.
-/
import Derived.Test.YtakaocddhaepmaaRung
namespace Go.Proofs.Ytakaocddhaepmaa
open Ieee

/-- Rounding to a whole number, to the nearest, ties to even. -/
@[irreducible] def ev (n drop : Nat) : Nat := Toward.even.cut false n drop
theorem cut_ev (neg : Bool) (n drop : Nat) : Toward.even.cut neg n drop = ev n drop := by unfold ev Toward.cut; rfl
theorem ev_zero (n : Nat) : ev n 0 = n := by unfold ev; exact cut_zero false n
theorem ev_form (n d : Nat) : (d ≤ n.log2 + 2 ∧ ∃ c : Bool, ev n d = n / 2 ^ d + c.toNat ∧ (n % 2 ^ d = 0 → c = false)) ∨ (n.log2 + 2 < d ∧ ev n d = 0) := by
  unfold ev Toward.cut
  by_cases h : d ≤ n.log2 + 2
  · refine .inl ⟨h, ?_⟩
    rw [Nat.min_eq_left h, Nat.shiftLeft_eq, Nat.one_mul]
    refine ⟨_, rfl, fun h0 => ?_⟩
    simp [h0]
  · refine .inr ⟨by omega, ?_⟩
    rw [Nat.min_eq_right (by omega), Nat.shiftLeft_eq, Nat.one_mul]
    have h1 : n < 2 ^ (n.log2 + 1) := Nat.lt_log2_self
    have h2 : 2 ^ (n.log2 + 2) = 2 * 2 ^ (n.log2 + 1) := by rw [Nat.pow_succ, Nat.mul_comm]
    have h3 : n < 2 ^ (n.log2 + 2) := by omega
    simp only [Nat.div_eq_of_lt h3, Nat.mod_eq_of_lt h3]
    have h4 : ¬ 2 ^ (n.log2 + 2) < 2 * n := by omega
    simp [h4]
theorem ev_le {n d K : Nat} (h : n ≤ K * 2 ^ d) : ev n d ≤ K := by
  rcases ev_form n d with ⟨_, c, he, hc⟩ | ⟨_, he⟩
  · have hp := Nat.two_pow_pos d
    have h1 : n / 2 ^ d ≤ K := by
      have := Nat.div_le_div_right (c := 2 ^ d) h
      rwa [Nat.mul_div_cancel _ hp] at this
    rw [he]
    by_cases h2 : n / 2 ^ d = K
    · have h3 := Nat.div_add_mod n (2 ^ d)
      rw [h2, Nat.mul_comm] at h3
      have h4 : n % 2 ^ d = 0 := by omega
      rw [hc h4, h2]; simp
    · cases c <;> simp <;> omega
  · omega
theorem ev_ge {n d K : Nat} (h : K * 2 ^ d ≤ n) : K ≤ ev n d := by
  rcases ev_form n d with ⟨_, c, he, _⟩ | ⟨hd, he⟩
  · have hp := Nat.two_pow_pos d
    have h1 : K ≤ n / 2 ^ d := (Nat.le_div_iff_mul_le hp).2 h
    omega
  · have h1 : n < 2 ^ (n.log2 + 1) := Nat.lt_log2_self
    have h2 : 2 ^ (n.log2 + 1) ≤ 2 ^ d := Nat.pow_le_pow_right (by decide) (by omega)
    cases K with
    | zero => omega
    | succ K => rw [Nat.succ_mul] at h; omega

/-- The rung of the nearest word, before infinity bounds it. -/
def lastP (f : Format) (mag : Nat) (place : Int) : Int := max (place + mag.log2 - f.fractionBits) f.leastPlace
def nr (f : Format) (mag : Nat) (place : Int) : Nat :=
  if mag = 0 then 0 else (lastP f mag place - f.leastPlace).toNat * f.binade + ev (mag * 2 ^ (place - lastP f mag place).toNat) (lastP f mag place - place).toNat
theorem nearest_nr (f : Format) (neg : Bool) (mag : Nat) (place : Int) : f.nearest neg mag place = f.word neg (min (nr f mag place) f.infRung) := by
  unfold Format.nearest nr lastP
  dsimp only
  by_cases h : mag = 0
  · rw [if_pos h, if_pos h, Nat.zero_min]
  · rw [if_neg h, if_neg h, cut_ev, Nat.shiftLeft_eq]
theorem rg_word (k : FloatKind) (neg : Bool) (r : Nat) (h : r ≤ k.format.infRung) : rg k (k.format.word neg r) = r := by
  have hs : k.format.infRung < k.format.signWeight := k.format.infRung_lt
  unfold rg Format.word
  split
  · rw [Nat.add_mod_left, Nat.mod_eq_of_lt (by omega)]
  · exact Nat.mod_eq_of_lt (by omega)
theorem sg_word (k : FloatKind) (neg : Bool) (r : Nat) (h : r ≤ k.format.infRung) : sg k (k.format.word neg r) = neg := by
  have hs : k.format.infRung < k.format.signWeight := k.format.infRung_lt
  have hp : 0 < k.format.signWeight := Nat.two_pow_pos _
  unfold sg Format.word
  cases neg
  · simp; rw [Nat.div_eq_of_lt (by omega)]
  · simp; rw [Nat.add_div_left _ hp, Nat.div_eq_of_lt (by omega)]

/-- The rung of 2 ^ p. -/
def R (f : Format) (p : Int) : Nat := (p - f.leastPlace - f.fractionBits + 1).toNat * f.binade
theorem pow_split (a b : Nat) : 2 ^ (a + b) = 2 ^ a * 2 ^ b := Nat.pow_add 2 a b
theorem nr_le (f : Format) (mag : Nat) (place p : Int) (t : Nat) (hm : mag ≤ 2 ^ t) (ht : place + t ≤ p) (hp : f.leastPlace + f.fractionBits ≤ p) : nr f mag place ≤ R f p := by
  unfold nr
  split
  · exact Nat.zero_le _
  · rename_i h0
    have hL1 : mag < 2 ^ (mag.log2 + 1) := Nat.lt_log2_self
    have hLt : mag.log2 ≤ t := by
      have h1 : 2 ^ mag.log2 ≤ mag := Nat.log2_self_le h0
      exact (Nat.pow_le_pow_iff_right (by decide)).1 (Nat.le_trans h1 hm)
    have hlast : lastP f mag place = max (place + mag.log2 - f.fractionBits) f.leastPlace := rfl
    generalize lastP f mag place = last at *
    have hlp : last ≤ p := by omega
    have k1 : ev (mag * 2 ^ (place - last).toNat) (last - place).toNat ≤ 2 ^ (p - last).toNat := by
      refine ev_le ?_
      rw [← pow_split]
      refine Nat.le_trans (Nat.mul_le_mul_right _ hm) ?_
      rw [← pow_split]
      exact Nat.pow_le_pow_right (by decide) (by omega)
    have k2 : ev (mag * 2 ^ (place - last).toNat) (last - place).toNat ≤ 2 ^ (f.fractionBits + 1) := by
      refine ev_le ?_
      rw [← pow_split]
      refine Nat.le_trans (Nat.mul_le_mul_right _ (Nat.le_of_lt hL1)) ?_
      rw [← pow_split]
      exact Nat.pow_le_pow_right (by decide) (by omega)
    have hB : 2 ^ f.fractionBits = f.binade := rfl
    have hB2 : 2 ^ (f.fractionBits + 1) = 2 * f.binade := by rw [Nat.pow_succ, Nat.mul_comm]; rfl
    unfold R
    by_cases c1 : p - last ≥ f.fractionBits + 1
    · rw [hB2] at k2
      have : (last - f.leastPlace).toNat + 2 ≤ (p - f.leastPlace - f.fractionBits + 1).toNat := by omega
      have h5 := Nat.mul_le_mul_right f.binade this
      rw [Nat.add_mul] at h5
      omega
    · have c2 : p - last = f.fractionBits := by omega
      rw [show (p - last).toNat = f.fractionBits by omega, hB] at k1
      have : (last - f.leastPlace).toNat + 1 ≤ (p - f.leastPlace - f.fractionBits + 1).toNat := by omega
      have h5 := Nat.mul_le_mul_right f.binade this
      rw [Nat.add_mul] at h5
      omega
theorem nr_ge (f : Format) (mag : Nat) (place p : Int) (t : Nat) (hm : 2 ^ t ≤ mag) (ht : p ≤ place + t) (hp : f.leastPlace + f.fractionBits ≤ p) : R f p ≤ nr f mag place := by
  unfold nr
  have hpos := Nat.two_pow_pos t
  rw [if_neg (by omega)]
  have h0 : mag ≠ 0 := by omega
  have hL0 : 2 ^ mag.log2 ≤ mag := Nat.log2_self_le h0
  have hLt : t ≤ mag.log2 := (Nat.le_log2 h0).2 hm
  have hlast : lastP f mag place = max (place + mag.log2 - f.fractionBits) f.leastPlace := rfl
  generalize lastP f mag place = last at *
  have k1 : 2 ^ f.fractionBits ≤ ev (mag * 2 ^ (place - last).toNat) (last - place).toNat := by
    refine ev_ge ?_
    rw [← pow_split]
    refine Nat.le_trans ?_ (Nat.mul_le_mul_right _ hL0)
    rw [← pow_split]
    exact Nat.pow_le_pow_right (by decide) (by omega)
  have hB : 2 ^ f.fractionBits = f.binade := rfl
  rw [hB] at k1
  unfold R
  have : (p - f.leastPlace - f.fractionBits + 1).toNat ≤ (last - f.leastPlace).toNat + 1 := by omega
  have h5 := Nat.mul_le_mul_right f.binade this
  rw [Nat.add_mul] at h5
  omega
end Go.Proofs.Ytakaocddhaepmaa
