/-
  Rounding is monotone: what is at least a float's value is rounded to at least that float, what is at most to at most.
-/
import Derived.Test.YtakaocddhaepmaaVal4
namespace Go.Proofs.Ytakaocddhaepmaa
open Ieee

/-- A rung's digits and place. -/
theorem rung_form (f : Format) (r : Nat) : ∃ A t, r = t * f.binade + A ∧ mg f r = A * 2 ^ t ∧ A < 2 * f.binade ∧ (1 ≤ t → f.binade ≤ A) := by
  have hB := binade_pos f
  by_cases h : r < f.binade
  · exact ⟨r, 0, by omega, by unfold mg; rw [if_pos h]; simp, by omega, fun h => by omega⟩
  · have hq : 1 ≤ r / f.binade := (Nat.le_div_iff_mul_le hB).2 (by omega)
    have hm := Nat.mod_lt r hB
    have hd := Nat.div_add_mod r f.binade
    refine ⟨f.binade + r % f.binade, r / f.binade - 1, ?_, by unfold mg; rw [if_neg h], by omega, fun _ => by omega⟩
    have e : f.binade * (r / f.binade) = (r / f.binade - 1) * f.binade + f.binade := by
      rw [Nat.mul_comm, ← Nat.succ_mul]; congr 1; omega
    omega
/-- In units of 2 ^ (LP - c). -/
theorem nr_mono_c (f : Format) (mag : Nat) (place : Int) (c : Nat) (hlp : f.leastPlace ≤ place + c) (r : Nat) :
    (mg f r * 2 ^ c ≤ mag * 2 ^ (place + c - f.leastPlace).toNat → r ≤ nr f mag place) ∧ (mag * 2 ^ (place + c - f.leastPlace).toNat ≤ mg f r * 2 ^ c → nr f mag place ≤ r) := by
  have hB := binade_pos f
  obtain ⟨A, t, hr, hmg, hA, hA1⟩ := rung_form f r
  rw [hmg, Nat.mul_assoc, ← pow_split]
  by_cases h0 : mag = 0
  · unfold nr
    rw [if_pos h0, h0, Nat.zero_mul]
    refine ⟨fun h => ?_, fun _ => Nat.zero_le _⟩
    have hp := Nat.two_pow_pos (t + c)
    have hA0 : A = 0 := by
      rcases Nat.mul_eq_zero.1 (Nat.le_zero.1 h) with h | h <;> omega
    have ht : ¬ 1 ≤ t := fun h => by have := hA1 h; omega
    have ht0 : t = 0 := by omega
    rw [hr, hA0, ht0]; simp
  · have hL0 : 2 ^ mag.log2 ≤ mag := Nat.log2_self_le h0
    have hL1 : mag < 2 ^ (mag.log2 + 1) := Nat.lt_log2_self
    unfold nr
    rw [if_neg h0]
    have hlast : lastP f mag place = max (place + mag.log2 - f.fractionBits) f.leastPlace := rfl
    generalize lastP f mag place = last at *
    have hBe : f.binade = 2 ^ f.fractionBits := rfl
    have hshift : mag * 2 ^ (place - last).toNat * 2 ^ ((last - f.leastPlace).toNat + c) = mag * 2 ^ (place + c - f.leastPlace).toNat * 2 ^ (last - place).toNat := by
      rw [Nat.mul_assoc, Nat.mul_assoc, ← pow_split, ← pow_split]; congr 2; omega
    have hpd := Nat.two_pow_pos (last - place).toNat
    have hpl := Nat.two_pow_pos ((last - f.leastPlace).toNat + c)
    have kge : ∀ K, K * 2 ^ ((last - f.leastPlace).toNat + c) ≤ mag * 2 ^ (place + c - f.leastPlace).toNat → K ≤ ev (mag * 2 ^ (place - last).toNat) (last - place).toNat := by
      intro K hK
      refine ev_ge ?_
      have h1 := Nat.mul_le_mul_right (2 ^ (last - place).toNat) hK
      rw [← hshift, Nat.mul_assoc, Nat.mul_comm (2 ^ ((last - f.leastPlace).toNat + c)), ← Nat.mul_assoc] at h1
      exact Nat.le_of_mul_le_mul_right h1 hpl
    have kle : ∀ K, mag * 2 ^ (place + c - f.leastPlace).toNat ≤ K * 2 ^ ((last - f.leastPlace).toNat + c) → ev (mag * 2 ^ (place - last).toNat) (last - place).toNat ≤ K := by
      intro K hK
      refine ev_le ?_
      have h1 := Nat.mul_le_mul_right (2 ^ (last - place).toNat) hK
      rw [← hshift, Nat.mul_assoc K, Nat.mul_comm (2 ^ ((last - f.leastPlace).toNat + c)), ← Nat.mul_assoc] at h1
      exact Nat.le_of_mul_le_mul_right h1 hpl
    have vhi : mag * 2 ^ (place + c - f.leastPlace).toNat < 2 * f.binade * 2 ^ ((last - f.leastPlace).toNat + c) := by
      have e : 2 * f.binade * 2 ^ ((last - f.leastPlace).toNat + c) = 2 ^ (f.fractionBits + 1 + ((last - f.leastPlace).toNat + c)) := by
        rw [pow_split (f.fractionBits + 1), Nat.pow_succ, Nat.mul_comm (2 ^ f.fractionBits) 2, hBe]
      rw [e]
      refine Nat.lt_of_lt_of_le (Nat.mul_lt_mul_of_pos_right hL1 (Nat.two_pow_pos _)) ?_
      rw [← pow_split]
      exact Nat.pow_le_pow_right (by decide) (by omega)
    have vlo : f.leastPlace < last → f.binade * 2 ^ ((last - f.leastPlace).toNat + c) ≤ mag * 2 ^ (place + c - f.leastPlace).toNat := by
      intro h
      rw [hBe, ← pow_split]
      refine Nat.le_trans ?_ (Nat.mul_le_mul_right _ hL0)
      rw [← pow_split]
      exact Nat.pow_le_pow_right (by decide) (by omega)
    have kB : f.leastPlace < last → f.binade ≤ ev (mag * 2 ^ (place - last).toNat) (last - place).toNat := fun h => kge _ (vlo h)
    have k2B : ev (mag * 2 ^ (place - last).toNat) (last - place).toNat ≤ 2 * f.binade := kle _ (Nat.le_of_lt vhi)
    generalize ev (mag * 2 ^ (place - last).toNat) (last - place).toNat = kept at *
    generalize mag * 2 ^ (place + c - f.leastPlace).toNat = v at *
    have hl : last = f.leastPlace + (last - f.leastPlace).toNat := by omega
    generalize (last - f.leastPlace).toNat = l at *
    have hlB : ∀ x y : Nat, x + 1 ≤ y → x * f.binade + f.binade ≤ y * f.binade := by
      intro x y h
      have := Nat.mul_le_mul_right f.binade h
      rw [Nat.succ_mul] at this; exact this
    refine ⟨fun h => ?_, fun h => ?_⟩
    · rcases Nat.lt_trichotomy t l with c1 | c1 | c1
      · have h1 := hlB t l c1
        have h2 := kB (by omega)
        omega
      · subst c1
        have := kge A h
        omega
      · exfalso
        have h1 := hA1 (by omega)
        have h2 : 2 * f.binade * 2 ^ (l + c) ≤ A * 2 ^ (t + c) := by
          have e : 2 ^ (t + c) = 2 * 2 ^ (l + c) * 2 ^ (t - (l + 1)) := by
            rw [Nat.mul_comm 2, ← Nat.pow_succ, ← pow_split]; congr 1; omega
          have hp := Nat.two_pow_pos (t - (l + 1))
          rw [e]
          calc 2 * f.binade * 2 ^ (l + c) = f.binade * (2 * 2 ^ (l + c)) := by rw [Nat.mul_comm 2 f.binade, Nat.mul_assoc]
            _ ≤ A * (2 * 2 ^ (l + c)) := Nat.mul_le_mul_right _ h1
            _ ≤ A * (2 * 2 ^ (l + c) * 2 ^ (t - (l + 1))) := Nat.mul_le_mul_left _ (Nat.le_mul_of_pos_right _ hp)
        omega
    · rcases Nat.lt_trichotomy t l with c1 | c1 | c1
      · exfalso
        have h1 := vlo (by omega)
        have h2 : A * 2 ^ (t + c) < f.binade * 2 ^ (l + c) := by
          have e : 2 ^ (l + c) = 2 * 2 ^ (t + c) * 2 ^ (l - (t + 1)) := by
            rw [Nat.mul_comm 2, ← Nat.pow_succ, ← pow_split]; congr 1; omega
          have hp := Nat.two_pow_pos (l - (t + 1))
          have hpt := Nat.two_pow_pos (t + c)
          rw [e]
          calc A * 2 ^ (t + c) < 2 * f.binade * 2 ^ (t + c) := Nat.mul_lt_mul_of_pos_right hA hpt
            _ = f.binade * (2 * 2 ^ (t + c)) := by rw [Nat.mul_comm 2 f.binade, Nat.mul_assoc]
            _ ≤ f.binade * (2 * 2 ^ (t + c) * 2 ^ (l - (t + 1))) := Nat.mul_le_mul_left _ (Nat.le_mul_of_pos_right _ hp)
        omega
      · subst c1
        have := kle A h
        omega
      · have h1 := hlB l t c1
        have h2 := hA1 (by omega)
        omega
theorem nr_mono (f : Format) (mag : Nat) (place : Int) (hlp : f.leastPlace ≤ place) (r : Nat) :
    (mg f r ≤ mag * 2 ^ (place - f.leastPlace).toNat → r ≤ nr f mag place) ∧ (mag * 2 ^ (place - f.leastPlace).toNat ≤ mg f r → nr f mag place ≤ r) := by
  have h := nr_mono_c f mag place 0 (by simpa using hlp) r
  simpa using h
/-- A PRODUCT: rounded, in units of the square of the least place. -/
theorem mul_mono {k : FloatKind} {x y : Nat} (hx : fin k x) (hy : fin k y) (hL : LP k ≤ 0) : ∃ r, floatBits .mul k x y = some r ∧ sg k r = (sg k x ^^ sg k y) ∧
    (∀ q, q ≤ k.format.infRung → mg k.format q * 2 ^ (-LP k).toNat ≤ sz k x * sz k y → q ≤ rg k r) ∧ (∀ q, sz k x * sz k y ≤ mg k.format q * 2 ^ (-LP k).toNat → rg k r ≤ q) := by
  obtain ⟨m, i, hr, hi, hm⟩ := read_fin hx
  obtain ⟨n, j, hr', hj, hn⟩ := read_fin hy
  unfold floatBits
  simp only [Format.mul, hr, hr', Datum.product, Option.map_some]
  have hw := write_rg k (sg k x ^^ sg k y) (m * n) (i + j)
  have e : m * n * 2 ^ (i + j + ((-LP k).toNat : Nat) - k.format.leastPlace).toNat = sz k x * sz k y := by
    rw [← hm, ← hn]
    have h1 : (i + j + ((-LP k).toNat : Nat) - k.format.leastPlace).toNat = (i - LP k).toNat + (j - LP k).toNat := by
      unfold LP at *; omega
    rw [h1, pow_split, Nat.mul_assoc m, Nat.mul_assoc m, Nat.mul_left_comm n]
  have hmono := fun q => nr_mono_c k.format (m * n) (i + j) (-LP k).toNat (by unfold LP at *; omega) q
  rw [e] at hmono
  refine ⟨_, rfl, hw.1, fun q hq h => ?_, fun q h => ?_⟩
  · show q ≤ rg k (k.format.write (.number (sg k x ^^ sg k y) (m * n) (i + j)))
    rw [hw.2]; exact Nat.le_min.2 ⟨(hmono q).1 h, hq⟩
  · show rg k (k.format.write (.number (sg k x ^^ sg k y) (m * n) (i + j))) ≤ q
    rw [hw.2]; exact Nat.le_trans (Nat.min_le_left ..) ((hmono q).2 h)
end Go.Proofs.Ytakaocddhaepmaa
