/-
  Contracts of ShareHash and its twin: a product with 2 ^ -24 and a quotient by 2 ^ 24 are one number.
-/
import Derived.Test.YtilbglcbhoiamaaHash2
import Derived.Test.YtilbglcbhoiamaaFlo
import Derived.Test.YtilbglcbhoiamaaVal
namespace Go.Proofs.Ytilbglcbhoiamaa
open Ieee

theorem log2_mul (n c : Nat) (h : n ≠ 0) : (n * 2 ^ c).log2 = n.log2 + c := by
  have hp := Nat.two_pow_pos c
  have h1 : n * 2 ^ c ≠ 0 := by
    intro h2; rcases Nat.mul_eq_zero.1 h2 with h2 | h2 <;> omega
  have a1 : 2 ^ (n.log2 + c) ≤ n * 2 ^ c := by rw [pow_split]; exact Nat.mul_le_mul_right _ (Nat.log2_self_le h)
  have a2 : n * 2 ^ c < 2 ^ (n.log2 + c + 1) := by
    rw [show n.log2 + c + 1 = (n.log2 + 1) + c by omega, pow_split]
    exact Nat.mul_lt_mul_of_pos_right Nat.lt_log2_self hp
  have b1 := (Nat.le_log2 h1).2 a1
  have b2 := (Nat.log2_lt h1).2 a2
  omega
theorem ev_scale (n d c : Nat) : ev (n * 2 ^ c) (d + c) = ev n d := by
  by_cases h0 : n = 0
  · rw [h0, Nat.zero_mul]
    have h1 : ev 0 (d + c) ≤ 0 := ev_le (by omega)
    have h2 : ev 0 d ≤ 0 := ev_le (by omega)
    omega
  · have hl : (n * 2 ^ c).log2 = n.log2 + c := by rw [log2_mul _ _ h0]
    have hp := Nat.two_pow_pos c
    unfold ev Toward.cut
    rw [hl, show min (d + c) (n.log2 + c + 2) = min d (n.log2 + 2) + c by omega]
    simp only [Nat.shiftLeft_eq, Nat.one_mul, pow_split]
    generalize 2 ^ min d (n.log2 + 2) = g
    rw [Nat.mul_div_mul_right _ _ hp, Nat.mul_mod_mul_right]
    have e1 : (g * 2 ^ c < 2 * (n % g * 2 ^ c)) ↔ (g < 2 * (n % g)) := by
      rw [← Nat.mul_assoc]
      exact ⟨fun h => Nat.lt_of_mul_lt_mul_right h, fun h => Nat.mul_lt_mul_of_pos_right h hp⟩
    have e2 : (g * 2 ^ c = 2 * (n % g * 2 ^ c)) ↔ (g = 2 * (n % g)) := by
      rw [← Nat.mul_assoc]
      exact ⟨fun h => Nat.eq_of_mul_eq_mul_right hp h, fun h => by rw [← h]⟩
    congr 2
    rw [Bool.eq_iff_iff]
    simp [e1, e2]
theorem nr_scale (f : Format) (mag c : Nat) (place : Int) : nr f (mag * 2 ^ c) place = nr f mag (place + c) := by
  unfold nr
  have hp := Nat.two_pow_pos c
  by_cases h0 : mag = 0
  · rw [h0, Nat.zero_mul, if_pos rfl, if_pos rfl]
  · have h1 : mag * 2 ^ c ≠ 0 := by
      intro h; rcases Nat.mul_eq_zero.1 h with h | h <;> omega
    rw [if_neg h0, if_neg h1]
    have hl : lastP f (mag * 2 ^ c) place = lastP f mag (place + c) := by
      unfold lastP; rw [log2_mul _ _ h0]; congr 1; omega
    rw [hl]
    generalize lastP f mag (place + c) = L
    congr 1
    by_cases c1 : L ≤ place + c
    · by_cases c2 : L ≤ place
      · rw [show (L - place).toNat = 0 by omega, show (L - (place + c)).toNat = 0 by omega, ev_zero, ev_zero, Nat.mul_assoc, ← pow_split]
        congr 2; omega
      · rw [show (place - L).toNat = 0 by omega, Nat.pow_zero, Nat.mul_one, show (L - (place + c)).toNat = 0 by omega]
        have e : mag * 2 ^ c = mag * 2 ^ (place + c - L).toNat * 2 ^ (L - place).toNat := by
          rw [Nat.mul_assoc, ← pow_split]; congr 2; omega
        have := ev_scale (mag * 2 ^ (place + c - L).toNat) 0 (L - place).toNat
        rw [Nat.zero_add] at this
        rw [e, this]
    · rw [show (place - L).toNat = 0 by omega, show (place + c - L).toNat = 0 by omega, Nat.pow_zero, Nat.mul_one, Nat.mul_one]
      have := ev_scale mag (L - (place + c)).toNat c
      rw [← this]; congr 1; omega
theorem nearest_scale (f : Format) (s : Bool) (mag c : Nat) (place : Int) : f.nearest s (mag * 2 ^ c) place = f.nearest s mag (place + c) := by
  rw [nearest_nr, nearest_nr, nr_scale]
theorem cn_share {n : Int} (h0 : 0 ≤ n) (h1 : n ≤ 16777215) : fop .mul .f32 (cn .f32 (floatOfInt .f32 n)) (cn .f32 864026624) = fop .quo .f32 (cn .f32 (floatOfInt .f32 n)) (cn .f32 1266679808) := by
  rw [← floatBits_cn, ← floatBits_cn]
  have hr1 : FloatKind.f32.format.read 864026624 = .number false (2 ^ 23) (-47) := by decide
  have hr2 : FloatKind.f32.format.read 1266679808 = .number false (2 ^ 23) 1 := by decide
  have hx : fin .f32 (floatOfInt .f32 n) := by
    unfold fin floatOfInt FloatKind.nearest FloatKind.encode
    rw [(write_rg .f32 _ _ _).2]
    have h24 : (2 : Nat) ^ 24 = 16777216 := by decide
    have hle := nr_le FloatKind.f32.format n.natAbs 0 24 24 (by rw [h24]; omega) (by omega) (by decide)
    have hR : R FloatKind.f32.format 24 < FloatKind.f32.format.infRung := by decide
    omega
  obtain ⟨m, e, hr, _, _⟩ := read_fin hx
  have hm : m < 2 ^ 24 := by
    have hd := hr
    unfold Format.read at hd
    have hi : FloatKind.f32.format.infRung = 2139095040 := by decide
    have hb : FloatKind.f32.format.binade = 8388608 := by decide
    unfold fin rg at hx
    rw [hb, hi] at hd
    rw [hi] at hx
    dsimp only at hd
    split at hd
    · cases hd; omega
    · first
      | (rw [if_pos hx] at hd; cases hd; omega)
      | (cases hd; omega)
  unfold floatBits
  simp only [Format.mul, Format.div, hr, hr1, hr2, Datum.product, Datum.quotient, Option.map_some]
  rw [if_neg (by decide)]
  simp only [Option.map_some]
  congr 1
  show FloatKind.f32.format.nearest _ _ _ = FloatKind.f32.format.nearest _ _ _
  have hl : m.log2 ≤ 23 := by
    by_cases h : m = 0
    · rw [h]; decide
    · have := (Nat.log2_lt h).2 hm; omega
  have h23 : (2 ^ 23 : Nat).log2 = 23 := by decide
  have hfb : FloatKind.f32.format.fractionBits = 23 := rfl
  rw [h23, hfb, nearest_scale]
  generalize hmore : 23 + 2 + 23 - m.log2 = more
  have h25 : 25 ≤ more := by omega
  have e1 : m <<< more = m * 2 ^ (more - 23) * 2 ^ 23 := by
    rw [Nat.shiftLeft_eq, Nat.mul_assoc, ← pow_split]; congr 2; omega
  rw [e1, Nat.mul_div_cancel _ (by decide), Nat.mul_mod_left]
  have e2 : 2 * (m * 2 ^ (more - 23)) + (0 != 0 : Bool).toNat = m * 2 ^ (more - 22) := by
    have : 2 ^ (more - 22) = 2 ^ (more - 23) * 2 := by rw [show more - 22 = (more - 23) + 1 by omega, Nat.pow_succ]
    rw [this]; simp; rw [← Nat.mul_assoc, Nat.mul_comm 2 m, Nat.mul_assoc, Nat.mul_comm 2, ← Nat.mul_assoc]; 
  rw [e2, nearest_scale]
  congr 1
  omega
end Go.Proofs.Ytilbglcbhoiamaa
