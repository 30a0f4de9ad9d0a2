/-
  Bounds of sums, products, quotients and roots that are powers of two, for canonical forms.
-/
import Derived.Test.YtakaocddhaepmaaVal
namespace Go.Proofs.Ytakaocddhaepmaa
open Ieee

theorem m_of_le {L p e : Int} {m : Nat} (h1 : L ≤ e) (h : m * 2 ^ (e - L).toNat ≤ 2 ^ (p - L).toNat) (hp : L ≤ p) : m ≤ 2 ^ (p - e).toNat ∧ (p < e → m = 0) := by
  by_cases c : e ≤ p
  · have e1 : 2 ^ (p - L).toNat = 2 ^ (p - e).toNat * 2 ^ (e - L).toNat := by rw [← pow_split]; congr 1; omega
    rw [e1] at h
    exact ⟨Nat.le_of_mul_le_mul_right h (Nat.two_pow_pos _), fun h => absurd h (by omega)⟩
  · have h1 : 2 ^ (p - L).toNat < 2 ^ (e - L).toNat := Nat.pow_lt_pow_right (by decide) (by omega)
    have h2 : m = 0 := by
      cases m with
      | zero => rfl
      | succ m => rw [Nat.succ_mul] at h; omega
    exact ⟨by rw [h2]; exact Nat.zero_le _, fun _ => h2⟩
theorem m_of_ge {L p e : Int} {m : Nat} (h1 : L ≤ e) (hp : L ≤ p) (h : 2 ^ (p - L).toNat ≤ m * 2 ^ (e - L).toNat) : 2 ^ (p - e).toNat ≤ m := by
  by_cases c : e ≤ p
  · have e1 : 2 ^ (p - L).toNat = 2 ^ (p - e).toNat * 2 ^ (e - L).toNat := by rw [← pow_split]; congr 1; omega
    rw [e1] at h
    exact Nat.le_of_mul_le_mul_right h (Nat.two_pow_pos _)
  · rw [show (p - e).toNat = 0 by omega]
    have hpp := Nat.two_pow_pos (p - L).toNat
    cases m with
    | zero => omega
    | succ m => omega
def okP (k : FloatKind) (p : Int) : Prop := LP k + k.format.fractionBits ≤ p
theorem okP_lp {k : FloatKind} {p : Int} (h : okP k p) : LP k ≤ p := by unfold okP at h; omega
theorem write_nr_le (k : FloatKind) (neg : Bool) (mag : Nat) (place p : Int) (h : nr k.format mag place ≤ R k.format p) : rg k (k.format.write (.number neg mag place)) ≤ R k.format p := by
  rw [(write_rg k neg mag place).2]
  exact Nat.le_trans (Nat.min_le_left ..) h

theorem mul_fin {k : FloatKind} {x y : Nat} {p q : Int} (hx : fin k x) (hy : fin k y) (hp : okP k p) (hq : okP k q) (hpq : okP k (p + q)) (bx : rg k x ≤ R k.format p) (bY : rg k y ≤ R k.format q) :
    ∃ r, floatBits .mul k x y = some r ∧ rg k r ≤ R k.format (p + q) := by
  obtain ⟨m, i, hr, hi, hm⟩ := read_fin hx
  obtain ⟨n, j, hr', hj, hn⟩ := read_fin hy
  rw [rg_le_R hp, ← hm] at bx
  rw [rg_le_R hq, ← hn] at bY
  obtain ⟨m1, m2⟩ := m_of_le hi bx (okP_lp hp)
  obtain ⟨n1, n2⟩ := m_of_le hj bY (okP_lp hq)
  unfold floatBits
  simp only [Format.mul, hr, hr', Datum.product, Option.map_some]
  refine ⟨_, rfl, write_nr_le _ _ _ _ _ ?_⟩
  by_cases c : p < i ∨ q < j
  · have h0 : m * n = 0 := by
      rcases c with c | c
      · rw [m2 c, Nat.zero_mul]
      · rw [n2 c, Nat.mul_zero]
    rw [h0]; unfold nr; rw [if_pos rfl]; exact Nat.zero_le _
  · refine nr_le _ _ _ _ ((p - i).toNat + (q - j).toNat) ?_ (by omega) hpq
    rw [pow_split]
    exact Nat.mul_le_mul m1 n1
theorem mul_fin_ge {k : FloatKind} {x y : Nat} {p q : Int} (hx : fin k x) (hy : fin k y) (hp : okP k p) (hq : okP k q) (hpq : okP k (p + q)) (hR : R k.format (p + q) ≤ k.format.infRung) (bx : R k.format p ≤ rg k x) (bY : R k.format q ≤ rg k y) :
    ∃ r, floatBits .mul k x y = some r ∧ R k.format (p + q) ≤ rg k r ∧ sg k r = (sg k x ^^ sg k y) := by
  obtain ⟨m, i, hr, hi, hm⟩ := read_fin hx
  obtain ⟨n, j, hr', hj, hn⟩ := read_fin hy
  rw [R_le_rg hp, ← hm] at bx
  rw [R_le_rg hq, ← hn] at bY
  have m1 := m_of_ge hi (okP_lp hp) bx
  have n1 := m_of_ge hj (okP_lp hq) bY
  unfold floatBits
  simp only [Format.mul, hr, hr', Datum.product, Option.map_some]
  refine ⟨_, rfl, ?_, (write_rg k _ _ _).1⟩
  rw [(write_rg k _ _ _).2]
  refine Nat.le_min.2 ⟨?_, hR⟩
  refine nr_ge _ _ _ _ ((p - i).toNat + (q - j).toNat) ?_ (by omega) hpq
  rw [pow_split]
  exact Nat.mul_le_mul m1 n1

/-- A quotient's digits. -/
theorem quot_le {m n a c more : Nat} (hm : m ≤ 2 ^ a) (hc : 2 ^ c ≤ n) (h : c ≤ a + more) : 2 * (m * 2 ^ more / n) + (m * 2 ^ more % n != 0).toNat ≤ 2 ^ (a + more - c + 1) := by
  have h1 : m * 2 ^ more ≤ 2 ^ (a + more) := by rw [pow_split]; exact Nat.mul_le_mul_right _ hm
  have h2 : 2 ^ (a + more) = 2 ^ (a + more - c) * 2 ^ c := by rw [← pow_split]; congr 1; omega
  have h3 : m * 2 ^ more / n ≤ 2 ^ (a + more - c) := by
    refine Nat.div_le_of_le_mul (Nat.le_trans h1 ?_)
    rw [h2, Nat.mul_comm n]
    exact Nat.mul_le_mul_left _ hc
  have h4 : 2 ^ (a + more - c + 1) = 2 * 2 ^ (a + more - c) := by rw [Nat.pow_succ, Nat.mul_comm]
  rw [h4]
  by_cases h5 : m * 2 ^ more / n = 2 ^ (a + more - c)
  · have h6 := Nat.div_add_mod (m * 2 ^ more) n
    have h7 : m * 2 ^ more % n = 0 := by
      have h8 : 2 ^ (a + more - c) * 2 ^ c ≤ n * (m * 2 ^ more / n) := by
        rw [h5, Nat.mul_comm n]; exact Nat.mul_le_mul_left _ hc
      omega
    rw [h7, h5]; simp
  · have : (m * 2 ^ more % n != 0).toNat ≤ 1 := by cases (m * 2 ^ more % n != 0) <;> simp
    omega
theorem quot_ge {m n a c more : Nat} (hn : 0 < n) (hm : 2 ^ a ≤ m) (hc : n ≤ 2 ^ c) (h : c ≤ a + more) : 2 ^ (a + more - c + 1) ≤ 2 * (m * 2 ^ more / n) + (m * 2 ^ more % n != 0).toNat := by
  have h1 : 2 ^ (a + more) ≤ m * 2 ^ more := by rw [pow_split]; exact Nat.mul_le_mul_right _ hm
  have h2 : 2 ^ (a + more) = 2 ^ (a + more - c) * 2 ^ c := by rw [← pow_split]; congr 1; omega
  have h3 : 2 ^ (a + more - c) ≤ m * 2 ^ more / n := by
    refine (Nat.le_div_iff_mul_le hn).2 (Nat.le_trans (Nat.mul_le_mul_left _ hc) ?_)
    rw [← h2]; exact h1
  have h4 : 2 ^ (a + more - c + 1) = 2 * 2 ^ (a + more - c) := by rw [Nat.pow_succ, Nat.mul_comm]
  rw [h4]; omega
theorem div_fin {k : FloatKind} {x y : Nat} {p q : Int} (hx : fin k x) (hy : fin k y) (hp : okP k p) (hq : okP k q) (hpq : okP k (p - q)) (bx : rg k x ≤ R k.format p) (bY : R k.format q ≤ rg k y) :
    ∃ r, floatBits .quo k x y = some r ∧ rg k r ≤ R k.format (p - q) := by
  obtain ⟨m, i, hr, hi, hm⟩ := read_fin hx
  obtain ⟨n, j, hr', hj, hn⟩ := read_fin hy
  rw [rg_le_R hp, ← hm] at bx
  rw [R_le_rg hq, ← hn] at bY
  obtain ⟨m1, m2⟩ := m_of_le hi bx (okP_lp hp)
  have n1 := m_of_ge hj (okP_lp hq) bY
  have hn0 : 0 < n := Nat.lt_of_lt_of_le (Nat.two_pow_pos _) n1
  unfold floatBits
  simp only [Format.div, hr, hr', Datum.quotient]
  rw [if_neg (by omega)]
  refine ⟨_, rfl, write_nr_le _ _ _ _ _ ?_⟩
  rw [Nat.shiftLeft_eq]
  by_cases c : p < i
  · have h0 : m = 0 := m2 c
    rw [h0]; simp; unfold nr; rw [if_pos rfl]; exact Nat.zero_le _
  · have hl1 : (q - j).toNat ≤ n.log2 := (Nat.le_log2 (by omega)).2 n1
    have hl2 : m.log2 ≤ (p - i).toNat := by
      by_cases hm0 : m = 0
      · rw [hm0]; simp
      · have h1 : 2 ^ m.log2 ≤ m := Nat.log2_self_le hm0
        exact (Nat.pow_le_pow_iff_right (by decide)).1 (Nat.le_trans h1 m1)
    generalize hmore : k.format.fractionBits + 2 + n.log2 - m.log2 = more
    have hca : (q - j).toNat ≤ (p - i).toNat + more := by omega
    refine nr_le _ _ _ _ ((p - i).toNat + more - (q - j).toNat + 1) (quot_le m1 n1 hca) ?_ hpq
    omega
theorem div_fin_ge {k : FloatKind} {x y : Nat} {p q : Int} (hx : fin k x) (hy : fin k y) (hp : okP k p) (hq : okP k q) (hpq : okP k (p - q)) (hR : R k.format (p - q) ≤ k.format.infRung) (hy0 : 0 < rg k y) (bx : R k.format p ≤ rg k x) (bY : rg k y ≤ R k.format q) :
    ∃ r, floatBits .quo k x y = some r ∧ R k.format (p - q) ≤ rg k r ∧ sg k r = (sg k x ^^ sg k y) := by
  obtain ⟨m, i, hr, hi, hm⟩ := read_fin hx
  obtain ⟨n, j, hr', hj, hn⟩ := read_fin hy
  have hn0 : n ≠ 0 := by
    intro h
    rw [h, Nat.zero_mul] at hn
    have h1 := mg_lt k.format hy0
    rw [mg_zero] at h1
    unfold sz at hn
    omega
  rw [R_le_rg hp, ← hm] at bx
  rw [rg_le_R hq, ← hn] at bY
  have m1 := m_of_ge hi (okP_lp hp) bx
  obtain ⟨n1, n2⟩ := m_of_le hj bY (okP_lp hq)
  have hm0 : m ≠ 0 := by have := Nat.two_pow_pos (p - i).toNat; omega
  unfold floatBits
  simp only [Format.div, hr, hr', Datum.quotient]
  rw [if_neg hn0]
  refine ⟨_, rfl, ?_, (write_rg k _ _ _).1⟩
  rw [(write_rg k _ _ _).2]
  refine Nat.le_min.2 ⟨?_, hR⟩
  rw [Nat.shiftLeft_eq]
  have hqj : j ≤ q := by
    by_cases c : q < j
    · exact absurd (n2 c) hn0
    · omega
  have hl1 : n.log2 ≤ (q - j).toNat := by
    have h1 : 2 ^ n.log2 ≤ n := Nat.log2_self_le hn0
    exact (Nat.pow_le_pow_iff_right (by decide)).1 (Nat.le_trans h1 n1)
  have hL1 : m < 2 ^ (m.log2 + 1) := Nat.lt_log2_self
  have hl2 : (p - i).toNat ≤ m.log2 := (Nat.le_log2 hm0).2 m1
  generalize hmore : k.format.fractionBits + 2 + n.log2 - m.log2 = more
  by_cases hca : (q - j).toNat ≤ m.log2 + more
  · refine nr_ge _ _ _ _ (m.log2 + more - (q - j).toNat + 1) (quot_ge (by omega) (Nat.log2_self_le hm0) n1 hca) ?_ hpq
    omega
  · have hL3 : n < 2 ^ (n.log2 + 1) := Nat.lt_log2_self
    refine nr_ge _ _ _ _ (m.log2 + more - (n.log2 + 1) + 1) (quot_ge (by omega) (Nat.log2_self_le hm0) (Nat.le_of_lt hL3) (by omega)) ?_ hpq
    omega
end Go.Proofs.Ytakaocddhaepmaa
