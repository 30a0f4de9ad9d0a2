/-
  Decimal numerals in plain words: what the two readers of a numeral make of it.
-/
import Derived.Lib.ItoaLen
import Derived.Lib.ParseIntB
namespace Go.Proofs.YtlbhmjkghdhlpaaDoor
open Go.Lib

/-- One more byte of a text: a digit counts, another byte is passed over. -/
def dstep (n : Int) (b : UInt8) : Int := if 48 ≤ b.toNat ∧ b.toNat ≤ 57 then 10 * n + ((b.toNat : Int) - 48) else n
def dacc (l : List UInt8) : Int := l.foldl dstep 0
/-- What the reference's reader makes of a text. -/
def specN (l : List UInt8) : Int := if l.head? = some 45 then -dacc l else dacc l
def isV (n : Int) : Bool := decide (-1000000000000000 ≤ n) && decide (n ≤ 1000000000000000)
/-- A text that is read. -/
def okD (l : List UInt8) : Bool := isV (specN l) && decide (itoa (specN l) = l)
def valD (l : List UInt8) : Int := if okD l then specN l else 0

theorem isV_iff (n : Int) : isV n = true ↔ -1000000000000000 ≤ n ∧ n ≤ 1000000000000000 := by unfold isV; simp
theorem digit_nat' (r : Nat) : (UInt8.ofNat (48 + r % 10)).toNat = 48 + r % 10 := by
  have : r % 10 < 10 := Nat.mod_lt _ (by decide)
  simp; omega
theorem digits_all : ∀ (u : Nat), ∀ b ∈ decDigits u, 48 ≤ b.toNat ∧ b.toNat ≤ 57 := by
  intro u
  induction u using Nat.strongRecOn with
  | ind u ih =>
    intro b hb
    rw [decDigits] at hb
    split at hb
    · rename_i h
      simp only [List.mem_singleton] at hb
      subst hb
      have := digit_nat' u
      rw [Nat.mod_eq_of_lt h] at this
      omega
    · rename_i h
      rw [List.mem_append, List.mem_singleton] at hb
      rcases hb with hb | rfl
      · exact ih (u / 10) (by omega) b hb
      · have := digit_nat' u
        omega
theorem dacc_digits : ∀ (u : Nat), (decDigits u).foldl dstep 0 = (u : Int) := by
  intro u
  induction u using Nat.strongRecOn with
  | ind u ih =>
    have hd := digit_nat' u
    rw [decDigits]
    split
    · rename_i h
      rw [Nat.mod_eq_of_lt h] at hd
      show dstep 0 _ = _
      unfold dstep
      rw [hd, if_pos (by omega)]
      omega
    · rename_i h
      rw [List.foldl_append, ih (u / 10) (by omega)]
      show dstep _ _ = _
      unfold dstep
      rw [hd, if_pos (by omega)]
      omega
theorem digits_ne (u : Nat) : ∃ b r, decDigits u = b :: r ∧ 48 ≤ b.toNat ∧ b.toNat ≤ 57 := by
  rcases h : decDigits u with _ | ⟨b, r⟩
  · rw [decDigits] at h
    split at h <;> simp at h
  · exact ⟨b, r, rfl, digits_all u b (by rw [h]; simp)⟩
theorem digits_len : ∀ (k u : Nat), 0 < k → u < 10 ^ k → (decDigits u).length ≤ k
  | 0, _, h, _ => absurd h (by decide)
  | k + 1, u, _, h => by
    rw [decDigits]
    split
    · simp
    · rename_i h10
      have hk : 0 < k := by
        rcases Nat.eq_zero_or_pos k with rfl | hk
        · rw [Nat.zero_add, Nat.pow_one] at h; exact absurd h h10
        · exact hk
      have := digits_len k (u / 10) hk (by rw [Nat.pow_succ] at h; omega)
      simp; omega
/-- The numeral of a number is read as this number. -/
theorem specN_itoa (v : Int) : specN (itoa v) = v := by
  unfold specN dacc itoa
  by_cases h : v < 0
  · rw [if_pos h]
    rw [if_pos (by rfl)]
    show -(List.foldl dstep (dstep 0 45) (decDigits v.natAbs)) = v
    have e : dstep 0 45 = 0 := by decide
    rw [e, dacc_digits]
    omega
  · rw [if_neg h]
    obtain ⟨b, r, hb, h1, h2⟩ := digits_ne v.toNat
    have hn : ¬ (decDigits v.toNat).head? = some 45 := by
      rw [hb]
      intro e
      injection e with e
      subst e
      revert h1; decide
    rw [if_neg hn, dacc_digits]
    omega
theorem itoa_len {v : Int} (h : isV v = true) : 1 ≤ (itoa v).length ∧ (itoa v).length ≤ 17 := by
  have hv := (isV_iff v).1 h
  unfold itoa
  have e16 : (10 : Nat) ^ 16 = 10000000000000000 := by decide
  have big : ∀ u : Nat, u ≤ 1000000000000000 → (decDigits u).length ≤ 16 := fun u hu => digits_len 16 u (by decide) (by rw [e16]; omega)
  split
  · rw [List.length_cons]
    have := big v.natAbs (by omega)
    omega
  · have := big v.toNat (by omega)
    obtain ⟨b, r, hb, _⟩ := digits_ne v.toNat
    rw [hb] at this ⊢
    simp at this ⊢
    omega
theorem okD_of {l : List UInt8} {v : Int} (hv : isV v = true) (h : itoa v = l) : okD l = true ∧ valD l = v := by
  subst h
  have h2 : okD (itoa v) = true := by unfold okD; rw [specN_itoa, hv]; simp
  exact ⟨h2, by unfold valD; rw [if_pos h2, specN_itoa]⟩
theorem of_okD {l : List UInt8} (h : okD l = true) : isV (specN l) = true ∧ itoa (specN l) = l ∧ valD l = specN l := by
  have h0 := h
  unfold okD at h
  rw [Bool.and_eq_true, decide_eq_true_eq] at h
  exact ⟨h.1, h.2, by unfold valD; rw [if_pos h0]⟩
theorem okD_len {l : List UInt8} (h : okD l = true) : 1 ≤ l.length ∧ l.length ≤ 17 := by
  obtain ⟨h1, h2, _⟩ := of_okD h
  rw [← h2]
  exact itoa_len h1
theorem valD_f {l : List UInt8} (h : okD l = false) : valD l = 0 := by unfold valD; rw [if_neg (by rw [h]; decide)]
theorem okD_no {l : List UInt8} {v : Int} (h : okD l = false) (hv : isV v = true) : decide (itoa v = l) = false := by
  refine decide_eq_false fun e => ?_
  rw [(okD_of hv e).1] at h
  cases h
/-- The library's reader on digits. -/
def uval (acc : Nat) (l : List UInt8) : Nat := l.foldl (fun n b => n * 10 + (b.toNat - 48)) acc
theorem uval_ge : ∀ (l : List UInt8) (acc : Nat), acc ≤ uval acc l
  | [], _ => Nat.le_refl _
  | b :: r, acc => Nat.le_trans (by omega) (uval_ge r (acc * 10 + (b.toNat - 48)))
theorem parse_digits (M : Nat) (hM : M ≤ 18446744073709551615) : ∀ (l : List UInt8) (acc : Nat), (∀ b ∈ l, 48 ≤ b.toNat ∧ b.toNat ≤ 57) → uval acc l ≤ M → parseUintM M acc l = .ok (uval acc l)
  | [], acc, _, _ => rfl
  | b :: r, acc, hl, hv => by
    have hb := hl b (by simp)
    have hge : acc * 10 + (b.toNat - 48) ≤ M := Nat.le_trans (uval_ge r _) hv
    unfold parseUintM
    rw [if_pos hb, if_neg (by omega), if_neg (by omega)]
    exact parse_digits M hM r _ (fun b' h' => hl b' (by simp [h'])) hv
theorem uval_digits : ∀ (u : Nat), uval 0 (decDigits u) = u := by
  intro u
  induction u using Nat.strongRecOn with
  | ind u ih =>
    have hd := digit_nat' u
    rw [decDigits]
    split
    · rename_i h
      rw [Nat.mod_eq_of_lt h] at hd
      show 0 * 10 + ((UInt8.ofNat (48 + u)).toNat - 48) = u
      rw [hd]; omega
    · rename_i h
      have e : uval 0 (decDigits (u / 10) ++ [UInt8.ofNat (48 + u % 10)]) = uval 0 (decDigits (u / 10)) * 10 + ((UInt8.ofNat (48 + u % 10)).toNat - 48) := by
        unfold uval; rw [List.foldl_append]; rfl
      rw [e, ih (u / 10) (by omega), hd]
      omega
theorem parse_u (u : Nat) (hu : u ≤ 1000000000000000) : parseUintB 64 (decDigits u) = .ok u := by
  obtain ⟨b, r, hb, _⟩ := digits_ne u
  unfold parseUintB
  rw [if_neg (by rw [hb]; simp), parse_digits _ (by decide) _ _ (digits_all u) (by rw [uval_digits]; exact Nat.le_trans hu (by decide)), uval_digits]
theorem parse_itoa {v : Int} (h : isV v = true) : parseIntB 64 (itoa v) = .ok v := by
  have hv := (isV_iff v).1 h
  have e63 : (2 : Nat) ^ (64 - 1) = 9223372036854775808 := by decide
  unfold itoa
  by_cases h0 : v < 0
  · rw [if_pos h0]
    unfold parseIntB
    simp only [show (45 : UInt8).toNat = 45 from rfl]
    rw [if_pos (Or.inr trivial), parse_u v.natAbs (by omega)]
    simp only [not_true_eq_false, false_and, if_false, true_and, if_true]
    rw [if_neg (by rw [e63]; omega)]
    congr 1; omega
  · rw [if_neg h0]
    obtain ⟨b, r, hb, h1, h2⟩ := digits_ne v.toNat
    have hp := parse_u v.toNat (by omega)
    rw [hb] at hp ⊢
    unfold parseIntB
    simp only []
    rw [if_neg (by omega), hp]
    have hne : ¬ b.toNat = 45 := by omega
    simp only [hne, not_false_eq_true, true_and, false_and, if_false]
    rw [if_neg (by rw [e63]; omega)]
    congr 1; omega
theorem parse_okD {l : List UInt8} (h : okD l = true) : parseIntB 64 l = .ok (specN l) := by
  obtain ⟨h1, h2, _⟩ := of_okD h
  have := parse_itoa h1
  rw [h2] at this
  exact this
/-- The loop of the reference's reader stays small. -/
theorem dacc_bound : ∀ (l : List UInt8) (n : Int) (k : Nat), 0 ≤ n → n < 10 ^ k → 0 ≤ l.foldl dstep n ∧ l.foldl dstep n < 10 ^ (k + l.length)
  | [], n, k, h0, h1 => ⟨h0, by simpa using h1⟩
  | b :: r, n, k, h0, h1 => by
    have hs : 0 ≤ dstep n b ∧ dstep n b < 10 ^ (k + 1) := by
      rw [Int.pow_succ]
      unfold dstep
      split <;> omega
    have := dacc_bound r (dstep n b) (k + 1) hs.1 hs.2
    rw [List.length_cons, show k + (r.length + 1) = k + 1 + r.length by omega]
    exact this
theorem dacc_snoc (l : List UInt8) (b : UInt8) : dacc (l ++ [b]) = dstep (dacc l) b := by unfold dacc; rw [List.foldl_append]; rfl
theorem dacc_small {l : List UInt8} (h : l.length ≤ 17) : 0 ≤ dacc l ∧ dacc l < 100000000000000000 := by
  have := dacc_bound l 0 0 (by decide) (by decide)
  refine ⟨this.1, Int.lt_of_lt_of_le this.2 ?_⟩
  have e : ((10 : Int) ^ (0 + l.length)) = ((10 ^ l.length : Nat) : Int) := by rw [Nat.zero_add]; simp
  rw [e]
  have := Nat.pow_le_pow_right (show 0 < 10 by decide) h
  have e2 : (10 : Nat) ^ 17 = 100000000000000000 := by decide
  omega
end Go.Proofs.YtlbhmjkghdhlpaaDoor
