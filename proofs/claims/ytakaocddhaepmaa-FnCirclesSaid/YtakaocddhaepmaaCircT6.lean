/-
  FnCircles: tenths of decibels: all numbers that are asked.
-/
import Derived.Test.YtakaocddhaepmaaCircT5
namespace Go.Proofs.Ytakaocddhaepmaa
open Ieee Go.RowKit

theorem chkJ {j : Nat} (h : j < 20000) : chkL 16 (2 * j + 1) = true := by
  have key : ∀ a n, chkO a n = true → a ≤ j → j < a + n → chkL 16 (2 * j + 1) = true := by
    intro a n ha h1 h2
    unfold chkO at ha
    have := List.all_eq_true.1 ha (j - a) (List.mem_range.2 (by omega))
    rwa [show a + (j - a) = j by omega] at this
  by_cases h0 : j < 102
  · exact key 0 102 chkO_0 (by omega) (by omega)
  by_cases h102 : j < 254
  · exact key 102 152 chkO_102 (by omega) (by omega)
  by_cases h254 : j < 418
  · exact key 254 164 chkO_254 (by omega) (by omega)
  by_cases h418 : j < 592
  · exact key 418 174 chkO_418 (by omega) (by omega)
  by_cases h592 : j < 779
  · exact key 592 187 chkO_592 (by omega) (by omega)
  by_cases h779 : j < 981
  · exact key 779 202 chkO_779 (by omega) (by omega)
  by_cases h981 : j < 1190
  · exact key 981 209 chkO_981 (by omega) (by omega)
  by_cases h1190 : j < 1411
  · exact key 1190 221 chkO_1190 (by omega) (by omega)
  by_cases h1411 : j < 1639
  · exact key 1411 228 chkO_1411 (by omega) (by omega)
  by_cases h1639 : j < 1871
  · exact key 1639 232 chkO_1639 (by omega) (by omega)
  by_cases h1871 : j < 2117
  · exact key 1871 246 chkO_1871 (by omega) (by omega)
  by_cases h2117 : j < 2373
  · exact key 2117 256 chkO_2117 (by omega) (by omega)
  by_cases h2373 : j < 2627
  · exact key 2373 254 chkO_2373 (by omega) (by omega)
  by_cases h2627 : j < 2899
  · exact key 2627 272 chkO_2627 (by omega) (by omega)
  by_cases h2899 : j < 3182
  · exact key 2899 283 chkO_2899 (by omega) (by omega)
  by_cases h3182 : j < 3468
  · exact key 3182 286 chkO_3182 (by omega) (by omega)
  by_cases h3468 : j < 3767
  · exact key 3468 299 chkO_3468 (by omega) (by omega)
  by_cases h3767 : j < 4066
  · exact key 3767 299 chkO_3767 (by omega) (by omega)
  by_cases h4066 : j < 4386
  · exact key 4066 320 chkO_4066 (by omega) (by omega)
  by_cases h4386 : j < 4722
  · exact key 4386 336 chkO_4386 (by omega) (by omega)
  by_cases h4722 : j < 5063
  · exact key 4722 341 chkO_4722 (by omega) (by omega)
  by_cases h5063 : j < 5412
  · exact key 5063 349 chkO_5063 (by omega) (by omega)
  by_cases h5412 : j < 5769
  · exact key 5412 357 chkO_5412 (by omega) (by omega)
  by_cases h5769 : j < 6143
  · exact key 5769 374 chkO_5769 (by omega) (by omega)
  by_cases h6143 : j < 6533
  · exact key 6143 390 chkO_6143 (by omega) (by omega)
  by_cases h6533 : j < 6929
  · exact key 6533 396 chkO_6533 (by omega) (by omega)
  by_cases h6929 : j < 7365
  · exact key 6929 436 chkO_6929 (by omega) (by omega)
  by_cases h7365 : j < 7823
  · exact key 7365 458 chkO_7365 (by omega) (by omega)
  by_cases h7823 : j < 8303
  · exact key 7823 480 chkO_7823 (by omega) (by omega)
  by_cases h8303 : j < 8813
  · exact key 8303 510 chkO_8303 (by omega) (by omega)
  by_cases h8813 : j < 9361
  · exact key 8813 548 chkO_8813 (by omega) (by omega)
  by_cases h9361 : j < 9938
  · exact key 9361 577 chkO_9361 (by omega) (by omega)
  by_cases h9938 : j < 10566
  · exact key 9938 628 chkO_9938 (by omega) (by omega)
  by_cases h10566 : j < 11246
  · exact key 10566 680 chkO_10566 (by omega) (by omega)
  by_cases h11246 : j < 12013
  · exact key 11246 767 chkO_11246 (by omega) (by omega)
  by_cases h12013 : j < 12902
  · exact key 12013 889 chkO_12013 (by omega) (by omega)
  by_cases h12902 : j < 13895
  · exact key 12902 993 chkO_12902 (by omega) (by omega)
  by_cases h13895 : j < 15138
  · exact key 13895 1243 chkO_13895 (by omega) (by omega)
  by_cases h15138 : j < 16928
  · exact key 15138 1790 chkO_15138 (by omega) (by omega)
  by_cases h16928 : j < 20000
  · exact key 16928 3072 chkO_16928 (by omega) (by omega)
  omega
theorem chkK_all {k : Nat} (h0 : 0 < k) (hk : k ≤ 40000) (ht : TT k ≠ 0) : chkK k = true := by
  obtain ⟨j, t, e⟩ := odd_part k h0
  subst e
  have hp := Nat.two_pow_pos t
  have h1 : 2 ^ t ≤ 40000 := Nat.le_trans (Nat.le_mul_of_pos_left _ (by omega)) hk
  have h2 : 2 * j + 1 ≤ 40000 := Nat.le_trans (Nat.le_mul_of_pos_right _ hp) hk
  have h3 : t < 16 := by
    rcases Nat.lt_or_ge t 16 with h | h
    · exact h
    · have := Nat.pow_le_pow_right (show 0 < 2 by decide) h
      have e16 : (2 : Nat) ^ 16 = 65536 := by decide
      omega
  exact chkL_at 16 (2 * j + 1) t (chkJ (by omega)) h3 (by omega) hk ht
/-- The products. -/
def szS (b : Nat) : Nat := Nat.mul (Nat.add (nat_lit 8388608) (Nat.mod b (nat_lit 8388608))) (Nat.pow (nat_lit 2) (Nat.sub (Nat.div b (nat_lit 8388608)) (nat_lit 1)))
def chkU3 (p q r : Nat) (a b c : Nat) : Bool := and (and (Nat.ble (nat_lit 1) p) (and (Nat.ble (nat_lit 1) q) (Nat.ble (nat_lit 1) r)))
  (and (and (Nat.ble (Nat.add p q) (Nat.add r (nat_lit 183))) (Nat.ble (Nat.add r (nat_lit 181)) (Nat.add p q))) (Nat.beq (Nat.mul (szS a) (szS b)) (Nat.mul (szS c) (Nat.pow (nat_lit 2) (nat_lit 149)))))
def chkU (m n : Nat) : Bool := stB (TT (8 * m)) fun p => stB (TT (8 * n)) fun q => stB (TT (m * n)) fun r => stB (KB (8 * m)) fun a => stB (KB (8 * n)) fun b => stB (KB (m * n)) fun c => chkU3 p q r a b c
def chkUR (a n : Nat) : Bool := (List.range n).all fun i => (List.range 200).all fun j => chkU (a + i + 1) (j + 1)
def chkX (i : Nat) : Bool := (fop .quo .f32 (some (floatOfInt .f32 ((i : Int) + 1))) (some 1090519040) == some (KB (8 * (i + 1)))) && num32 (floatOfInt .f32 ((i : Int) + 1))
theorem chkX_all : ((List.range 200).all chkX) = true := by decide +kernel
theorem chkUR_0 : chkUR 0 50 = true := by decide +kernel
theorem chkUR_50 : chkUR 50 50 = true := by decide +kernel
theorem chkUR_100 : chkUR 100 50 = true := by decide +kernel
theorem chkUR_150 : chkUR 150 50 = true := by decide +kernel
theorem one_64 : KB 64 = 1065353216 ∧ TT 64 = 182 := by decide +kernel
end Go.Proofs.Ytakaocddhaepmaa
