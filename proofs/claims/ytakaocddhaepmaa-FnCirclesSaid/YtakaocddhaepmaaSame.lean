/-
  Contracts of SameNumber and FlushNumber and their twins.
-/
import Derived.Test.YtakaocddhaepmaaNum
import Derived.Test.YtakaocddhaepmaaFromB
namespace Go.Proofs.Ytakaocddhaepmaa
open Go.RowKit

theorem sg_up {a r : Nat} (ha : cn .f32 a = some a) (hr : cn .f64 r = cvF .f32 .f64 (some a)) : sg .f64 r = sg .f32 a := by
  have hle := cn_rg ha
  by_cases hf : rg .f32 a < FloatKind.f32.format.infRung
  · obtain ⟨r', hr', _, hs, _⟩ := up_fin hf
    rw [hr'] at hr
    rw [(cn_some hr).1]; exact hs
  · obtain ⟨r', hr', hs, _⟩ := up_inf (b := a) (by omega)
    rw [hr'] at hr
    rw [(cn_some hr).1]; exact hs
theorem sign_test {b : Nat} (h : b < 18446744073709551616) : decide (wrap64 (b : Int) < 0) = sg .f64 b := by
  unfold sg wrap64
  rw [D_sw]
  have h1 : b / 9223372036854775808 = 0 ∨ b / 9223372036854775808 = 1 := by omega
  rw [Bool.eq_iff_iff]
  simp only [decide_eq_true_eq, beq_iff_eq]
  omega
@[irreducible] def sameV (a b : Nat) : Bool := bitsV (cn .f32 a) == bitsV (cn .f32 b)
theorem nan_bits : cn .f32 2143289344 = none := cn_nan (by decide)
theorem bits_ne_nan {b : Nat} (h : cn .f32 b = some b) : bitsV (some b) ≠ bitsV none := by
  rw [bitsV_some, bitsV_none]
  intro e
  have : b = 2143289344 := by omega
  rw [this, nan_bits] at h; cases h
theorem key_bits {a b : Nat} (ha : a < 4294967296) (hb : b < 4294967296) : (decide (key .f32 a = key .f32 b) && (sg .f32 a == sg .f32 b)) = (bitsV (some a) == bitsV (some b)) := by
  rw [bitsV_some, bitsV_some, Bool.eq_iff_iff]
  simp only [Bool.and_eq_true, decide_eq_true_eq, beq_iff_eq]
  have h1 := word_split32 ha
  have h2 := word_split32 hb
  constructor
  · rintro ⟨h3, h4⟩
    unfold key at h3
    rw [h4] at h3 h1
    have h5 : (rg .f32 a : Int) = rg .f32 b := by
      cases hs : sg .f32 b <;> rw [hs] at h3 <;> simp at h3 <;> omega
    omega
  · intro h
    have : a = b := by omega
    rw [this]; exact ⟨rfl, rfl⟩
set_option maxHeartbeats 400000 in
theorem l01Same_any (a b : Nat) (w : World) (ha : a < 4294967296) (hb : b < 4294967296) :
    Calls Try.prog 31 #[.float .f32 a, .float .f32 b] w fun e w' => e = .returned (.bool (sameV a b)) ∧ w = w' := by
  go_enter Try.func31, Try.ntmps31
  go_wp2_with (go_at_call 40; refine (l01Bits_any _ _ (by assumption)).mono ?_; rintro e w' ⟨rfl, rfl⟩)
  go_ret
  exact ⟨retBool (by unfold sameV; rfl), rfl⟩
set_option maxHeartbeats 400000 in
theorem sSameNumber_any (a b : Nat) (w : World) (ha : a < 4294967296) (hb : b < 4294967296) :
    Calls Try.prog 16 #[.float .f32 a, .float .f32 b] w fun e w' => e = .returned (.bool (sameV a b)) ∧ w = w' := by
  go_enter Try.func16, Try.ntmps16
  go_wp2_with (go_at_call 31; refine (l01Same_any _ _ _ ha hb).mono ?_; rintro e w' ⟨rfl, rfl⟩)
  go_ret
  exact ⟨rfl, rfl⟩
end Go.Proofs.Ytakaocddhaepmaa
