/-
  Contracts of SineTurns and its twin.
-/
import Derived.Test.YtakaocddhaepmaaSine2
import Derived.Test.YtakaocddhaepmaaRoot
namespace Go.Proofs.Ytakaocddhaepmaa
open Go.RowKit

@[irreducible] def sinT (x : Option Nat) : Option Nat := cvF .f64 .f32 (siW (cvF .f32 .f64 x))
theorem isFin_up {b : Nat} : isFin .f64 (cvF .f32 .f64 (cn .f32 b)) = isFin .f32 (cn .f32 b) := by
  rcases cn_own .f32 b with ha | ha
  · rw [ha, cvF_none, isFin_none, isFin_none]
  · rw [ha, isFin_some ha]
    have hle := cn_rg ha
    by_cases h : rg .f32 b < FloatKind.f32.format.infRung
    · obtain ⟨r, hr, hf, _⟩ := up_fin h
      rw [hr, isFin_some (cn_of_rg _ _ (Nat.le_of_lt hf))]
      unfold fin at hf
      simp [h, hf]
    · obtain ⟨r, hr, _, hi⟩ := up_inf (b := b) (by omega)
      rw [hr, isFin_some (cn_of_rg _ _ (Nat.le_of_eq hi))]
      simp [h, hi]
theorem sinT_inf {b : Nat} (h : isFin .f32 (cn .f32 b) = false) : sinT (cn .f32 b) = none := by
  rw [← isFin_up] at h
  unfold sinT
  cases hc : cvF .f32 .f64 (cn .f32 b) with
  | none => rw [siW_none, cvF_none]
  | some r => rw [hc] at h; rw [siW_inf h, cvF_none]
theorem fin_of_isFin {b : Nat} (ha : cn .f64 b = some b) (h : isFin .f64 (some b) = true) : fin .f64 b := by
  rw [isFin_some ha] at h
  unfold fin
  simpa using h
theorem up_of_isFin {b : Nat} (h : isFin .f32 (cn .f32 b) = true) : ∃ r, cvF .f32 .f64 (cn .f32 b) = some r ∧ fin .f64 r := by
  rcases cn_own .f32 b with ha | ha
  · rw [ha, isFin_none] at h; cases h
  · rw [ha] at h ⊢
    rw [isFin_some ha] at h
    obtain ⟨r, hr, hf, _⟩ := up_fin (b := b) (by unfold fin; simpa using h)
    exact ⟨r, hr, hf⟩
theorem cv_zero : cvF .f64 .f32 (some 0) = some 0 := by rw [cvF_some]; decide
end Go.Proofs.Ytakaocddhaepmaa
