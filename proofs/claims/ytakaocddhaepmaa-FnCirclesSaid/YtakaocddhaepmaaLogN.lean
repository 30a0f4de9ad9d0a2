/-
  Contracts of LogNumber and its twin.
-/
import Derived.Test.YtakaocddhaepmaaLog2
import Derived.Test.YtakaocddhaepmaaTurns
namespace Go.Proofs.Ytakaocddhaepmaa
open Go.RowKit

@[irreducible] def lgW (c : Option Nat) : Option Nat := match c with | none => none | some r => if rg .f64 r = 0 then some 18442240474082181120 else if sg .f64 r then none else if rg .f64 r = FloatKind.f64.format.infRung then some r else lgN (some r)
theorem lgW_none : lgW none = none := by unfold lgW; rfl
theorem lgW_zero {r : Nat} (h : rg .f64 r = 0) : lgW (some r) = some 18442240474082181120 := by unfold lgW; simp [h]
theorem lgW_neg {r : Nat} (h : 0 < rg .f64 r) (hs : sg .f64 r = true) : lgW (some r) = none := by
  have : ¬ rg .f64 r = 0 := by omega
  unfold lgW; simp [this, hs]
theorem lgW_inf {r : Nat} (h : rg .f64 r = FloatKind.f64.format.infRung) (hs : sg .f64 r = false) : lgW (some r) = some r := by
  have : ¬ rg .f64 r = 0 := by rw [h, D_inf]; omega
  unfold lgW; simp only [hs, h]; rw [h] at this; simp [this]
theorem lgW_fin {r : Nat} (h : 0 < rg .f64 r) (hf : rg .f64 r < FloatKind.f64.format.infRung) (hs : sg .f64 r = false) : lgW (some r) = lgN (some r) := by
  have h1 : ¬ rg .f64 r = 0 := by omega
  have h2 : ¬ rg .f64 r = FloatKind.f64.format.infRung := by omega
  unfold lgW; simp only [if_neg h1, if_neg h2, hs]; rfl
@[irreducible] def c277 : Nat := 277
theorem c277_eq : c277 = 277 := by unfold c277; rfl
/-- What float32 gives. -/
@[irreducible] def okL (c : Option Nat) : Prop := ∀ r, c = some r → rg .f64 r ≤ FloatKind.f64.format.infRung ∧ (sg .f64 r = false → 0 < rg .f64 r → rg .f64 r < FloatKind.f64.format.infRung → ps (some r) (-150) ∧ le2 (some r) 128)
theorem okL_none : okL none := by unfold okL; intro r h; cases h
theorem fits_lgW {c : Option Nat} (h : okL c) : fits .f64 .f32 (lgW c) := by
  cases c with
  | none => rw [lgW_none]; exact fits_down (le2_none _)
  | some r =>
    unfold okL at h
    obtain ⟨h1, h2⟩ := h r rfl
    by_cases h0 : rg .f64 r = 0
    · rw [lgW_zero h0]; exact fits_inf (s := true) (by rfl)
    · rcases hs : sg .f64 r
      · by_cases hi : rg .f64 r = FloatKind.f64.format.infRung
        · rw [lgW_inf hi hs]; exact fits_inf (read_inf .f64 r hi (binade_inf _))
        · rw [lgW_fin (by omega) (by omega) hs]
          obtain ⟨p1, p2⟩ := h2 hs (by omega) (by omega)
          exact fits_down (le2_mono (lgN_le p1 p2) (by omega))
      · rw [lgW_neg (by omega) hs]; exact fits_down (le2_none _)
theorem okL_up (b : Nat) : okL (cvF .f32 .f64 (cn .f32 b)) := by
  rcases cn_own .f32 b with ha | ha
  · rw [ha, cvF_none]; exact okL_none
  · rw [ha]
    have hle := cn_rg ha
    by_cases hf : rg .f32 b < FloatKind.f32.format.infRung
    · obtain ⟨r, hr, fr, hs, hz⟩ := up_fin (b := b) hf
      rw [hr]
      unfold okL
      intro r' e
      cases e
      refine ⟨Nat.le_of_lt fr, fun k1 k2 _ => ?_⟩
      have hz0 : sz .f64 r ≠ 0 := by
        intro h0
        have : rg .f64 r = 0 := (mg_eq_iff FloatKind.f64.format (rg .f64 r) 0).1 (by rw [mg_zero]; exact h0)
        omega
      have hb0 : 1 ≤ sz .f32 b := by
        rcases Nat.eq_zero_or_pos (sz .f32 b) with h | h
        · rw [hz, h, Nat.zero_mul] at hz0; exact absurd rfl hz0
        · exact h
      have ip : inP (-149) := inP_of' (by omega) (by omega)
      have iq : inP 128 := inP_of' (by omega) (by omega)
      constructor
      · refine ps_mono (p := -149) ?_ (by omega)
        unfold ps
        refine ⟨r, rfl, k1, ?_⟩
        rw [sz_ge ip, hz, show ((-149 : Int) + 1074).toNat = c925 by rw [c925_eq]; decide]
        exact Nat.le_mul_of_pos_left _ hb0
      · rw [le2_some, sz_le iq, hz]
        have h3 : rg .f32 b ≤ R FloatKind.f32.format 128 := by
          have : R FloatKind.f32.format 128 = FloatKind.f32.format.infRung := by decide
          rw [this]; exact hle
        rw [rg_le_R (by unfold LP; rw [S_lp, S_fb]; omega)] at h3
        have e1 : ((128 : Int) - LP .f32).toNat = c277 := by unfold LP; rw [S_lp, c277_eq]; decide
        rw [e1] at h3
        have e2 : ((128 : Int) + 1074).toNat = c277 + c925 := by rw [c925_eq, c277_eq]; decide
        rw [e2, pow_split]
        exact Nat.mul_le_mul_right _ h3
    · obtain ⟨r, hr, _, hi⟩ := up_inf (b := b) (by omega)
      rw [hr]
      unfold okL
      intro r' e
      cases e
      exact ⟨Nat.le_of_eq hi, fun _ _ h => absurd h (by omega)⟩
@[irreducible] def logT (x : Option Nat) : Option Nat := cvF .f64 .f32 (lgW (cvF .f32 .f64 x))
theorem up_word {b : Nat} (ha : cn .f32 b = some b) : ∃ r, cvF .f32 .f64 (some b) = some r ∧ sg .f64 r = sg .f32 b ∧ (rg .f64 r = 0 ↔ rg .f32 b = 0) := by
  have hle := cn_rg ha
  by_cases hf : rg .f32 b < FloatKind.f32.format.infRung
  · obtain ⟨r, hr, fr, hs, hz⟩ := up_fin (b := b) hf
    refine ⟨r, hr, hs, ?_⟩
    have e1 : rg .f64 r = 0 ↔ sz .f64 r = 0 := by
      have := mg_eq_iff FloatKind.f64.format (rg .f64 r) 0
      rw [mg_zero] at this
      exact this.symm
    have e2 : rg .f32 b = 0 ↔ sz .f32 b = 0 := by
      have := mg_eq_iff FloatKind.f32.format (rg .f32 b) 0
      rw [mg_zero] at this
      exact this.symm
    rw [e1, e2, hz, Nat.mul_eq_zero]
    have := Nat.two_pow_pos c925
    omega
  · obtain ⟨r, hr, hs, hi⟩ := up_inf (b := b) (by omega)
    refine ⟨r, hr, hs, ?_⟩
    rw [hi, D_inf]
    rw [S_inf] at hf
    omega
theorem logT_none : logT none = none := by unfold logT; rw [cvF_none, lgW_none, cvF_none]
theorem logT_zero {b : Nat} (ha : cn .f32 b = some b) (h : rg .f32 b = 0) : logT (some b) = cvF .f64 .f32 (some 18442240474082181120) := by
  obtain ⟨r, hr, _, hz⟩ := up_word ha
  unfold logT
  rw [hr, lgW_zero (hz.2 h)]
theorem logT_neg {b : Nat} (ha : cn .f32 b = some b) (h : 0 < rg .f32 b) (hs : sg .f32 b = true) : logT (some b) = none := by
  obtain ⟨r, hr, hs2, hz⟩ := up_word ha
  unfold logT
  rw [hr, lgW_neg (by have : ¬ rg .f64 r = 0 := fun e => by have := hz.1 e; omega
                      omega) (by rw [hs2]; exact hs), cvF_none]
theorem logT_inf {b : Nat} (hb : b < 4294967296) (h : rg .f32 b = FloatKind.f32.format.infRung) (hs : sg .f32 b = false) : logT (some b) = some b := by
  have hw := word_split32 hb
  rw [hs, h, S_inf] at hw
  have hb2 : b = 2139095040 := by simpa using hw
  subst hb2
  have h1 : cvF .f32 .f64 (some 2139095040) = some 9218868437227405312 := by rw [cvF_some]; decide
  have h2 : cvF .f64 .f32 (some 9218868437227405312) = some 2139095040 := by rw [cvF_some]; decide
  unfold logT
  rw [h1, lgW_inf (by decide) (by decide), h2]
theorem fits_ninf : fits .f64 .f32 (some 18442240474082181120) := fits_inf (s := true) (by rfl)
end Go.Proofs.Ytakaocddhaepmaa
