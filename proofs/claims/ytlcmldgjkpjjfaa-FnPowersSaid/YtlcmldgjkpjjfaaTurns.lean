/-
  Contracts of SineTurns and its twin.
-/
import Derived.Test.YtlcmldgjkpjjfaaSine2
import Derived.Test.YtlcmldgjkpjjfaaRoot
namespace Go.Proofs.Ytlcmldgjkpjjfaa
open Go.RowKit

@[irreducible] def sinT (x : Option Nat) : Option Nat := cvF .f64 .f32 (siW (cvF .f32 .f64 x))
theorem isFin_up {b : Nat} : isFin .f64 (cvF .f32 .f64 (cn .f32 b)) = isFin .f32 (cn .f32 b) := by
  rcases cn_own .f32 b with ha | ha
  · rw [ha, cvF_none, isFin_none, isFin_none]
  · rw [ha, isFin_some ha]
    have hle := cn_rg ha
    by_cases h : rg .f32 b < FloatKind.f32.format.infRung
    · obtain ⟨r, hr, hf, _⟩ := up_fin h
      rw [hr, isFin_some (cn_of_rg _ _ (Nat.le_of_lt hf))]
      unfold fin at hf
      simp [h, hf]
    · obtain ⟨r, hr, _, hi⟩ := up_inf (b := b) (by omega)
      rw [hr, isFin_some (cn_of_rg _ _ (Nat.le_of_eq hi))]
      simp [h, hi]
theorem sinT_inf {b : Nat} (h : isFin .f32 (cn .f32 b) = false) : sinT (cn .f32 b) = none := by
  rw [← isFin_up] at h
  unfold sinT
  cases hc : cvF .f32 .f64 (cn .f32 b) with
  | none => rw [siW_none, cvF_none]
  | some r => rw [hc] at h; rw [siW_inf h, cvF_none]
theorem fin_of_isFin {b : Nat} (ha : cn .f64 b = some b) (h : isFin .f64 (some b) = true) : fin .f64 b := by
  rw [isFin_some ha] at h
  unfold fin
  simpa using h
theorem up_of_isFin {b : Nat} (h : isFin .f32 (cn .f32 b) = true) : ∃ r, cvF .f32 .f64 (cn .f32 b) = some r ∧ fin .f64 r := by
  rcases cn_own .f32 b with ha | ha
  · rw [ha, isFin_none] at h; cases h
  · rw [ha] at h ⊢
    rw [isFin_some ha] at h
    obtain ⟨r, hr, hf, _⟩ := up_fin (b := b) (by unfold fin; simpa using h)
    exact ⟨r, hr, hf⟩
theorem cv_zero : cvF .f64 .f32 (some 0) = some 0 := by rw [cvF_some]; decide
set_option maxHeartbeats 1000000 in
theorem SineTurns_any (b : Nat) (w : World) : Calls Try.prog 14 #[.float .f32 b] w fun e w' => ∃ r n, e = .returned (.float .f32 r) ∧ w' = w.drewN n ∧ cn .f32 r = sinT (cn .f32 b) := by
  have ho := fun a b => order_cn .f64 a b
  have hab := fun b => cn_abs b
  have c6 := c52
  have c0 : cn .f32 0 = some 0 := cn_num (by decide)
  rcases hc : isFin .f32 (cn .f32 b)
  · have HS := Lib.hid (sinT_inf hc)
    go_enter Try.func14, Try.ntmps14
    go_wp2_with (first
      | (go_at_call 30; refine (IsFinite_any _ _).mono ?_; rintro e w' ⟨n, rfl, rfl⟩)
      | (go_at_call 31; refine (NaN_any _).mono ?_; rintro e w' ⟨rfl, rfl⟩)
      | (refine wpList_down rfl _ _ _ rfl _ rfl Try.underlying25 Try.underlying22 (by rw [c_nan]; exact fits_down (le2_none _)) ?_; intro r n hr hrb))
    go_ret
    exact ⟨_, _, rfl, rfl, by rw [HS.out]; rw [c_nan, cvF_none] at *; assumption⟩
  · obtain ⟨r, hr, hf⟩ := up_of_isFin hc
    have hrr : cn .f64 r = some r := cn_of_rg _ _ (Nat.le_of_lt hf)
    have hfi : isFin .f64 (some r) = true := by rw [← hr, isFin_up, hc]
    have HB := Lib.hid (big_abs (r := r) (Nat.le_of_lt hf))
    have HU := Lib.hid hr
    clear hr
    rcases hB : big52 r
    · obtain ⟨hs, _⟩ := small_of hB
      have HF := Lib.hid hf
      have HS := Lib.hid hs
      have HL := Lib.hid (sinF_le (fracC_le hf hs))
      have HR : Hid (sinT (cn .f32 b) = cvF .f64 .f32 (sinF (fracC r))) := Lib.hid (by unfold sinT; rw [HU.out, siW_fin hfi hB])
      have hB2 := HB.out
      rw [hB] at hB2
      clear hB hs hf hfi
      go_enter Try.func14, Try.ntmps14
      go_wp2_with (first
        | (go_at_call 30; refine (IsFinite_any _ _).mono ?_; rintro e w' ⟨n, rfl, rfl⟩)
        | (go_at_call 32; refine (Abs_any _ _).mono ?_; rintro e w' ⟨rfl, rfl⟩)
        | (go_at_call 33; refine (sine_any _ _ HF.out HS.out).mono ?_; rintro e w' ⟨q, n, rfl, rfl, hq, hqb⟩)
        | (refine wpList_up rfl _ _ _ rfl _ rfl Try.underlying22 Try.underlying25 ?_; intro r1 n hr1 hrb1; rw [HU.out] at hr1; obtain rfl := (cn_some hr1).1)
        | (refine wpList_down rfl _ _ _ rfl _ rfl Try.underlying25 Try.underlying22 (by rw [hq]; exact fits_down HL.out) ?_; intro r n hr hrb))
      go_ret
      exact ⟨_, _, rfl, rfl, by rw [HR.out, ← hq]; assumption⟩
    · have HR : Hid (sinT (cn .f32 b) = some 0) := Lib.hid (by unfold sinT; rw [HU.out, siW_big hfi hB]; exact cv_zero)
      have hB2 := HB.out
      rw [hB] at hB2
      clear hB hf hfi
      go_enter Try.func14, Try.ntmps14
      go_wp2_with (first
        | (go_at_call 30; refine (IsFinite_any _ _).mono ?_; rintro e w' ⟨n, rfl, rfl⟩)
        | (go_at_call 32; refine (Abs_any _ _).mono ?_; rintro e w' ⟨rfl, rfl⟩)
        | (refine wpList_up rfl _ _ _ rfl _ rfl Try.underlying22 Try.underlying25 ?_; intro r1 n hr1 hrb1; rw [HU.out] at hr1; obtain rfl := (cn_some hr1).1))
      go_ret
      exact ⟨_, _, rfl, rfl, by rw [HR.out]; exact c0⟩
set_option maxHeartbeats 400000 in
theorem l01Sine_any (b : Nat) (w : World) : Calls Try.prog 29 #[.float .f32 b] w fun e w' => ∃ r n, e = .returned (.float .f32 r) ∧ w' = w.drewN n ∧ cn .f32 r = sinT (cn .f32 b) := by
  go_enter Try.func29, Try.ntmps29
  go_wp2_with (first
    | (refine wpList_up rfl _ _ _ rfl _ rfl Try.underlying22 Try.underlying25 ?_; intro r n hr hrb)
    | (go_at_call 47; refine (l01SineWide_any _ _).mono ?_; rintro e w' ⟨q, n, rfl, rfl, hq, hqb⟩)
    | (go_at_call 44; refine (l01Narrow_any _ _ (by rw [hq]; exact fits_down (siW_le _))).mono ?_; rintro e w' ⟨r3, n3, rfl, rfl, hr3⟩))
  go_ret
  exact ⟨_, _, rfl, rfl, by unfold sinT; simp only [*]⟩
set_option maxHeartbeats 400000 in
theorem sSineTurns_any (b : Nat) (w : World) : Calls Try.prog 13 #[.float .f32 b] w fun e w' => ∃ r n, e = .returned (.float .f32 r) ∧ w' = w.drewN n ∧ cn .f32 r = sinT (cn .f32 b) := by
  go_enter Try.func13, Try.ntmps13
  go_wp2_with (go_at_call 29; refine (l01Sine_any _ _).mono ?_; rintro e w' ⟨q, n, rfl, rfl, hq⟩)
  go_ret
  exact ⟨_, _, rfl, rfl, hq⟩
end Go.Proofs.Ytlcmldgjkpjjfaa
