/-
  The walk of the reference's l01SineWide; the sine of any number.
-/
import Derived.Test.YtakaocddhaepmaaSine
import Derived.Test.YtakaocddhaepmaaFlo
import Derived.Deep.Cut
namespace Go.Proofs.Ytakaocddhaepmaa
open Go.RowKit

@[irreducible] def siW (c : Option Nat) : Option Nat := match c with | none => none | some b => if isFin .f64 (some b) then (if big52 b then some 0 else sinF (fracC b)) else none
theorem siW_none : siW none = none := by unfold siW; rfl
theorem siW_inf {b : Nat} (h : isFin .f64 (some b) = false) : siW (some b) = none := by unfold siW; simp [h]
theorem siW_big {b : Nat} (h : isFin .f64 (some b) = true) (h2 : big52 b = true) : siW (some b) = some 0 := by unfold siW; simp [h, h2]
theorem siW_fin {b : Nat} (h : isFin .f64 (some b) = true) (h2 : big52 b = false) : siW (some b) = sinF (fracC b) := by unfold siW; simp [h, h2]
theorem siW_le (c : Option Nat) : le2 (siW c) 127 := by
  cases c with
  | none => rw [siW_none]; exact le2_none _
  | some b =>
    rcases h : isFin .f64 (some b)
    · rw [siW_inf h]; exact le2_none _
    · rcases h2 : big52 b
      · rw [siW_fin h h2]
        obtain ⟨h3, h4⟩ := small_of h2
        exact sinF_le (fracC_le h4 h3)
      · rw [siW_big h h2, le2_some]; decide
set_option maxHeartbeats 400000 in
theorem NaN_any (w : World) : Calls Try.prog 19 #[] w fun e w' => e = .returned (.float .f64 9221120237041090561) ∧ w = w' := by
  have h2 := call_f64from
  go_enter Try.func19, Try.ntmps19
  go_wp2
  go_ret
  exact ⟨rfl, rfl⟩
theorem c_nan : cn .f64 9221120237041090561 = none := cn_nan (by decide)
theorem c_zero : cn .f64 0 = some 0 := cn_num (by decide)
theorem sine_wrap : ∀ j : Fin 8, wrap64 (2 * (8 - (j.val : Int)) * (2 * (8 - (j.val : Int)) + 1)) = 2 * (8 - (j.val : Int)) * (2 * (8 - (j.val : Int)) + 1) := by
  unfold wrap64; decide
set_option maxHeartbeats 8000000 in
theorem l01SineWide_fin (b : Nat) (w : World) (hF0 : isFin .f64 (some b) = true) (hB0 : big52 b = false) : Calls Try.prog 33 #[.float .f64 b] w fun e w' => ∃ r n, e = .returned (.float .f64 r) ∧ w' = w.drewN n ∧ cn .f64 r = sinF (fracC b) ∧ r < 2 ^ FloatKind.f64.format.width := by
  obtain ⟨h, hf⟩ := small_of hB0
  have ho := fun a b => order_cn .f64 a b
  have c0 := c_zero
  have c1 := c_one
  have c2 := c_half
  have c3 := c_quarter
  have c4 := c_two
  have c5 := c_turn
  have c6 := c52
  have c7 := cm52
  have hb : cn .f64 b = some b := cn_of_rg _ _ (Nat.le_of_lt hf)
  have hA : fop .sub .f64 (some b) (cn .f64 (floatOfInt .f64 (trunc b))) = fracA b := by unfold fracA; rfl
  have r3 := fun w => run_convert_float_int (P := Try.prog) w 22 2 .f64 .i64 _ _ (by rw [Try.underlying22]; rfl) Try.underlying2 (frac_int hf h)
  have hF1 : (ford .f64 (fop .sub .f64 (some b) (some b)) (some 0) != some Ordering.eq) = false := by unfold isFin at hF0; rw [bne, hF0]; rfl
  have hB1 := big_two (r := b) (Nat.le_of_lt hf)
  rw [hB0, Bool.or_eq_false_iff] at hB1
  obtain ⟨hB2, hB3⟩ := hB1
  have HC : Hid (fracC b = if fracN b then fop .add .f64 (fracA b) (some 4607182418800017408) else fracA b) := Lib.hid (by unfold fracC; rfl)
  clear h hf hF0 hB0
  rcases hN : fracN b
  all_goals
    have hN2 : (ford .f64 (fracA b) (some 0) == some Ordering.lt) = fracN b := by unfold fracN; rfl
    rw [hN] at hN2
    have hC : fracC b = _ := HC.out
    rw [hN] at hC
    try rw [if_pos rfl] at hC
    try rw [if_neg Bool.false_ne_true] at hC
    clear hN
    generalize hFF : fracC b = F at hC ⊢
    clear hFF HC
    have HZ : Hid (sZ F = fop .mul .f64 (sF2 F) (some 4618760256179416344)) := Lib.hid (by unfold sZ; rfl)
    have HU : Hid (sU F = fop .mul .f64 (sZ F) (sZ F)) := Lib.hid (by unfold sU; rfl)
    have HR : Hid (sR F = fop .mul .f64 (sZ F) (pN (sU F) 8)) := Lib.hid (by unfold sR; rfl)
    have hT2 : (ford .f64 F (some 4602678819172646912) == some Ordering.gt || ford .f64 F (some 4602678819172646912) == some Ordering.eq) = sT F := by unfold sT; rfl
    have hC' := hC.symm
    clear hC
    try rw [hC'] at hN2
    rcases hT : sT F
    all_goals
      rw [hT] at hT2
      have HS : Hid (sinF F = if sT F then fneg (sR F) else sR F) := Lib.hid (by unfold sinF; rfl)
      have HF1 : Hid (sF1 F = if sT F then fop .sub .f64 F (some 4602678819172646912) else F) := Lib.hid (by unfold sF1; rfl)
      have hG2 : (ford .f64 (sF1 F) (some 4598175219545276416) == some Ordering.gt) = sG F := by unfold sG; rfl
      have HF2 : Hid (sF2 F = if sG F then fop .sub .f64 (some 4602678819172646912) (sF1 F) else sF1 F) := Lib.hid (by unfold sF2; rfl)
      rw [HF1.out, hT] at hG2
      try rw [if_pos rfl] at hG2
      try rw [if_neg Bool.false_ne_true] at hG2
      rcases hG : sG F
      all_goals
        rw [hG] at hG2
        go_enter Try.func33, Try.ntmps33
        go_wp2_with (refine wpList_fop rfl _ _ _ _ _ rfl (by decide) _ _ _ rfl rfl ?_; intro r n hr hrb)
        rename_i rz nz hrz hrbz _ _
        have hz : cn .f64 rz = sZ F := by rw [HZ.out, HF2.out, hG, HF1.out, hT]; simp only [*]; rfl
        have hU : cn .f64 r = sU F := by rw [HU.out, ← hz]; exact hr
        clear hr hrz hT2 hG2 hN2 hF1 hB2 hB3
        go_loopg [7, 8] 9 (fun g p k wr => ∃ (j pb m : Nat), g = 9 - j ∧ j ≤ 8 ∧ p = .float .f64 pb ∧ cn .f64 pb = pN (sU F) j ∧ k = .int .i64 (8 - (j : Int)) ∧ wr = w.drewN m)
        case atStart => exact ⟨0, _, _, rfl, by omega, rfl, c1, rfl, rfl⟩
        case round =>
          obtain ⟨j, pb, m, hg, hj, rfl, hp, rfl, rfl⟩ := hrel
          by_cases hlt : j < 8
          · obtain ⟨_, _, _, _, _, q6, _, q8⟩ := sine_consts ⟨j, hlt⟩
            have q10 := sine_wrap ⟨j, hlt⟩
            dsimp only at q6 q8 q10
            have q9 := cn_of_rg .f64 _ (Nat.le_of_lt q8)
            have HP : Hid (pN (sU F) (j + 1) = fop .sub .f64 (some 4607182418800017408) (fop .quo .f64 (fop .mul .f64 (sU F) (pN (sU F) j)) (some (DC j)))) := Lib.hid rfl
            clear q8
            go_wp2_with (refine wpList_fop rfl _ _ _ _ _ rfl (by decide) _ _ _ rfl rfl ?_; intro r n hr hrb)
            go_roundg (9 - (j + 1))
            case rel => exact ⟨j + 1, _, _, rfl, hlt, rfl, by rw [HP.out]; simp only [*], by congr 1; omega, rfl⟩
            case measure => omega
          · have hj8 : j = 8 := by omega
            subst hj8
            go_wp2_with (first
              | (refine wpList_fop rfl _ _ _ _ _ rfl (by decide) _ _ _ rfl rfl ?_; intro r n hr hrb)
              | (refine wpList_neg rfl _ _ rfl _ rfl (by assumption) ?_; intro r hr hrb))
            go_ret
            refine ⟨_, _, rfl, rfl, ?_, by assumption⟩
            rw [HS.out, hT, HR.out]
            simp only [*]
            rfl
set_option maxHeartbeats 800000 in
theorem l01SineWide_any (b : Nat) (w : World) : Calls Try.prog 33 #[.float .f64 b] w fun e w' => ∃ r n, e = .returned (.float .f64 r) ∧ w' = w.drewN n ∧ cn .f64 r = siW (cn .f64 b) ∧ r < 2 ^ FloatKind.f64.format.width := by
  have hF0 : ∀ x, (ford .f64 (fop .sub .f64 x x) (some 0) != some Ordering.eq) = !isFin .f64 x := by intro x; unfold isFin; rw [bne]
  have ho := fun a b => order_cn .f64 a b
  have c0 := c_zero
  rcases hc : isFin .f64 (cn .f64 b)
  · have HS : Hid (siW (cn .f64 b) = none) := Lib.hid (by
      rcases cn_own .f64 b with ha | ha
      · rw [ha, siW_none]
      · rw [ha] at hc ⊢; exact siW_inf hc)
    have hc2 : (!isFin .f64 (cn .f64 b)) = true := by rw [hc]; rfl
    clear hc
    go_enter Try.func33, Try.ntmps33
    go_wp2_with (first
      | (refine wpList_fop rfl _ _ _ _ _ rfl (by decide) _ _ _ rfl rfl ?_; intro r n hr hrb)
      | (go_at_call 19; refine (NaN_any _).mono ?_; rintro e w' ⟨rfl, rfl⟩))
    go_ret
    exact ⟨_, _, rfl, rfl, by rw [HS.out, c_nan], by decide⟩
  · have ha : cn .f64 b = some b := by
      rcases cn_own .f64 b with ha | ha
      · rw [ha, isFin_none] at hc; cases hc
      · exact ha
    rw [ha] at hc
    rcases hB0 : big52 b
    · rw [ha, siW_fin hc hB0]
      exact l01SineWide_fin b w hc hB0
    · have HS : Hid (siW (cn .f64 b) = some 0) := Lib.hid (by rw [ha]; exact siW_big hc hB0)
      have hc2 : (!isFin .f64 (some b)) = false := by rw [hc]; rfl
      have hB1 := big_two (r := b) (cn_rg ha)
      rw [hB0] at hB1
      have c6 := c52
      have c7 := cm52
      clear hB0 hc
      go_enter Try.func33, Try.ntmps33
      rcases hB2 : (ford .f64 (some b) (some 4841369599423283200) == some Ordering.gt || ford .f64 (some b) (some 4841369599423283200) == some Ordering.eq)
      all_goals
        rw [hB2] at hB1
        try simp only [Bool.false_or] at hB1
        go_wp2_with (refine wpList_fop rfl _ _ _ _ _ rfl (by decide) _ _ _ rfl rfl ?_; intro r n hr hrb)
        go_ret
        exact ⟨_, _, rfl, rfl, by rw [HS.out, c_zero], by decide⟩
end Go.Proofs.Ytakaocddhaepmaa
