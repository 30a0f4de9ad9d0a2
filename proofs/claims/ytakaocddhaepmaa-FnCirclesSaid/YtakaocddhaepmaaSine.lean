/-
  The walks of sine and of the reference's l01SineWide.
-/
import Derived.Test.YtakaocddhaepmaaSine0
namespace Go.Proofs.Ytakaocddhaepmaa
open Go.RowKit

theorem c_half : cn .f64 4602678819172646912 = some 4602678819172646912 := cn_num (by decide)
theorem c_quarter : cn .f64 4598175219545276416 = some 4598175219545276416 := cn_num (by decide)
theorem c_two : cn .f64 4611686018427387904 = some 4611686018427387904 := cn_num (by decide)
theorem c_turn : cn .f64 4618760256179416344 = some 4618760256179416344 := cn_num (by decide)
set_option maxHeartbeats 4000000 in
theorem sine_any (b : Nat) (w : World) (hf : fin .f64 b) (h : rg .f64 b ≤ RD 52) : Calls Try.prog 22 #[.float .f64 b] w fun e w' => ∃ r n, e = .returned (.float .f64 r) ∧ w' = w.drewN n ∧ cn .f64 r = sinF (fracC b) ∧ r < 2 ^ FloatKind.f64.format.width := by
  have ho := fun a b => order_cn .f64 a b
  have c1 := c_one
  have c2 := c_half
  have c3 := c_quarter
  have c4 := c_two
  have c5 := c_turn
  generalize hF : fracC b = F
  have HF := Lib.hid hF
  have hT2 : (ford .f64 F (some 4602678819172646912) == some Ordering.gt || ford .f64 F (some 4602678819172646912) == some Ordering.eq) = sT F := by unfold sT; rfl
  have HZ : Hid (sZ F = fop .mul .f64 (sF2 F) (some 4618760256179416344)) := Lib.hid (by unfold sZ; rfl)
  have HU : Hid (sU F = fop .mul .f64 (sZ F) (sZ F)) := Lib.hid (by unfold sU; rfl)
  have HR : Hid (sR F = fop .mul .f64 (sZ F) (pN (sU F) 8)) := Lib.hid (by unfold sR; rfl)
  rcases hT : sT F
  all_goals
    rw [hT] at hT2
    have HS : Hid (sinF F = if sT F then fneg (sR F) else sR F) := Lib.hid (by unfold sinF; rfl)
    have HF1 : Hid (sF1 F = if sT F then fop .sub .f64 F (some 4602678819172646912) else F) := Lib.hid (by unfold sF1; rfl)
    have hG2 : (ford .f64 (sF1 F) (some 4598175219545276416) == some Ordering.gt) = sG F := by unfold sG; rfl
    have HF2 : Hid (sF2 F = if sG F then fop .sub .f64 (some 4602678819172646912) (sF1 F) else sF1 F) := Lib.hid (by unfold sF2; rfl)
    rw [HF1.out, hT] at hG2
    try rw [if_pos rfl] at hG2
    try rw [if_neg Bool.false_ne_true] at hG2
    rcases hG : sG F
    all_goals
      rw [hG] at hG2
      go_enter Try.func22, Try.ntmps22
      go_wp2_with (first
        | (go_at_call 21; refine (fraction_any _ _ hf h).mono ?_; rintro e w' ⟨r, n, rfl, rfl, hr, hrb⟩; rw [HF.out] at hr)
        | (refine wpList_fop rfl _ _ _ _ _ rfl (by decide) _ _ _ rfl rfl ?_; intro r n hr hrb))
      clear hF hT2 hG2
      rename_i rz nz hrz hrbz _ _
      have hz : cn .f64 rz = sZ F := by rw [HZ.out, HF2.out, hG, HF1.out, hT]; simp only [*]; rfl
      have hU : cn .f64 r = sU F := by rw [HU.out, ← hz]; exact hr
      clear hr hrz
      go_loopg [7, 8] 9 (fun g p k wr => ∃ (j pb kb m : Nat), g = 9 - j ∧ j ≤ 8 ∧ p = .float .f64 pb ∧ cn .f64 pb = pN (sU F) j ∧ k = .float .f64 kb ∧ cn .f64 kb = some (KC j) ∧ wr = w.drewN m)
      case atStart => exact ⟨0, _, _, _, rfl, by omega, rfl, c1, rfl, cn_num (by decide), rfl⟩
      case round =>
        obtain ⟨j, pb, kb, m, hg, hj, rfl, hp, rfl, hk, rfl⟩ := hrel
        by_cases hlt : j < 8
        · obtain ⟨q1, q2, q3, q4, q5, _⟩ := sine_consts ⟨j, hlt⟩
          dsimp only at q1 q2 q3 q4 q5
          have HP : Hid (pN (sU F) (j + 1) = fop .sub .f64 (some 4607182418800017408) (fop .quo .f64 (fop .mul .f64 (sU F) (pN (sU F) j)) (some (DC j)))) := Lib.hid rfl
          go_wp2_with (refine wpList_fop rfl _ _ _ _ _ rfl (by decide) _ _ _ rfl rfl ?_; intro r n hr hrb)
          go_roundg (9 - (j + 1))
          case rel => exact ⟨j + 1, _, _, _, rfl, hlt, rfl, by rw [HP.out]; simp only [*], rfl, by simp only [*], rfl⟩
          case measure => omega
        · have hj8 : j = 8 := by omega
          subst hj8
          have q5 := sine_last
          go_wp2_with (first
            | (refine wpList_fop rfl _ _ _ _ _ rfl (by decide) _ _ _ rfl rfl ?_; intro r n hr hrb)
            | (refine wpList_neg rfl _ _ rfl _ rfl (by assumption) ?_; intro r hr hrb))
          go_ret
          refine ⟨_, _, rfl, rfl, ?_, by assumption⟩
          rw [HS.out, hT, HR.out]
          simp only [*]
          rfl
end Go.Proofs.Ytakaocddhaepmaa
