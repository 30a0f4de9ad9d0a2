/-
  AngleTurns: all cases.
-/
import Derived.Test.YtakaocddhaepmaaAngle
namespace Go.Proofs.Ytakaocddhaepmaa
open Go.RowKit

/-- The angle as float32 has it. -/
@[irreducible] def angW (y x : Option Nat) : Option Nat := if isFin .f32 x && isFin .f32 y then ((cvF .f32 .f64 y).bind fun Y => (cvF .f32 .f64 x).bind fun X => cvF .f64 .f32 (angV Y X)) else none
theorem angW_none {y x : Option Nat} (h : (isFin .f32 x && isFin .f32 y) = false) : angW y x = none := by unfold angW; simp [h]
theorem angW_fin {y x Y X : Nat} (uy : Up y Y) (ux : Up x X) (hx : isFin .f32 (cn .f32 x) = true) (hy : isFin .f32 (cn .f32 y) = true) : angW (cn .f32 y) (cn .f32 x) = cvF .f64 .f32 (angV Y X) := by
  unfold angW; rw [hx, hy, ux.cv, uy.cv]; rfl
theorem angV_zero {Y X : Nat} (h : rg .f64 X = 0 ∧ rg .f64 Y = 0) : cvF .f64 .f32 (angV Y X) = some 0 := by
  unfold angV; rw [if_pos h]; exact cv_zero
theorem angV_pos {y x Y X : Nat} (uy : Up y Y) (ux : Up x X) (h : ¬ (rg .f64 X = 0 ∧ rg .f64 Y = 0)) : angV Y X = angO (agG Y X) (neg .f32 x) (neg .f32 y) (agT Y X) := by
  unfold angV; rw [if_neg h, neg_up uy, neg_up ux]
set_option maxHeartbeats 1000000 in
theorem AngleTurns_any (y x : Nat) (w : World) : Calls Try.prog 24 #[.float .f32 y, .float .f32 x] w fun e w' => ∃ r n, e = .returned (.float .f32 r) ∧ w' = w.drewN n ∧ cn .f32 r = angW (cn .f32 y) (cn .f32 x) := by
  have ho := fun a b => order_cn .f32 a b
  have c0 : cn .f32 0 = some 0 := cn_num (by decide)
  rcases hx : isFin .f32 (cn .f32 x)
  · have HS := Lib.hid (angW_none (y := cn .f32 y) (x := cn .f32 x) (by rw [hx]; rfl))
    go_enter Try.func24, Try.ntmps24
    go_wp2_with (first
      | (go_at_call 28; refine (IsFinite_any _ _).mono ?_; rintro e w' ⟨n, rfl, rfl⟩)
      | (go_at_call 19; refine (NaN_any _).mono ?_; rintro e w' ⟨rfl, rfl⟩)
      | (refine wpList_down rfl _ _ _ rfl _ rfl Try.underlying22 Try.underlying31 (by rw [c_nan]; exact fits_down (le2_none _)) ?_; intro r n hr hrb))
    go_ret
    exact ⟨_, _, rfl, rfl, by rw [HS.out]; rw [c_nan, cvF_none] at *; assumption⟩
  · rcases hy : isFin .f32 (cn .f32 y)
    · have HS := Lib.hid (angW_none (y := cn .f32 y) (x := cn .f32 x) (by rw [hx, hy]; rfl))
      go_enter Try.func24, Try.ntmps24
      go_wp2_with (first
        | (go_at_call 28; refine (IsFinite_any _ _).mono ?_; rintro e w' ⟨n, rfl, rfl⟩)
        | (go_at_call 19; refine (NaN_any _).mono ?_; rintro e w' ⟨rfl, rfl⟩)
        | (refine wpList_down rfl _ _ _ rfl _ rfl Try.underlying22 Try.underlying31 (by rw [c_nan]; exact fits_down (le2_none _)) ?_; intro r n hr hrb))
      go_ret
      exact ⟨_, _, rfl, rfl, by rw [HS.out]; rw [c_nan, cvF_none] at *; assumption⟩
    · obtain ⟨X, ux⟩ := up_of hx
      obtain ⟨Y, uy⟩ := up_of hy
      rw [angW_fin uy ux hx hy]
      by_cases hz : rg .f64 X = 0 ∧ rg .f64 Y = 0
      · have HS := Lib.hid (angV_zero hz)
        have ox := ux.own32
        have oy := uy.own32
        rw [ox] at hx
        rw [oy] at hy
        have ex := eq_zero (cn_rg ox)
        have ey := eq_zero (cn_rg oy)
        rw [ux.zero, uy.zero] at hz
        rw [hz.1] at ex
        rw [hz.2] at ey
        simp only [decide_true] at ex ey
        clear hz ux uy
        go_enter Try.func24, Try.ntmps24
        go_wp2_with (go_at_call 28; refine (IsFinite_any _ _).mono ?_; rintro e w' ⟨n, rfl, rfl⟩)
        go_ret
        exact ⟨_, _, rfl, rfl, by rw [HS.out]; exact c0⟩
      · rw [angV_pos uy ux hz]
        exact AngleTurns_main y x Y X w uy ux hz (by rw [← ux.own32]; exact hx) (by rw [← uy.own32]; exact hy)
end Go.Proofs.Ytakaocddhaepmaa
