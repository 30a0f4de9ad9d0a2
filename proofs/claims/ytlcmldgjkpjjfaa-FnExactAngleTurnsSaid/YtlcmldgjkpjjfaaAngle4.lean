/-
  The reference's angle: all cases.
-/
import Derived.Test.YtlcmldgjkpjjfaaAngle3
namespace Go.Proofs.Ytlcmldgjkpjjfaa
open Go.RowKit

set_option maxHeartbeats 1000000 in
theorem l01AngleWide_nan (Y X : Nat) (w : World) (h : (isFin .f64 (cn .f64 X) && isFin .f64 (cn .f64 Y)) = false) :
    Calls Try.prog 53 #[.float .f64 Y, .float .f64 X] w fun e w' => ∃ r n, e = .returned (.float .f64 r) ∧ w' = w.drewN n ∧ cn .f64 r = none := by
  have hF0 : ∀ x, (ford .f64 (fop .sub .f64 x x) (some 0) != some Ordering.eq) = !isFin .f64 x := by intro x; unfold isFin; rw [bne]
  have ho := fun a b => order_cn .f64 a b
  have c7 := d_zero
  rcases hy : isFin .f64 (cn .f64 Y)
  · clear h
    go_enter Try.func53, Try.ntmps53
    go_wp2_with (first
      | (refine wpList_fop rfl _ _ _ _ _ rfl (by decide) _ _ _ rfl rfl ?_; intro r n hr hrb)
      | (go_at_call 31; refine (NaN_any _).mono ?_; rintro e w' ⟨rfl, rfl⟩))
    go_ret
    exact ⟨_, _, rfl, rfl, c_nan⟩
  · have hx : isFin .f64 (cn .f64 X) = false := by rw [hy, Bool.and_true] at h; exact h
    clear h
    go_enter Try.func53, Try.ntmps53
    go_wp2_with (first
      | (refine wpList_fop rfl _ _ _ _ _ rfl (by decide) _ _ _ rfl rfl ?_; intro r n hr hrb)
      | (go_at_call 31; refine (NaN_any _).mono ?_; rintro e w' ⟨rfl, rfl⟩))
    go_ret
    exact ⟨_, _, rfl, rfl, c_nan⟩
set_option maxHeartbeats 1000000 in
theorem l01AngleWide_zero (y x Y X : Nat) (w : World) (uy : Up y Y) (ux : Up x X) (hz : rg .f64 X = 0 ∧ rg .f64 Y = 0) :
    Calls Try.prog 53 #[.float .f64 Y, .float .f64 X] w fun e w' => ∃ r n, e = .returned (.float .f64 r) ∧ w' = w.drewN n ∧ cn .f64 r = some 0 := by
  have hF0 : ∀ x, (ford .f64 (fop .sub .f64 x x) (some 0) != some Ordering.eq) = !isFin .f64 x := by intro x; unfold isFin; rw [bne]
  have ho := fun a b => order_cn .f64 a b
  have c7 := d_zero
  have ox := ux.own
  have oy := uy.own
  have hfx : isFin .f64 (some X) = true := by rw [isFin_some ox]; exact decide_eq_true ux.f
  have hfy : isFin .f64 (some Y) = true := by rw [isFin_some oy]; exact decide_eq_true uy.f
  have ex := eq_zero (cn_rg ox)
  have ey := eq_zero (cn_rg oy)
  rw [hz.1] at ex
  rw [hz.2] at ey
  simp only [decide_true] at ex ey
  clear hz ux uy
  go_enter Try.func53, Try.ntmps53
  go_wp2_with (refine wpList_fop rfl _ _ _ _ _ rfl (by decide) _ _ _ rfl rfl ?_; intro r n hr hrb)
  go_ret
  exact ⟨_, _, rfl, rfl, c7⟩
/-- What l01AngleWide gives for words of float32. -/
@[irreducible] def angU2 (y x : Option Nat) (Y X : Nat) : Option Nat := if isFin .f32 x && isFin .f32 y then angV Y X else none
set_option maxHeartbeats 1000000 in
theorem l01AngleWide_any (y x Y X : Nat) (w : World) (hY : cn .f64 Y = cvF .f32 .f64 (cn .f32 y)) (hX : cn .f64 X = cvF .f32 .f64 (cn .f32 x)) :
    Calls Try.prog 53 #[.float .f64 Y, .float .f64 X] w fun e w' => ∃ r n, e = .returned (.float .f64 r) ∧ w' = w.drewN n ∧ cn .f64 r = angU2 (cn .f32 y) (cn .f32 x) Y X := by
  rcases hf : isFin .f32 (cn .f32 x) && isFin .f32 (cn .f32 y)
  · have e : angU2 (cn .f32 y) (cn .f32 x) Y X = none := by unfold angU2; simp [hf]
    rw [e]
    exact l01AngleWide_nan Y X w (by rw [hX, hY, isFin_up, isFin_up]; exact hf)
  · have e : angU2 (cn .f32 y) (cn .f32 x) Y X = angV Y X := by unfold angU2; simp [hf]
    rw [e]
    rw [Bool.and_eq_true] at hf
    obtain ⟨X', ux⟩ := up_of hf.1
    obtain ⟨Y', uy⟩ := up_of hf.2
    rw [ux.cv] at hX
    rw [uy.cv] at hY
    have ex := (cn_some hX).1
    have ey := (cn_some hY).1
    subst ex; subst ey
    by_cases hz : rg .f64 X = 0 ∧ rg .f64 Y = 0
    · have e2 : angV Y X = some 0 := by unfold angV; rw [if_pos hz]
      rw [e2]
      exact l01AngleWide_zero y x Y X w uy ux hz
    · have e2 : angV Y X = angO (agG Y X) (neg .f64 X) (neg .f64 Y) (agT Y X) := by unfold angV; rw [if_neg hz]
      rw [e2]
      exact l01AngleWide_main y x Y X w uy ux hz
theorem angU2_fits {y x Y X : Nat} (hY : cn .f64 Y = cvF .f32 .f64 (cn .f32 y)) (hX : cn .f64 X = cvF .f32 .f64 (cn .f32 x)) : fits .f64 .f32 (angU2 (cn .f32 y) (cn .f32 x) Y X) ∧ cvF .f64 .f32 (angU2 (cn .f32 y) (cn .f32 x) Y X) = angW (cn .f32 y) (cn .f32 x) := by
  rcases hf : isFin .f32 (cn .f32 x) && isFin .f32 (cn .f32 y)
  · have e : angU2 (cn .f32 y) (cn .f32 x) Y X = none := by unfold angU2; simp [hf]
    rw [e, angW_none hf, cvF_none]
    exact ⟨fits_down (le2_none _), rfl⟩
  · have e : angU2 (cn .f32 y) (cn .f32 x) Y X = angV Y X := by unfold angU2; simp [hf]
    rw [e]
    rw [Bool.and_eq_true] at hf
    obtain ⟨X', ux⟩ := up_of hf.1
    obtain ⟨Y', uy⟩ := up_of hf.2
    rw [ux.cv] at hX
    rw [uy.cv] at hY
    have ex := (cn_some hX).1
    have ey := (cn_some hY).1
    subst ex; subst ey
    exact ⟨fits_down (angV_le uy ux), (angW_fin uy ux hf.1 hf.2).symm⟩
set_option maxHeartbeats 1000000 in
theorem l01Angle_any (y x : Nat) (w : World) : Calls Try.prog 42 #[.float .f32 y, .float .f32 x] w fun e w' => ∃ r n, e = .returned (.float .f32 r) ∧ w' = w.drewN n ∧ cn .f32 r = angW (cn .f32 y) (cn .f32 x) := by
  have t1 : True := trivial
  go_enter Try.func42, Try.ntmps42
  go_wp2_with (first
    | (have _t := t1; refine wpList_up rfl _ _ _ rfl _ rfl Try.underlying22 Try.underlying25 ?_; intro r1 n1 hr1 hrb1; have HY := Lib.hid hr1; clear hr1 t1)
    | (refine wpList_up rfl _ _ _ rfl _ rfl Try.underlying22 Try.underlying25 ?_; intro r2 n2 hr2 hrb2; have HX := Lib.hid hr2; clear hr2)
    | (go_at_call 53; refine (l01AngleWide_any y x _ _ _ HY.out HX.out).mono ?_; rintro e w' ⟨q, n, rfl, rfl, hq⟩; have HQ := Lib.hid hq; clear hq)
    | (go_at_call 44; refine (l01Narrow_any _ _ (by rw [HQ.out]; exact (angU2_fits HY.out HX.out).1)).mono ?_; rintro e w' ⟨r3, n3, rfl, rfl, hr3⟩; have HZ := Lib.hid hr3; clear hr3))
  go_ret
  exact ⟨_, _, rfl, rfl, by rw [HZ.out, HQ.out]; exact (angU2_fits HY.out HX.out).2⟩
set_option maxHeartbeats 400000 in
theorem sAngleTurns_any (y x : Nat) (w : World) : Calls Try.prog 22 #[.float .f32 y, .float .f32 x] w fun e w' => ∃ r n, e = .returned (.float .f32 r) ∧ w' = w.drewN n ∧ cn .f32 r = angW (cn .f32 y) (cn .f32 x) := by
  go_enter Try.func22, Try.ntmps22
  go_wp2_with (go_at_call 42; refine (l01Angle_any _ _ _).mono ?_; rintro e w' ⟨q, n, rfl, rfl, hq⟩)
  go_ret
  exact ⟨_, _, rfl, rfl, hq⟩
end Go.Proofs.Ytlcmldgjkpjjfaa
