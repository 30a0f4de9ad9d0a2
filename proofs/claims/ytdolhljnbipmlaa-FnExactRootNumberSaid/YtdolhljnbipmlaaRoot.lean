/-
  Contracts of RootNumber and its twin.
-/
import Derived.Test.YtdolhljnbipmlaaSqrt
namespace Go.Proofs.Ytdolhljnbipmlaa
open Go.RowKit
@[irreducible] def rootC (x : Option Nat) : Option Nat := cvF .f64 .f32 (fsqrt (cvF .f32 .f64 x))
theorem cn_sq {b r : Nat} (h : cn .f64 r = fsqrt (cvF .f32 .f64 (cn .f32 b))) : fits .f64 .f32 (cn .f64 r) := by rw [h]; exact fits_sqrt
set_option maxHeartbeats 400000 in
theorem RootNumber_any (b : Nat) (w : World) : Calls Try.prog 30 #[.float .f32 b] w fun e w' => ∃ r n, e = .returned (.float .f32 r) ∧ w' = w.drewN n ∧ cn .f32 r = rootC (cn .f32 b) := by
  go_enter Try.func30, Try.ntmps30
  go_wp2_with (first
    | (refine wpList_up rfl _ _ _ rfl _ rfl Try.underlying23 Try.underlying25 ?_; intro r n hr hrb)
    | (go_at_call 51; refine (Sqrt_any _ _).mono ?_; rintro e w' ⟨r2, n2, rfl, rfl, hr2, hrb2⟩; have hft := cn_sq (by rw [hr2, hr]))
    | (refine wpList_down rfl _ _ _ rfl _ rfl Try.underlying25 Try.underlying23 hft ?_; intro r3 n3 hr3 hrb3))
  go_ret
  exact ⟨_, _, rfl, rfl, by unfold rootC; simp only [*]⟩
set_option maxHeartbeats 400000 in
theorem l01Narrow_any (b : Nat) (w : World) (hft : fits .f64 .f32 (cn .f64 b)) : Calls Try.prog 38 #[.float .f64 b] w fun e w' => ∃ r n, e = .returned (.float .f32 r) ∧ w' = w.drewN n ∧ cn .f32 r = cvF .f64 .f32 (cn .f64 b) := by
  go_enter Try.func38, Try.ntmps38
  go_wp2_with (first
    | (refine wpList_down rfl _ _ _ rfl _ rfl Try.underlying25 Try.underlying23 hft ?_; intro r3 n3 hr3 hrb3))
  go_ret
  exact ⟨_, _, rfl, rfl, by simp only [*]⟩
set_option maxHeartbeats 400000 in
theorem l01Sqrt_any (b : Nat) (w : World) : Calls Try.prog 50 #[.float .f32 b] w fun e w' => ∃ r n, e = .returned (.float .f32 r) ∧ w' = w.drewN n ∧ cn .f32 r = rootC (cn .f32 b) := by
  go_enter Try.func50, Try.ntmps50
  go_wp2_with (first
    | (refine wpList_up rfl _ _ _ rfl _ rfl Try.underlying23 Try.underlying25 ?_; intro r n hr hrb)
    | (go_at_call 51; refine (Sqrt_any _ _).mono ?_; rintro e w' ⟨r2, n2, rfl, rfl, hr2, hrb2⟩; have hft := cn_sq (by rw [hr2, hr]))
    | (go_at_call 38; refine (l01Narrow_any _ _ hft).mono ?_; rintro e w' ⟨r3, n3, rfl, rfl, hr3⟩))
  go_ret
  exact ⟨_, _, rfl, rfl, by unfold rootC; simp only [*]⟩
set_option maxHeartbeats 400000 in
theorem sRootNumber_any (b : Nat) (w : World) : Calls Try.prog 29 #[.float .f32 b] w fun e w' => ∃ r n, e = .returned (.float .f32 r) ∧ w' = w.drewN n ∧ cn .f32 r = rootC (cn .f32 b) := by
  go_enter Try.func29, Try.ntmps29
  go_wp2_with (first
    | (go_at_call 50; refine (l01Sqrt_any _ _).mono ?_; rintro e w' ⟨r3, n3, rfl, rfl, hr3⟩))
  go_ret
  exact ⟨_, _, rfl, rfl, by assumption⟩
end Go.Proofs.Ytdolhljnbipmlaa
