/-
  Contracts of RootNumber and its twin.
-/
import Derived.Test.YtakaocddhaepmaaSqrt
namespace Go.Proofs.Ytakaocddhaepmaa
open Go.RowKit
@[irreducible] def rootC (x : Option Nat) : Option Nat := cvF .f64 .f32 (fsqrt (cvF .f32 .f64 x))
theorem cn_sq {b r : Nat} (h : cn .f64 r = fsqrt (cvF .f32 .f64 (cn .f32 b))) : fits .f64 .f32 (cn .f64 r) := by rw [h]; exact fits_sqrt
set_option maxHeartbeats 400000 in
theorem l01Narrow_any (b : Nat) (w : World) (hft : fits .f64 .f32 (cn .f64 b)) : Calls Try.prog 34 #[.float .f64 b] w fun e w' => ∃ r n, e = .returned (.float .f32 r) ∧ w' = w.drewN n ∧ cn .f32 r = cvF .f64 .f32 (cn .f64 b) := by
  go_enter Try.func34, Try.ntmps34
  go_wp2_with (first
    | (refine wpList_down rfl _ _ _ rfl _ rfl Try.underlying22 Try.underlying31 hft ?_; intro r3 n3 hr3 hrb3))
  go_ret
  exact ⟨_, _, rfl, rfl, by simp only [*]⟩
end Go.Proofs.Ytakaocddhaepmaa
