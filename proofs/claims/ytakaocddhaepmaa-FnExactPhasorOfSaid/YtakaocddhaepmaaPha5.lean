/-
  Contract of the reference's PhasorOf, for every number of turns.
-/
import Derived.Test.YtakaocddhaepmaaPha4
namespace Go.Proofs.Ytakaocddhaepmaa
open Ieee Go.RowKit

set_option maxHeartbeats 1000000 in
theorem l01Phasor_any (b : Nat) (w : World) :
    Calls Try.prog 17 #[.float .f64 b] w fun e w' => ∃ re im n, e = .returned (.complex .f32 re im) ∧ w' = w.drewN n ∧ cn .f32 re = phoX (cn .f64 b) ∧ cn .f32 im = phoY (cn .f64 b) := by
  have hF0 : ∀ x, (ford .f64 (fop .sub .f64 x x) (some 0) != some Ordering.eq) = !isFin .f64 x := by intro x; unfold isFin; rw [bne]
  have ho := fun a b => order_cn .f64 a b
  have c0 := c_zero
  have c6 := c52
  have c7 := cm52
  rcases hc : isFin .f64 (cn .f64 b)
  · have HS : Hid (phoX (cn .f64 b) = none ∧ phoY (cn .f64 b) = none) := Lib.hid (by
      rcases cn_own .f64 b with ha | ha
      · rw [ha]; exact pho_none
      · rw [ha] at hc ⊢; exact pho_inf hc)
    have hn : cn .f32 2143289344 = none := cn_nan (by decide)
    go_enter Try.func17, Try.ntmps17
    go_wp2_with (first
      | (refine wpList_fop rfl _ _ _ _ _ rfl (by decide) _ _ _ rfl rfl ?_; intro r n hr hrb)
      | (go_at_call 32; refine (l01From_any _ _ (by omega) (by omega)).mono ?_; rintro e w' ⟨rfl, rfl⟩))
    go_ret
    exact ⟨_, _, _, rfl, rfl, by rw [HS.out.1]; exact hn, by rw [HS.out.2]; exact hn⟩
  · have hb : cn .f64 b = some b := by
      rcases cn_own .f64 b with ha | ha
      · rw [ha, isFin_none] at hc; cases hc
      · exact ha
    rw [hb] at hc ⊢
    rcases hB : big52 b
    · rw [(pho_fin hc hB).1, (pho_fin hc hB).2]
      exact l01Phasor_main b w hb hc hB
    · have hf : fin .f64 b := by
        rw [isFin_some hb] at hc
        unfold fin; exact of_decide_eq_true hc
      have HA := big_two (r := b) (Nat.le_of_lt hf)
      rw [hB] at HA
      have HP := Lib.hid (pho_big hc hB)
      have k1 : cn .f32 1065353216 = some 1065353216 := cn_num (by decide)
      have k0 : cn .f32 0 = some 0 := cn_num (by decide)
      clear hB hf
      rcases h1 : (ford .f64 (some b) (some 4841369599423283200) == some Ordering.gt || ford .f64 (some b) (some 4841369599423283200) == some Ordering.eq)
      · rw [h1, Bool.false_or] at HA
        go_enter Try.func17, Try.ntmps17
        go_wp2_with (refine wpList_fop rfl _ _ _ _ _ rfl (by decide) _ _ _ rfl rfl ?_; intro r n hr hrb)
        go_ret
        exact ⟨_, _, _, rfl, rfl, by rw [HP.out.1]; exact k1, by rw [HP.out.2]; exact k0⟩
      · clear HA
        go_enter Try.func17, Try.ntmps17
        go_wp2_with (refine wpList_fop rfl _ _ _ _ _ rfl (by decide) _ _ _ rfl rfl ?_; intro r n hr hrb)
        go_ret
        exact ⟨_, _, _, rfl, rfl, by rw [HP.out.1]; exact k1, by rw [HP.out.2]; exact k0⟩
set_option maxHeartbeats 400000 in
theorem sPhasorOf_any (b : Nat) (w : World) :
    Calls Try.prog 5 #[.float .f64 b] w fun e w' => ∃ re im n, e = .returned (.complex .f32 re im) ∧ w' = w.drewN n ∧ cn .f32 re = phoX (cn .f64 b) ∧ cn .f32 im = phoY (cn .f64 b) := by
  go_enter Try.func5, Try.ntmps5
  go_wp2_with (go_at_call 17; refine (l01Phasor_any _ _).mono ?_; rintro e w' ⟨r, s, n, rfl, rfl, hr, hs⟩)
  go_ret
  exact ⟨_, _, _, rfl, rfl, hr, hs⟩
set_option maxHeartbeats 400000 in
theorem sameComplex_eq (a b c d : Nat) (w : World) (h1 : cn .f64 a = cn .f64 c) (h2 : cn .f64 b = cn .f64 d) :
    Calls Try.prog 7 #[.complex .f64 a b, .complex .f64 c d] w fun e w' => ∃ n, e = .returned (.bool true) ∧ w' = w.drewN n := by
  have H1 := Lib.hid h1
  have H2 := Lib.hid h2
  clear h1 h2
  have t1 : True := trivial
  go_enter Try.func7, Try.ntmps7
  go_wp2_with (first
    | (have _t := t1; go_at_call 23; refine (sameFloat_eq _ _ _ H1.out).mono ?_; rintro e w' ⟨m, rfl, rfl⟩; clear t1)
    | (go_at_call 23; refine (sameFloat_eq _ _ _ H2.out).mono ?_; rintro e w' ⟨m, rfl, rfl⟩))
  go_ret
  exact ⟨_, rfl, rfl⟩
end Go.Proofs.Ytakaocddhaepmaa
