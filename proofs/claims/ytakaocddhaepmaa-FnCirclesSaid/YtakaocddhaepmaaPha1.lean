/-
  Contract of PhasorOf.
-/
import Derived.Test.YtakaocddhaepmaaPha0
import Derived.WalkLawsBesides
namespace Go.Proofs.Ytakaocddhaepmaa
open Ieee Go.RowKit

set_option maxHeartbeats 400000 in
theorem isFinite64_any (b : Nat) (w : World) :
    Calls Try.prog 18 #[.float .f64 b] w fun e w' => ∃ n, e = .returned (.bool (isFin .f64 (cn .f64 b))) ∧ w' = w.drewN n := by
  have ho := fun a b => order_cn .f64 a b
  have c0 := c_zero
  have hF : ∀ x, (ford .f64 (fop .sub .f64 x x) (some 0) == some Ordering.eq) = isFin .f64 x := by intro x; unfold isFin; rfl
  go_enter Try.func18, Try.ntmps18
  go_wp2_with (refine wpList_fop rfl _ _ _ _ _ rfl (by decide) _ _ _ rfl rfl ?_; intro r n hr hrb)
  go_ret
  exact ⟨_, rfl, rfl⟩
theorem siW_small {r : Nat} (h : rg .f64 r ≤ RD 1) : cn .f64 r = some r ∧ fin .f64 r ∧ rg .f64 r ≤ RD 52 ∧ siW (some r) = sinF (fracC r) := by
  have e1 : RD 1 = 4611686018427387904 := by decide
  have e52 : RD 52 = 4841369599423283200 := by decide
  have hf : fin .f64 r := by unfold fin; rw [D_inf]; omega
  have hc := cn_of_rg .f64 r (Nat.le_of_lt hf)
  refine ⟨hc, hf, by omega, siW_fin ?_ ?_⟩
  · rw [isFin_some hc]; exact decide_eq_true hf
  · unfold big52; exact decide_eq_false (by omega)
theorem sineW_any (b : Nat) (w : World) (h : rg .f64 b ≤ RD 1) : Calls Try.prog 22 #[.float .f64 b] w fun e w' => ∃ r n, e = .returned (.float .f64 r) ∧ w' = w.drewN n ∧ cn .f64 r = siW (some b) ∧ le2 (cn .f64 r) 127 := by
  obtain ⟨h1, h2, h3, h4⟩ := siW_small h
  refine (sine_any b w h2 h3).mono ?_
  rintro e w' ⟨r, n, rfl, rfl, hr, hb⟩
  exact ⟨r, n, rfl, rfl, by rw [hr, h4], by rw [hr, ← h4]; exact siW_le _⟩
theorem l01SineWideW_any (b : Nat) (w : World) (h : rg .f64 b ≤ RD 1) : Calls Try.prog 33 #[.float .f64 b] w fun e w' => ∃ r n, e = .returned (.float .f64 r) ∧ w' = w.drewN n ∧ cn .f64 r = siW (some b) ∧ le2 (cn .f64 r) 127 := by
  obtain ⟨h1, h2, h3, h4⟩ := siW_small h
  refine (l01SineWide_any b w).mono ?_
  rintro e w' ⟨r, n, rfl, rfl, hr, hb⟩
  rw [h1] at hr
  exact ⟨r, n, rfl, rfl, hr, by rw [hr]; exact siW_le _⟩
theorem fracC_some {b : Nat} (hf : fin .f64 b) (h : rg .f64 b ≤ RD 52) : ∃ r, fracC b = some r := by
  have hA : ∃ a, fracA b = some a ∧ fin .f64 a := by
    have i0 : inP 0 := inP_of (by omega) (by omega)
    have hle := fi_le2 i0 (fracA_le hf h)
    have hp := pow52 h
    obtain ⟨g1, _, _⟩ := int_fin (trunc b) (by unfold trunc; generalize sz .f64 b / U = q at hp ⊢; split <;> omega)
    obtain ⟨r, hr, _⟩ := sub_add hf g1
    have e : fracA b = some r := by
      unfold fracA
      rw [cn_of_rg _ _ (Nat.le_of_lt g1), fop_some, hr]
    rw [e] at hle
    exact ⟨r, e, fi_some.1 hle⟩
  obtain ⟨a, ha, hfa⟩ := hA
  unfold fracC
  split
  · obtain ⟨r, hr, _⟩ := add_fin (x := a) (y := 4607182418800017408) hfa (by unfold fin; decide)
    exact ⟨r, by rw [ha, fop_some, hr]⟩
  · exact ⟨a, ha⟩
theorem subQ_some {b : Nat} {j : Nat} (hB : rg .f64 b ≤ q4 j) : ∃ r, subQ (some b) = some r := by
  have h4 := q4_le j
  obtain ⟨r, hr, _⟩ := sub_add (x := b) (y := 4598175219545276416) (by unfold fin; rw [D_inf]; omega) (by unfold fin; decide)
  exact ⟨r, by unfold subQ; rw [fop_some, hr]⟩
/-- A quarter less what is left: small too. -/
theorem rest_ok {b r : Nat} {j : Nat} (hB : rg .f64 b ≤ q4 j) (h : cn .f64 r = fop .sub .f64 (some 4598175219545276416) (some b)) : rg .f64 r ≤ RD 1 := by
  have h4 := q4_le j
  have e0 : RD 0 = 4607182418800017408 := by decide
  have i0 : inP 0 := inP_of (by omega) (by omega)
  have i1 : inP (0 + 1) := inP_of (by omega) (by omega)
  have hl := le2_sub (p := 0) (le2_some.2 (show rg .f64 4598175219545276416 ≤ RD 0 by decide)) (le2_some.2 (show rg .f64 b ≤ RD 0 by omega)) i0 i1
  obtain ⟨r', hr', _⟩ := sub_add (x := 4598175219545276416) (y := b) (by unfold fin; decide) (by unfold fin; rw [D_inf]; omega)
  rw [fop_some, hr'] at h hl
  obtain rfl := (cn_some h).1
  exact le2_some.1 hl
theorem small_q {b : Nat} {j : Nat} (hB : rg .f64 b ≤ q4 j) : rg .f64 b ≤ RD 1 := by
  have h4 := q4_le j
  have e1 : RD 1 = 4611686018427387904 := by decide
  omega
theorem le2_less {x : Option Nat} {r : Nat} (h : le2 x 127) (hr : cn .f64 r = fop .sub .f64 (cn .f64 0) x) : le2 (cn .f64 r) 127 := by
  have := less0_le h
  unfold less0 at this
  rw [hr, c_zero]
  exact this
/-- A quarter's test, as the walk meets it. -/
theorem q25_test (x : Option Nat) : (ford .f64 x (some 4598175219545276416) == some Ordering.gt || ford .f64 x (some 4598175219545276416) == some Ordering.eq) = q25 x := by unfold q25; rfl
/-- What PhasorOf gives, as canonical forms. -/
@[irreducible] def phoX (c : Option Nat) : Option Nat := match c with | none => none | some b => if isFin .f64 (some b) then (if big52 b then some 1065353216 else cvF .f64 .f32 (phX b)) else none
@[irreducible] def phoY (c : Option Nat) : Option Nat := match c with | none => none | some b => if isFin .f64 (some b) then (if big52 b then some 0 else cvF .f64 .f32 (phY b)) else none
theorem pho_none : phoX none = none ∧ phoY none = none := by unfold phoX phoY; exact ⟨rfl, rfl⟩
theorem pho_inf {b : Nat} (h : isFin .f64 (some b) = false) : phoX (some b) = none ∧ phoY (some b) = none := by unfold phoX phoY; simp [h]
theorem pho_big {b : Nat} (h : isFin .f64 (some b) = true) (h2 : big52 b = true) : phoX (some b) = some 1065353216 ∧ phoY (some b) = some 0 := by unfold phoX phoY; simp [h, h2]
theorem pho_fin {b : Nat} (h : isFin .f64 (some b) = true) (h2 : big52 b = false) : phoX (some b) = cvF .f64 .f32 (phX b) ∧ phoY (some b) = cvF .f64 .f32 (phY b) := by unfold phoX phoY; simp [h, h2]
/-- .. by the quarters taken off. -/
theorem ph_at {b fb : Nat} {j : Nat} (h : (j, some fb) = (phQ b, phF b)) (x : Option Nat) (hx : x = siW (fop .sub .f64 (some 4598175219545276416) (some fb))) (y : Option Nat) (hy : y = siW (some fb)) :
    phX b = (if j = 1 then fop .sub .f64 (some 0) y else if j = 2 then fop .sub .f64 (some 0) x else if j = 3 then y else x) ∧
    phY b = (if j = 1 then x else if j = 2 then fop .sub .f64 (some 0) y else if j = 3 then fop .sub .f64 (some 0) x else y) := by
  obtain ⟨rfl, hF⟩ := Prod.mk.inj h
  unfold phX phY phC phS less0
  rw [← hF, ← hx, ← hy]
  exact ⟨rfl, rfl⟩
/-- The loop that takes quarters off has ended: j quarters. -/
theorem ph_end {b fb j : Nat} (h : Hid (qR (6 - j) j (some fb) = (phQ b, phF b))) (e : q25 (some fb) = false) : (j, some fb) = (phQ b, phF b) := by
  rw [← h.out, qR_stop e]
theorem ph_go {b fb r j : Nat} (hj : j < 6) (h : Hid (qR (6 - j) j (some fb) = (phQ b, phF b))) (e : q25 (some fb) = true) (hr : subQ (some fb) = some r) : Hid (qR (6 - (j + 1)) (j + 1) (some r) = (phQ b, phF b)) := by
  refine Lib.hid ?_
  rw [← h.out, show 6 - j = 6 - (j + 1) + 1 by omega, qR_go e, hr]
end Go.Proofs.Ytakaocddhaepmaa
