/-
  The walk of the reference's l01AngleWide.
-/
import Derived.Test.YtlcmldgjkpjjfaaAngle2
namespace Go.Proofs.Ytlcmldgjkpjjfaa
open Go.RowKit

set_option maxHeartbeats 8000000 in
theorem l01AngleWide_main (y x Y X : Nat) (w : World) (uy : Up y Y) (ux : Up x X) (hz : ¬ (rg .f64 X = 0 ∧ rg .f64 Y = 0)) :
    Calls Try.prog 53 #[.float .f64 Y, .float .f64 X] w fun e w' => ∃ r n, e = .returned (.float .f64 r) ∧ w' = w.drewN n ∧ cn .f64 r = angO (agG Y X) (neg .f64 X) (neg .f64 Y) (agT Y X) := by
  have ho := fun a b => order_cn .f64 a b
  have hab := fun b => cn_abs b
  have hF0 : ∀ x, (ford .f64 (fop .sub .f64 x x) (some 0) != some Ordering.eq) = !isFin .f64 x := by intro x; unfold isFin; rw [bne]
  have c1 := c_one
  have c2 := d_two
  have c3 := e_quart
  have c4 := c_half
  have c5 := e_eight
  have c6 := e_turn
  have c7 := d_zero
  have ox := ux.own
  have oy := uy.own
  have hfx : isFin .f64 (some X) = true := by rw [isFin_some ox]; exact decide_eq_true ux.f
  have hfy : isFin .f64 (some Y) = true := by rw [isFin_some oy]; exact decide_eq_true uy.f
  have lx := lt_neg (cn_rg ox)
  have ly := lt_neg (cn_rg oy)
  have ex := eq_zero (cn_rg ox)
  have ey := eq_zero (cn_rg oy)
  have hG := agG_eq uy.f ux.f
  have bX : absC (some X) = some (rg .f64 X) := absC_some X
  have bY : absC (some Y) = some (rg .f64 Y) := absC_some Y
  have HT : Hid (agT Y X = if agG Y X then fop .quo .f64 (some (rg .f64 X)) (some (rg .f64 Y)) else fop .quo .f64 (some (rg .f64 Y)) (some (rg .f64 X))) := Lib.hid (by unfold agT; rfl)
  generalize agT Y X = T at *
  have H1 : ∀ g a, Hid (ang1 g a = if g then fop .sub .f64 (some 4598175219545276416) a else a) := fun g a => Lib.hid (by unfold ang1; rfl)
  have H2 : ∀ g a, Hid (ang2 g a = if g then fop .sub .f64 (some 4602678819172646912) a else a) := fun g a => Lib.hid (by unfold ang2; rfl)
  have H3 : ∀ g a, Hid (ang3 g a = if g then fneg a else a) := fun g a => Lib.hid (by unfold ang3; rfl)
  have HO : Hid (angO (agG Y X) (neg .f64 X) (neg .f64 Y) T = ang3 (neg .f64 Y) (ang2 (neg .f64 X) (ang1 (agG Y X) (agA (tN T 3))))) := Lib.hid (by unfold angO; rfl)
  generalize angO (agG Y X) (neg .f64 X) (neg .f64 Y) T = O at *
  have HA : Hid (agA (tN T 3) = fop .quo .f64 (fop .mul .f64 (some 4620693217682128896) (fop .mul .f64 (tN T 3) (aN (agU (tN T 3)) 8))) (some 4618760256179416344)) := Lib.hid (by unfold agA; rfl)
  have HV : Hid (agU (tN T 3) = fop .mul .f64 (tN T 3) (tN T 3)) := Lib.hid (by unfold agU; rfl)
  have HX0 := Lib.hid hz
  clear hz uy ux
  rcases hzx : decide (rg .f64 X = 0)
  all_goals
    rw [hzx] at ex
    try (have hzy : decide (rg .f64 Y = 0) = false := by
          have h1 := HX0.out
          simp at hzx
          simp [hzx] at h1 ⊢
          exact h1)
    try rw [hzy] at ey
    clear hzx
    rcases hg : agG Y X
    all_goals
      rcases hsx : neg .f64 X
      all_goals
        rcases hsy : neg .f64 Y
        all_goals
          rw [hg] at hG HT
          rw [hsx] at lx
          rw [hsy] at ly
          rw [hg, hsx, hsy] at HO
          go_enter Try.func53, Try.ntmps53
          go_wp2_with (first
            | (go_at_call 32; refine (Abs_any _ _).mono ?_; rintro e w' ⟨rfl, rfl⟩)
            | (refine wpList_fop rfl _ _ _ _ _ rfl (by decide) _ _ _ rfl rfl ?_; intro r n hr hrb))
          have hT : cn .f64 r = T := by rw [HT.out]; simp only [*]; rfl
          clear hr ex ey hfx hfy hF0
          go_loopg [8, 9] 4 (fun g t i wr => ∃ (j tb m : Nat), g = 4 - j ∧ j ≤ 3 ∧ t = .float .f64 tb ∧ cn .f64 tb = tN T j ∧ i = .int .i64 (j : Int) ∧ wr = w.drewN m)
          case atStart => exact ⟨0, _, _, rfl, by omega, rfl, hT, rfl, rfl⟩
          case round =>
            clear hT
            obtain ⟨j, tb, m, hgk, hj, rfl, ht, rfl, rfl⟩ := hrel
            by_cases hlt : j < 3
            · have HN : Hid (tN T (j + 1) = fop .quo .f64 (tN T j) (fop .add .f64 (some 4607182418800017408) (fsqrt (fop .add .f64 (some 4607182418800017408) (fop .mul .f64 (tN T j) (tN T j)))))) := Lib.hid (by rw [tN]; unfold agR; rfl)
              go_wp2_with (first
                | (go_at_call 43; refine (Sqrt_any _ _).mono ?_; rintro e w' ⟨r2, n2, rfl, rfl, hr2, hrb2⟩)
                | (refine wpList_fop rfl _ _ _ _ _ rfl (by decide) _ _ _ rfl rfl ?_; intro r n hr hrb))
              go_roundg (4 - (j + 1))
              case rel => exact ⟨j + 1, _, _, rfl, hlt, rfl, by rw [HN.out]; simp only [*], by first | rfl | (congr 1; omega) | congr 1, rfl⟩
              case measure => omega
            · have hj3 : j = 3 := by omega
              subst hj3
              clear hgk hj hlt
              go_wp2_with (refine wpList_fop rfl _ _ _ _ _ rfl (by decide) _ _ _ rfl rfl ?_; intro r n hr hrb)
              have hv : cn .f64 r = agU (tN T 3) := by rw [HV.out]; simp only [*]
              clear hr
              go_loopg [11, 12] 9 (fun g q k wr => ∃ (j qb m : Nat), g = 9 - j ∧ j ≤ 8 ∧ q = .float .f64 qb ∧ cn .f64 qb = aN (agU (tN T 3)) j ∧ k = .int .i64 (15 - 2 * (j : Int)) ∧ wr = w.drewN m)
              case atStart => exact ⟨0, _, _, rfl, by omega, rfl, c7, rfl, rfl⟩
              case round =>
                obtain ⟨j, qb, m, hgk, hj, rfl, hq, rfl, rfl⟩ := hrel
                by_cases hlt : j < 8
                · obtain ⟨_, _, q3, _, q5⟩ := ang_consts ⟨j, hlt⟩
                  dsimp only at q3 q5
                  have q6 := cn_of_rg .f64 _ (Nat.le_of_lt q5)
                  have HP : Hid (aN (agU (tN T 3)) (j + 1) = fop .sub .f64 (fop .quo .f64 (some 4607182418800017408) (some (KA j))) (fop .mul .f64 (agU (tN T 3)) (aN (agU (tN T 3)) j))) := Lib.hid rfl
                  clear q5
                  go_wp2_with (refine wpList_fop rfl _ _ _ _ _ rfl (by decide) _ _ _ rfl rfl ?_; intro r n hr hrb)
                  go_roundg (9 - (j + 1))
                  case rel => exact ⟨j + 1, _, _, rfl, hlt, rfl, by rw [HP.out]; simp only [*], by congr 1; omega, rfl⟩
                  case measure => omega
                · have hj8 : j = 8 := by omega
                  subst hj8
                  go_wp2_with (first
                    | (refine wpList_fop rfl _ _ _ _ _ rfl (by decide) _ _ _ rfl rfl ?_; intro r n hr hrb)
                    | (refine wpList_neg rfl _ _ rfl _ rfl (by assumption) ?_; intro r hr hrb))
                  go_ret
                  exact ⟨_, _, rfl, rfl, by rw [HO.out, (H3 _ _).out, (H2 _ _).out, (H1 _ _).out, HA.out]; simp only [*]; rfl⟩
end Go.Proofs.Ytlcmldgjkpjjfaa
