/-
  The walk of AngleTurns.
-/
import Derived.Test.YtakaocddhaepmaaAngle1
import Derived.Test.YtakaocddhaepmaaTurns
namespace Go.Proofs.Ytakaocddhaepmaa
open Go.RowKit

theorem e_quart : cn .f64 4598175219545276416 = some 4598175219545276416 := cn_num (by decide)
theorem e_eight : cn .f64 4620693217682128896 = some 4620693217682128896 := cn_num (by decide)
theorem e_turn : cn .f64 4618760256179416344 = some 4618760256179416344 := cn_num (by decide)
set_option maxHeartbeats 8000000 in
theorem AngleTurns_main (y x Y X : Nat) (w : World) (uy : Up y Y) (ux : Up x X) (hz : ¬ (rg .f64 X = 0 ∧ rg .f64 Y = 0)) (hfx : isFin .f32 (some x) = true) (hfy : isFin .f32 (some y) = true) :
    Calls Try.prog 24 #[.float .f32 y, .float .f32 x] w fun e w' => ∃ r n, e = .returned (.float .f32 r) ∧ w' = w.drewN n ∧ cn .f32 r = cvF .f64 .f32 (angO (agG Y X) (neg .f32 x) (neg .f32 y) (agT Y X)) := by
  have ho := fun a b => order_cn .f32 a b
  have ho2 := fun a b => order_cn .f64 a b
  have hab := fun b => cn_abs b
  have c0 : cn .f32 0 = some 0 := cn_num (by decide)
  have c1 := c_one
  have c2 := d_two
  have c3 := e_quart
  have c4 := c_half
  have c5 := e_eight
  have c6 := e_turn
  have c7 := d_zero
  have ox := ux.own32
  have oy := uy.own32
  have lx := lt_neg (cn_rg ox)
  have ly := lt_neg (cn_rg oy)
  have ex := eq_zero (cn_rg ox)
  have ey := eq_zero (cn_rg oy)
  have hG := agG_eq uy.f ux.f
  have bX : absC (some X) = some (rg .f64 X) := absC_some X
  have bY : absC (some Y) = some (rg .f64 Y) := absC_some Y
  have HUX := Lib.hid ux.cv
  have HUY := Lib.hid uy.cv
  have HL := Lib.hid (angO_le (g := agG Y X) (sx := neg .f32 x) (sy := neg .f32 y) (agT_le uy ux hz))
  have HT : Hid (agT Y X = if agG Y X then fop .quo .f64 (some (rg .f64 X)) (some (rg .f64 Y)) else fop .quo .f64 (some (rg .f64 Y)) (some (rg .f64 X))) := Lib.hid (by unfold agT; rfl)
  rw [ux.zero, uy.zero] at hz
  rw [ox] at HUX
  rw [oy] at HUY
  generalize agT Y X = T at *
  have H1 : ∀ g a, Hid (ang1 g a = if g then fop .sub .f64 (some 4598175219545276416) a else a) := fun g a => Lib.hid (by unfold ang1; rfl)
  have H2 : ∀ g a, Hid (ang2 g a = if g then fop .sub .f64 (some 4602678819172646912) a else a) := fun g a => Lib.hid (by unfold ang2; rfl)
  have H3 : ∀ g a, Hid (ang3 g a = if g then fneg a else a) := fun g a => Lib.hid (by unfold ang3; rfl)
  have HO : Hid (angO (agG Y X) (neg .f32 x) (neg .f32 y) T = ang3 (neg .f32 y) (ang2 (neg .f32 x) (ang1 (agG Y X) (agA (tN T 3))))) := Lib.hid (by unfold angO; rfl)
  generalize angO (agG Y X) (neg .f32 x) (neg .f32 y) T = O at *
  have HA : Hid (agA (tN T 3) = fop .quo .f64 (fop .mul .f64 (some 4620693217682128896) (fop .mul .f64 (tN T 3) (aN (agU (tN T 3)) 8))) (some 4618760256179416344)) := Lib.hid (by unfold agA; rfl)
  have HV : Hid (agU (tN T 3) = fop .mul .f64 (tN T 3) (tN T 3)) := Lib.hid (by unfold agU; rfl)
  have HX0 := Lib.hid hz
  clear hz uy ux
  rcases hzx : decide (rg .f32 x = 0)
  all_goals
    rw [hzx] at ex
    try (have hzy : decide (rg .f32 y = 0) = false := by
          have h1 := HX0.out
          simp at hzx
          simp [hzx] at h1 ⊢
          exact h1)
    try rw [hzy] at ey
    clear hzx
    rcases hg : agG Y X
    all_goals
      rcases hsx : neg .f32 x
      all_goals
        rcases hsy : neg .f32 y
        all_goals
          rw [hg] at hG HT
          rw [hsx] at lx
          rw [hsy] at ly
          rw [hg, hsx, hsy] at HO
          go_enter Try.func24, Try.ntmps24
          go_wp2_with (first
            | (go_at_call 28; refine (IsFinite_any _ _).mono ?_; rintro e w' ⟨n, rfl, rfl⟩)
            | (go_at_call 20; refine (Abs_any _ _).mono ?_; rintro e w' ⟨rfl, rfl⟩)
            | (refine wpList_up rfl _ _ _ rfl _ rfl Try.underlying31 Try.underlying22 ?_; intro r1 n hr1 hrb1; first | (rw [oy, HUY.out] at hr1; obtain rfl := (cn_some hr1).1) | (rw [ox, HUX.out] at hr1; obtain rfl := (cn_some hr1).1))
            | (refine wpList_fop rfl _ _ _ _ _ rfl (by decide) _ _ _ rfl rfl ?_; intro r n hr hrb))
          have hT : cn .f64 r = T := by rw [HT.out]; simp only [*]; rfl
          clear hr ex ey hfx hfy
          go_loopg [7, 43] 4 (fun g t i wr => ∃ (j tb m : Nat), g = 4 - j ∧ j ≤ 3 ∧ t = .float .f64 tb ∧ cn .f64 tb = tN T j ∧ i = .int .i64 (j : Int) ∧ wr = w.drewN m)
          case atStart => exact ⟨0, _, _, rfl, by omega, rfl, hT, rfl, rfl⟩
          case round =>
            clear hT
            obtain ⟨j, tb, m, hgk, hj, rfl, ht, rfl, rfl⟩ := hrel
            by_cases hlt : j < 3
            · have HN : Hid (tN T (j + 1) = fop .quo .f64 (tN T j) (fop .add .f64 (some 4607182418800017408) (fsqrt (fop .add .f64 (some 4607182418800017408) (fop .mul .f64 (tN T j) (tN T j)))))) := Lib.hid (by rw [tN]; unfold agR; rfl)
              go_wp2_with (first
                | (go_at_call 37; refine (Sqrt_any _ _).mono ?_; rintro e w' ⟨r2, n2, rfl, rfl, hr2, hrb2⟩)
                | (refine wpList_fop rfl _ _ _ _ _ rfl (by decide) _ _ _ rfl rfl ?_; intro r n hr hrb))
              go_roundg (4 - (j + 1))
              case rel => exact ⟨j + 1, _, _, rfl, hlt, rfl, by rw [HN.out]; simp only [*], by simp, rfl⟩
              case measure => omega
            · have hj3 : j = 3 := by omega
              subst hj3
              clear hgk hj hlt
              go_wp2_with (refine wpList_fop rfl _ _ _ _ _ rfl (by decide) _ _ _ rfl rfl ?_; intro r n hr hrb)
              have hv : cn .f64 r = agU (tN T 3) := by rw [HV.out]; simp only [*]
              clear hr
              go_loopg [9, 10] 9 (fun g q k wr => ∃ (j qb kb m : Nat), g = 9 - j ∧ j ≤ 8 ∧ q = .float .f64 qb ∧ cn .f64 qb = aN (agU (tN T 3)) j ∧ k = .float .f64 kb ∧ cn .f64 kb = some (KA j) ∧ wr = w.drewN m)
              case atStart => exact ⟨0, _, _, _, rfl, by omega, rfl, c7, rfl, cn_num (by decide), rfl⟩
              case round =>
                obtain ⟨j, qb, kb, m, hgk, hj, rfl, hq, rfl, hk, rfl⟩ := hrel
                by_cases hlt : j < 8
                · obtain ⟨q1, q2, _⟩ := ang_consts ⟨j, hlt⟩
                  dsimp only at q1 q2
                  have HP : Hid (aN (agU (tN T 3)) (j + 1) = fop .sub .f64 (fop .quo .f64 (some 4607182418800017408) (some (KA j))) (fop .mul .f64 (agU (tN T 3)) (aN (agU (tN T 3)) j))) := Lib.hid rfl
                  go_wp2_with (refine wpList_fop rfl _ _ _ _ _ rfl (by decide) _ _ _ rfl rfl ?_; intro r n hr hrb)
                  go_roundg (9 - (j + 1))
                  case rel => exact ⟨j + 1, _, _, _, rfl, hlt, rfl, by rw [HP.out]; simp only [*], rfl, by simp only [*], rfl⟩
                  case measure => omega
                · have hj8 : j = 8 := by omega
                  subst hj8
                  have q5 := ang_last
                  go_wp2_with (first
                    | (refine wpList_fop rfl _ _ _ _ _ rfl (by decide) _ _ _ rfl rfl ?_; intro r n hr hrb)
                    | (refine wpList_neg rfl _ _ rfl _ rfl (by assumption) ?_; intro r hr hrb)
                    | (refine wpList_down rfl _ _ _ rfl _ rfl Try.underlying22 Try.underlying31 ?_ ?_
                       · have hD : cn .f64 r = O := by (rw [HO.out, (H3 _ _).out, (H2 _ _).out, (H1 _ _).out, HA.out]; simp only [*]; rfl)
                         rw [hD]; exact fits_down HL.out
                       intro r2 n hr2 hrb2))
                  go_ret
                  exact ⟨_, _, rfl, rfl, by rw [HO.out, (H3 _ _).out, (H2 _ _).out, (H1 _ _).out, HA.out]; simp only [*]; rfl⟩
end Go.Proofs.Ytakaocddhaepmaa
