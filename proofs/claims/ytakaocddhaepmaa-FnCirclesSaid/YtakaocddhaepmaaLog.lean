/-
  The walks of naturalLog and of the reference's l01LogWide.
-/
import Derived.Test.YtakaocddhaepmaaLog0
namespace Go.Proofs.Ytakaocddhaepmaa
open Go.RowKit

theorem e_up' {n : Int} (h1 : 0 ≤ n) (h2 : n < 128) : fop .add .f64 (some (floatOfInt .f64 n)) (some 4607182418800017408) = some (floatOfInt .f64 (n + 1)) := by
  have h := e_up ⟨n.toNat, by omega⟩
  dsimp only at h
  rw [Int.toNat_of_nonneg h1] at h
  exact h
theorem e_dn' {n : Int} (h1 : -150 ≤ n) (h2 : n < 150) : fop .sub .f64 (some (floatOfInt .f64 n)) (some 4607182418800017408) = some (floatOfInt .f64 (n - 1)) := by
  have h := e_dn ⟨(n + 150).toNat, by omega⟩
  dsimp only at h
  rw [Int.toNat_of_nonneg (by omega), show n + 150 - 150 = n by omega] at h
  exact h
theorem cn_int {n : Int} (h : n.natAbs ≤ 256) : cn .f64 (floatOfInt .f64 n) = some (floatOfInt .f64 n) := cn_of_rg _ _ (Nat.le_of_lt (int_fin n (by omega)).1)
theorem d_two : cn .f64 4611686018427387904 = some 4611686018427387904 := cn_num (by decide)
theorem d_15 : cn .f64 4609434218613702656 = some 4609434218613702656 := cn_num (by decide)
theorem d_75 : cn .f64 4604930618986332160 = some 4604930618986332160 := cn_num (by decide)
theorem d_ln2 : cn .f64 4604418534313441775 = some 4604418534313441775 := cn_num (by decide)
theorem d_zero : cn .f64 0 = some 0 := cn_num (by decide)
theorem f_zero : floatOfInt .f64 0 = 0 := by decide
set_option maxHeartbeats 4000000 in
theorem naturalLog_any (b : Nat) (w : World) (h : ps (cn .f64 b) (-150)) (hx : le2 (cn .f64 b) 128) : Calls Try.prog 30 #[.float .f64 b] w fun e w' => ∃ r n, e = .returned (.float .f64 r) ∧ w' = w.drewN n ∧ cn .f64 r = lgN (cn .f64 b) ∧ r < 2 ^ FloatKind.f64.format.width := by
  have ho := fun a b => order_cn .f64 a b
  have c1 := c_one
  have c2 := d_two
  have c3 := d_15
  have c4 := d_75
  have c5 := d_ln2
  have c0 := d_zero
  obtain ⟨a1, a2, a3, a4⟩ := upR_facts 128 0 (cn .f64 b) (by omega) h hx
  obtain ⟨b1, b2, b3, b4⟩ := dnR_facts 150 (upR 128 0 (cn .f64 b)).1 (upR 128 0 (cn .f64 b)).2 (by omega) a1 a2
  have HN : Hid (lgN (cn .f64 b) = lgF (dnR 150 (upR 128 0 (cn .f64 b)).1 (upR 128 0 (cn .f64 b)).2).1 (dnR 150 (upR 128 0 (cn .f64 b)).1 (upR 128 0 (cn .f64 b)).2).2) := Lib.hid (by unfold lgN; rfl)
  generalize hU : upR 128 0 (cn .f64 b) = P1 at *
  generalize hD : dnR 150 P1.1 P1.2 = P2 at *
  obtain ⟨E1, X1⟩ := P1
  obtain ⟨E2, X2⟩ := P2
  dsimp only at a1 a2 a3 a4 b1 b2 b3 b4 HN hD
  have HU := Lib.hid hU
  have HD := Lib.hid hD
  have HX := Lib.hid hx
  have A1 := Lib.hid a1
  have A2 := Lib.hid a2
  have h15 : ∀ x, (ford .f64 x (some 4609434218613702656) == some Ordering.gt || ford .f64 x (some 4609434218613702656) == some Ordering.eq) = ge15 x := fun x => by unfold ge15; rfl
  have h75 : ∀ x, (ford .f64 x (some 4604930618986332160) == some Ordering.lt) = lt75 x := fun x => by unfold lt75; rfl
  clear h hx hU hD a1 a2
  go_enter Try.func30, Try.ntmps30
  go_wp2
  go_loopg [0, 3] 129 (fun g x e wr => ∃ (f xb eb m : Nat) (n : Int), g = f + 1 ∧ f ≤ 128 ∧ x = .float .f64 xb ∧ e = .float .f64 eb ∧ cn .f64 eb = some (floatOfInt .f64 n) ∧ 0 ≤ n ∧ n ≤ 128 - f ∧ upR f n (cn .f64 xb) = (E1, X1) ∧ le2 (cn .f64 xb) f ∧ wr = w.drewN m)
  case atStart => exact ⟨128, _, _, 0, 0, rfl, by omega, rfl, rfl, by rw [f_zero]; exact c0, by omega, by omega, HU.out, HX.out, rfl⟩
  case round =>
    obtain ⟨f, xb, eb, m, n, hg, hf, rfl, rfl, he, hn1, hn2, hrun, hle, rfl⟩ := hrel
    have HR := Lib.hid hrun
    have HL := Lib.hid hle
    clear hrun hle
    rcases hc : ge15 (cn .f64 xb)
    · have HE : Hid (n = E1 ∧ cn .f64 xb = X1) := Lib.hid (by
        have hr := HR.out
        cases f with
        | zero => unfold upR at hr; exact Prod.mk.inj hr
        | succ f => unfold upR at hr; rw [hc] at hr; exact Prod.mk.inj hr)
      go_wp2
      have h2 := HE.out
      clear hc HR HL HE
      go_loopg [0, 3] 151 (fun g x e wr => ∃ (f xb eb m : Nat) (n : Int), g = f + 1 ∧ f ≤ 150 ∧ x = .float .f64 xb ∧ e = .float .f64 eb ∧ cn .f64 eb = some (floatOfInt .f64 n) ∧ n ≤ 128 ∧ (f : Int) - 150 ≤ n ∧ dnR f n (cn .f64 xb) = (E2, X2) ∧ ps (cn .f64 xb) (-f) ∧ le2 (cn .f64 xb) 1 ∧ wr = w.drewN m)
      case atStart => exact ⟨150, _, _, _, n, rfl, by omega, rfl, rfl, he, by omega, by omega, by rw [h2.1, h2.2]; exact HD.out, by rw [h2.2]; exact A1.out, by rw [h2.2]; exact A2.out, rfl⟩
      case round =>
        clear he h2 hn1 hn2 hf hg
        obtain ⟨f, xb, eb, m, n, hg, hf, rfl, rfl, he, hn1, hn2, hrun, hps, hle, rfl⟩ := hrel
        have HR := Lib.hid hrun
        have HP := Lib.hid hps
        have HL := Lib.hid hle
        clear hrun hle hps
        rcases hc : lt75 (cn .f64 xb)
        · have HE : Hid (n = E2 ∧ cn .f64 xb = X2) := Lib.hid (by
            have hr := HR.out
            cases f with
            | zero => unfold dnR at hr; exact Prod.mk.inj hr
            | succ f => unfold dnR at hr; rw [hc] at hr; exact Prod.mk.inj hr)
          obtain ⟨g1, g2⟩ := HE.out
          clear HE HR HP HL
          rw [g2] at hc
          have HS : Hid (lgS X2 = fop .quo .f64 (fop .sub .f64 X2 (some 4607182418800017408)) (fop .add .f64 X2 (some 4607182418800017408))) := Lib.hid (by unfold lgS; rfl)
          have HV : Hid (lgU X2 = fop .mul .f64 (lgS X2) (lgS X2)) := Lib.hid (by unfold lgU; rfl)
          go_wp2_with (refine wpList_fop rfl _ _ _ _ _ rfl (by decide) _ _ _ rfl rfl ?_; intro r nd hr hrb)
          rename_i rs ns hrs hrbs _ _
          have hs : cn .f64 rs = lgS X2 := by rw [HS.out]; simp only [*]
          have hv : cn .f64 r = lgU X2 := by rw [HV.out, ← hs]; exact hr
          clear hr hrs
          go_loopg [6, 7] 14 (fun g q k wr => ∃ (j qb kb m : Nat), g = 14 - j ∧ j ≤ 13 ∧ q = .float .f64 qb ∧ cn .f64 qb = qN (lgU X2) j ∧ k = .float .f64 kb ∧ cn .f64 kb = some (KL j) ∧ wr = w.drewN m)
          case atStart => exact ⟨0, _, _, _, rfl, by omega, rfl, c0, rfl, cn_num (by decide), rfl⟩
          case round =>
            clear hg
            obtain ⟨j, qb, kb, m, hg, hj, rfl, hq, rfl, hk, rfl⟩ := hrel
            by_cases hlt : j < 13
            · obtain ⟨q1, q2, _⟩ := log_consts ⟨j, hlt⟩
              dsimp only at q1 q2
              have HP : Hid (qN (lgU X2) (j + 1) = fop .add .f64 (fop .quo .f64 (some 4607182418800017408) (some (KL j))) (fop .mul .f64 (lgU X2) (qN (lgU X2) j))) := Lib.hid rfl
              go_wp2_with (refine wpList_fop rfl _ _ _ _ _ rfl (by decide) _ _ _ rfl rfl ?_; intro r nd hr hrb)
              go_roundg (14 - (j + 1))
              case rel => exact ⟨j + 1, _, _, _, rfl, hlt, rfl, by rw [HP.out]; simp only [*], rfl, by simp only [*], rfl⟩
              case measure => omega
            · have hj8 : j = 13 := by omega
              subst hj8
              have q5 := log_last
              have HF : Hid (lgF E2 X2 = fop .add .f64 (fop .mul .f64 (some 4611686018427387904) (fop .mul .f64 (lgS X2) (qN (lgU X2) 13))) (fop .mul .f64 (some (floatOfInt .f64 E2)) (some 4604418534313441775))) := Lib.hid (by unfold lgF; rfl)
              go_wp2_with (refine wpList_fop rfl _ _ _ _ _ rfl (by decide) _ _ _ rfl rfl ?_; intro r nd hr hrb)
              go_ret
              refine ⟨_, _, rfl, rfl, ?_, by assumption⟩
              rw [HN.out, HF.out]
              simp only [*]
        · obtain ⟨f, rfl⟩ : ∃ f', f = f' + 1 := by
            cases f with
            | zero => rw [lt75_end HP.out HL.out (inP_of' (by omega) (by omega))] at hc; cases hc
            | succ f => exact ⟨f, rfl⟩
          have hr := HR.out
          unfold dnR at hr
          rw [hc, if_pos rfl] at hr
          have HR2 := Lib.hid hr
          have HP2 := Lib.hid (twice_ps HP.out (inP_of' (by omega) (by omega)) (inP_of' (by omega) (by omega)) HL.out)
          have HL2 := Lib.hid (twice_le HP.out HL.out hc)
          have HH : Hid (twiceC (cn .f64 xb) = fop .mul .f64 (cn .f64 xb) (some 4611686018427387904)) := Lib.hid (by unfold twiceC; rfl)
          have hu := e_dn' (n := n) (by omega) (by omega)
          clear hr
          go_wp2_with (refine wpList_fop rfl _ _ _ _ _ rfl (by decide) _ _ _ rfl rfl ?_; intro r nd hr hrb)
          go_roundg (f + 1)
          case rel =>
            rename_i rx nx hrx hrbx
            have hx2 : cn .f64 rx = twiceC (cn .f64 xb) := by rw [HH.out]; simp only [*]
            have hl2 := HP2.out
            rw [show -((f + 1 : Nat) : Int) + 1 = -(f : Int) by omega] at hl2
            exact ⟨f, _, _, _, n - 1, rfl, by omega, rfl, rfl, by simp only [*], by omega, by omega, by rw [hx2]; exact HR2.out, by rw [hx2]; exact hl2, by rw [hx2]; exact HL2.out, rfl⟩
          case measure => omega
    · obtain ⟨f, rfl⟩ : ∃ f', f = f' + 1 := by
        cases f with
        | zero => rw [ge15_end HL.out] at hc; cases hc
        | succ f => exact ⟨f, rfl⟩
      have hr := HR.out
      unfold upR at hr
      rw [hc, if_pos rfl] at hr
      have HR2 := Lib.hid hr
      have HL2 := Lib.hid (half_le HL.out (inP_of' (by omega) (by omega)) (inP_of' (by omega) (by omega)))
      have HH : Hid (halfC (cn .f64 xb) = fop .quo .f64 (cn .f64 xb) (some 4611686018427387904)) := Lib.hid (by unfold halfC; rfl)
      have hu := e_up' hn1 (by omega)
      clear hr
      go_wp2_with (refine wpList_fop rfl _ _ _ _ _ rfl (by decide) _ _ _ rfl rfl ?_; intro r nd hr hrb)
      go_roundg (f + 1)
      case rel =>
        rename_i rx nx hrx hrbx
        have hx2 : cn .f64 rx = halfC (cn .f64 xb) := by rw [HH.out]; simp only [*]
        have hl2 := HL2.out
        rw [show ((f + 1 : Nat) : Int) - 1 = f by omega] at hl2
        exact ⟨f, _, _, _, n + 1, rfl, by omega, rfl, rfl, by simp only [*], by omega, by omega, by rw [hx2]; exact HR2.out, by rw [hx2]; exact hl2, rfl⟩
      case measure => omega
end Go.Proofs.Ytakaocddhaepmaa
