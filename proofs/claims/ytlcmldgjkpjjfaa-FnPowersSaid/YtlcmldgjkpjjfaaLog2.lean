/-
  The walk of the reference's l01LogWide.
-/
import Derived.Test.YtlcmldgjkpjjfaaLog
import Derived.Test.YtlcmldgjkpjjfaaFlo
namespace Go.Proofs.Ytlcmldgjkpjjfaa
open Go.RowKit

theorem d_max : cn .f64 9218868437227405311 = some 9218868437227405311 := cn_num (by decide)
theorem d_ninf : cn .f64 18442240474082181120 = some 18442240474082181120 := cn_num (by decide)
set_option maxHeartbeats 400000 in
theorem IsInf1_any (b : Nat) (w : World) : Calls Try.prog 55 #[.float .f64 b, .int .i64 1] w fun e w' => e = .returned (.bool (ford .f64 (cn .f64 b) (some 9218868437227405311) == some Ordering.gt)) ∧ w = w' := by
  have ho := fun a b => order_cn .f64 a b
  have c1 := d_max
  go_enter Try.func55, Try.ntmps55
  go_wp2
  go_ret
  exact ⟨rfl, rfl⟩
set_option maxHeartbeats 400000 in
theorem Infm1_any (w : World) : Calls Try.prog 28 #[.int .i64 (-1)] w fun e w' => e = .returned (.float .f64 18442240474082181120) ∧ w = w' := by
  have h2 := call_f64from
  go_enter Try.func28, Try.ntmps28
  go_wp2
  go_ret
  exact ⟨rfl, rfl⟩
theorem eq_self {k : FloatKind} {b : Nat} (h : rg k b ≤ k.format.infRung) : (ford k (some b) (some b) != some Ordering.eq) = false := by
  rw [ford_cmp h h, o_ne]; simp
theorem lt_zero {k : FloatKind} {b : Nat} (h : rg k b ≤ k.format.infRung) : (ford k (some b) (some 0) == some Ordering.lt) = decide (sg k b = true ∧ 0 < rg k b) := by
  rw [ford_cmp h (rg0 k), o_lt, key0]
  unfold key
  rw [Bool.eq_iff_iff]; cases sg k b <;> simp <;> omega
theorem eq_zero {k : FloatKind} {b : Nat} (h : rg k b ≤ k.format.infRung) : (ford k (some b) (some 0) == some Ordering.eq) = decide (rg k b = 0) := by
  rw [ford_cmp h (rg0 k), o_eq, key0]
  unfold key
  rw [Bool.eq_iff_iff]; cases sg k b <;> simp
theorem gt_max {b : Nat} (h : rg .f64 b ≤ FloatKind.f64.format.infRung) : (ford .f64 (some b) (some 9218868437227405311) == some Ordering.gt) = decide (sg .f64 b = false ∧ rg .f64 b = FloatKind.f64.format.infRung) := by
  have hk : key .f64 9218868437227405311 = 9218868437227405311 := by decide
  rw [ford_cmp h (by decide), o_gt, hk]
  rw [D_inf] at *
  unfold key
  rw [Bool.eq_iff_iff]; cases sg .f64 b <;> simp <;> omega
theorem log_wrap : ∀ j : Fin 13, wrap64 (25 - 2 * (j.val : Int) - 2) = 25 - 2 * ((j.val + 1 : Nat) : Int) := by
  unfold wrap64; decide
set_option maxHeartbeats 4000000 in
theorem l01LogWide_fin (b : Nat) (w : World) (h : ps (cn .f64 b) (-150)) (hx : le2 (cn .f64 b) 128) : Calls Try.prog 49 #[.float .f64 b] w fun e w' => ∃ r n, e = .returned (.float .f64 r) ∧ w' = w.drewN n ∧ cn .f64 r = lgN (cn .f64 b) ∧ r < 2 ^ FloatKind.f64.format.width := by
  have ho := fun a b => order_cn .f64 a b
  have c1 := c_one
  have c2 := d_two
  have c3 := d_15
  have c4 := d_75
  have c5 := d_ln2
  have c0 := d_zero
  have t0 : cn .f64 b = some b ∧ (ford .f64 (some b) (some b) != some Ordering.eq) = false ∧ (ford .f64 (some b) (some 0) == some Ordering.lt) = false ∧ (ford .f64 (some b) (some 0) == some Ordering.eq) = false ∧ (ford .f64 (some b) (some 9218868437227405311) == some Ordering.gt) = false := by
    have gx := fi_le2 (inP_of' (by omega) (by omega)) hx
    unfold ps at h
    obtain ⟨b', h1, h2, h3⟩ := h
    have hb := cn_some h1
    have hbb := hb.1
    subst hbb
    rw [h1] at gx
    have hf := fi_some.1 gx
    have hle : rg .f64 b ≤ FloatKind.f64.format.infRung := Nat.le_of_lt hf
    have hp := RD_pos (p := -150) (inP_of' (by omega) (by omega))
    unfold fin at hf
    refine ⟨h1, eq_self hle, ?_, ?_, ?_⟩
    · rw [lt_zero hle, h2]; simp
    · rw [eq_zero hle]; simp; omega
    · rw [gt_max hle]; simp; omega
  obtain ⟨t1, t2, t3, t4, t5⟩ := t0
  rw [t1] at h hx ⊢
  obtain ⟨a1, a2, a3, a4⟩ := upR_facts 128 0 (some b) (by omega) h hx
  obtain ⟨b1, b2, b3, b4⟩ := dnR_facts 150 (upR 128 0 (some b)).1 (upR 128 0 (some b)).2 (by omega) a1 a2
  have HN : Hid (lgN (some b) = lgF (dnR 150 (upR 128 0 (some b)).1 (upR 128 0 (some b)).2).1 (dnR 150 (upR 128 0 (some b)).1 (upR 128 0 (some b)).2).2) := Lib.hid (by unfold lgN; rfl)
  have HX := Lib.hid hx
  generalize hU : upR 128 0 (some b) = P1 at *
  generalize hD : dnR 150 P1.1 P1.2 = P2 at *
  obtain ⟨E1, X1⟩ := P1
  obtain ⟨E2, X2⟩ := P2
  dsimp only at a1 a2 a3 a4 b1 b2 b3 b4 HN hD
  have HU := Lib.hid hU
  have HD := Lib.hid hD
  have A1 := Lib.hid a1
  have A2 := Lib.hid a2
  have h15 : ∀ x, (ford .f64 x (some 4609434218613702656) == some Ordering.gt || ford .f64 x (some 4609434218613702656) == some Ordering.eq) = ge15 x := fun x => by unfold ge15; rfl
  have h75 : ∀ x, (ford .f64 x (some 4604930618986332160) == some Ordering.lt) = lt75 x := fun x => by unfold lt75; rfl
  have T1 := Lib.hid t1
  clear h hx hU hD a1 a2
  go_enter Try.func49, Try.ntmps49
  go_wp2_with (go_at_call 55; refine (IsInf1_any _ _).mono ?_; rintro e w' ⟨rfl, rfl⟩)
  clear t2 t3 t4 t5
  go_loopg [0, 3] 129 (fun g x e wr => ∃ (f xb m : Nat) (n : Int), g = f + 1 ∧ f ≤ 128 ∧ x = .float .f64 xb ∧ e = .int .i64 n ∧ 0 ≤ n ∧ n ≤ 128 - f ∧ upR f n (cn .f64 xb) = (E1, X1) ∧ le2 (cn .f64 xb) f ∧ wr = w.drewN m)
  case atStart => exact ⟨128, _, 0, 0, rfl, by omega, rfl, rfl, by omega, by omega, by rw [T1.out]; exact HU.out, by rw [T1.out]; exact HX.out, rfl⟩
  case round =>
    clear t1
    obtain ⟨f, xb, m, n, hg, hf, rfl, rfl, hn1, hn2, hrun, hle, rfl⟩ := hrel
    have HR := Lib.hid hrun
    have HL := Lib.hid hle
    clear hrun hle
    rcases hc : ge15 (cn .f64 xb)
    · have HE : Hid (n = E1 ∧ cn .f64 xb = X1) := Lib.hid (by
        have hr := HR.out
        cases f with
        | zero => unfold upR at hr; exact Prod.mk.inj hr
        | succ f => unfold upR at hr; rw [hc] at hr; exact Prod.mk.inj hr)
      go_wp2
      have h2 := HE.out
      clear hc HR HL HE
      go_loopg [0, 3] 151 (fun g x e wr => ∃ (f xb m : Nat) (n : Int), g = f + 1 ∧ f ≤ 150 ∧ x = .float .f64 xb ∧ e = .int .i64 n ∧ n ≤ 128 ∧ (f : Int) - 150 ≤ n ∧ dnR f n (cn .f64 xb) = (E2, X2) ∧ ps (cn .f64 xb) (-f) ∧ le2 (cn .f64 xb) 1 ∧ wr = w.drewN m)
      case atStart => exact ⟨150, _, _, n, rfl, by omega, rfl, rfl, by omega, by omega, by rw [h2.1, h2.2]; exact HD.out, by rw [h2.2]; exact A1.out, by rw [h2.2]; exact A2.out, rfl⟩
      case round =>
        clear h2 hn1 hn2 hf hg
        obtain ⟨f, xb, m, n, hg, hf, rfl, rfl, hn1, hn2, hrun, hps, hle, rfl⟩ := hrel
        have HR := Lib.hid hrun
        have HP := Lib.hid hps
        have HL := Lib.hid hle
        clear hrun hle hps
        rcases hc : lt75 (cn .f64 xb)
        · have HE : Hid (n = E2 ∧ cn .f64 xb = X2) := Lib.hid (by
            have hr := HR.out
            cases f with
            | zero => unfold dnR at hr; exact Prod.mk.inj hr
            | succ f => unfold dnR at hr; rw [hc] at hr; exact Prod.mk.inj hr)
          obtain ⟨g1, g2⟩ := HE.out
          subst g1
          clear HE HR HP HL
          rw [g2] at hc
          have HS : Hid (lgS X2 = fop .quo .f64 (fop .sub .f64 X2 (some 4607182418800017408)) (fop .add .f64 X2 (some 4607182418800017408))) := Lib.hid (by unfold lgS; rfl)
          have HV : Hid (lgU X2 = fop .mul .f64 (lgS X2) (lgS X2)) := Lib.hid (by unfold lgU; rfl)
          go_wp2_with (refine wpList_fop rfl _ _ _ _ _ rfl (by decide) _ _ _ rfl rfl ?_; intro r nd hr hrb)
          rename_i rs ns hrs hrbs _ _
          have hs : cn .f64 rs = lgS X2 := by rw [HS.out]; simp only [*]
          have hv : cn .f64 r = lgU X2 := by rw [HV.out, ← hs]; exact hr
          clear hr hrs
          go_loopg [6, 7] 14 (fun g q k wr => ∃ (j qb m : Nat), g = 14 - j ∧ j ≤ 13 ∧ q = .float .f64 qb ∧ cn .f64 qb = qN (lgU X2) j ∧ k = .int .i64 (25 - 2 * (j : Int)) ∧ wr = w.drewN m)
          case atStart => exact ⟨0, _, _, rfl, by omega, rfl, c0, rfl, rfl⟩
          case round =>
            clear hg
            obtain ⟨j, qb, m, hg, hj, rfl, hq, rfl, rfl⟩ := hrel
            by_cases hlt : j < 13
            · obtain ⟨_, _, q3, _, q5⟩ := log_consts ⟨j, hlt⟩
              dsimp only at q3 q5
              have q6 := cn_of_rg .f64 _ (Nat.le_of_lt q5)
              have HP : Hid (qN (lgU X2) (j + 1) = fop .add .f64 (fop .quo .f64 (some 4607182418800017408) (some (KL j))) (fop .mul .f64 (lgU X2) (qN (lgU X2) j))) := Lib.hid rfl
              clear q5
              go_wp2_with (refine wpList_fop rfl _ _ _ _ _ rfl (by decide) _ _ _ rfl rfl ?_; intro r nd hr hrb)
              go_roundg (14 - (j + 1))
              case rel => exact ⟨j + 1, _, _, rfl, hlt, rfl, by rw [HP.out]; simp only [*], by congr 1; omega, rfl⟩
              case measure => omega
            · have hj8 : j = 13 := by omega
              subst hj8
              have ce := cn_int (n := n) (by omega)
              have HF : Hid (lgF n X2 = fop .add .f64 (fop .mul .f64 (some 4611686018427387904) (fop .mul .f64 (lgS X2) (qN (lgU X2) 13))) (fop .mul .f64 (some (floatOfInt .f64 n)) (some 4604418534313441775))) := Lib.hid (by unfold lgF; rfl)
              go_wp2_with (refine wpList_fop rfl _ _ _ _ _ rfl (by decide) _ _ _ rfl rfl ?_; intro r nd hr hrb)
              go_ret
              refine ⟨_, _, rfl, rfl, ?_, by assumption⟩
              rw [HN.out, HF.out]
              simp only [*]
        · obtain ⟨f, rfl⟩ : ∃ f', f = f' + 1 := by
            cases f with
            | zero => rw [lt75_end HP.out HL.out (inP_of' (by omega) (by omega))] at hc; cases hc
            | succ f => exact ⟨f, rfl⟩
          have hr := HR.out
          unfold dnR at hr
          rw [hc, if_pos rfl] at hr
          have HR2 := Lib.hid hr
          have HP2 := Lib.hid (twice_ps HP.out (inP_of' (by omega) (by omega)) (inP_of' (by omega) (by omega)) HL.out)
          have HL2 := Lib.hid (twice_le HP.out HL.out hc)
          have HH : Hid (twiceC (cn .f64 xb) = fop .mul .f64 (cn .f64 xb) (some 4611686018427387904)) := Lib.hid (by unfold twiceC; rfl)
          clear hr
          go_wp2_with (refine wpList_fop rfl _ _ _ _ _ rfl (by decide) _ _ _ rfl rfl ?_; intro r nd hr hrb)
          go_roundg (f + 1)
          case rel =>
            have hx2 : cn .f64 r = twiceC (cn .f64 xb) := by rw [HH.out]; simp only [*]
            have hl2 := HP2.out
            rw [show -((f + 1 : Nat) : Int) + 1 = -(f : Int) by omega] at hl2
            exact ⟨f, _, _, n - 1, rfl, by omega, rfl, rfl, by omega, by omega, by rw [hx2]; exact HR2.out, by rw [hx2]; exact hl2, by rw [hx2]; exact HL2.out, rfl⟩
          case measure => omega
    · obtain ⟨f, rfl⟩ : ∃ f', f = f' + 1 := by
        cases f with
        | zero => rw [ge15_end HL.out] at hc; cases hc
        | succ f => exact ⟨f, rfl⟩
      have hr := HR.out
      unfold upR at hr
      rw [hc, if_pos rfl] at hr
      have HR2 := Lib.hid hr
      have HL2 := Lib.hid (half_le HL.out (inP_of' (by omega) (by omega)) (inP_of' (by omega) (by omega)))
      have HH : Hid (halfC (cn .f64 xb) = fop .quo .f64 (cn .f64 xb) (some 4611686018427387904)) := Lib.hid (by unfold halfC; rfl)
      clear hr
      go_wp2_with (refine wpList_fop rfl _ _ _ _ _ rfl (by decide) _ _ _ rfl rfl ?_; intro r nd hr hrb)
      go_roundg (f + 1)
      case rel =>
        have hx2 : cn .f64 r = halfC (cn .f64 xb) := by rw [HH.out]; simp only [*]
        have hl2 := HL2.out
        rw [show ((f + 1 : Nat) : Int) - 1 = f by omega] at hl2
        exact ⟨f, _, _, n + 1, rfl, by omega, rfl, rfl, by omega, by omega, by rw [hx2]; exact HR2.out, by rw [hx2]; exact hl2, rfl⟩
      case measure => omega
end Go.Proofs.Ytlcmldgjkpjjfaa
