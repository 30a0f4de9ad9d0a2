/-
  Contracts of LogNumber and its twin.
-/
import Derived.Test.YtlcmldgjkpjjfaaLog2
import Derived.Test.YtlcmldgjkpjjfaaTurns
namespace Go.Proofs.Ytlcmldgjkpjjfaa
open Go.RowKit

@[irreducible] def lgW (c : Option Nat) : Option Nat := match c with | none => none | some r => if rg .f64 r = 0 then some 18442240474082181120 else if sg .f64 r then none else if rg .f64 r = FloatKind.f64.format.infRung then some r else lgN (some r)
theorem lgW_none : lgW none = none := by unfold lgW; rfl
theorem lgW_zero {r : Nat} (h : rg .f64 r = 0) : lgW (some r) = some 18442240474082181120 := by unfold lgW; simp [h]
theorem lgW_neg {r : Nat} (h : 0 < rg .f64 r) (hs : sg .f64 r = true) : lgW (some r) = none := by
  have : ¬ rg .f64 r = 0 := by omega
  unfold lgW; simp [this, hs]
theorem lgW_inf {r : Nat} (h : rg .f64 r = FloatKind.f64.format.infRung) (hs : sg .f64 r = false) : lgW (some r) = some r := by
  have : ¬ rg .f64 r = 0 := by rw [h, D_inf]; omega
  unfold lgW; simp only [hs, h]; rw [h] at this; simp [this]
theorem lgW_fin {r : Nat} (h : 0 < rg .f64 r) (hf : rg .f64 r < FloatKind.f64.format.infRung) (hs : sg .f64 r = false) : lgW (some r) = lgN (some r) := by
  have h1 : ¬ rg .f64 r = 0 := by omega
  have h2 : ¬ rg .f64 r = FloatKind.f64.format.infRung := by omega
  unfold lgW; simp only [if_neg h1, if_neg h2, hs]; rfl
@[irreducible] def c277 : Nat := 277
theorem c277_eq : c277 = 277 := by unfold c277; rfl
/-- What float32 gives. -/
@[irreducible] def okL (c : Option Nat) : Prop := ∀ r, c = some r → rg .f64 r ≤ FloatKind.f64.format.infRung ∧ (sg .f64 r = false → 0 < rg .f64 r → rg .f64 r < FloatKind.f64.format.infRung → ps (some r) (-150) ∧ le2 (some r) 128)
theorem okL_none : okL none := by unfold okL; intro r h; cases h
theorem fits_lgW {c : Option Nat} (h : okL c) : fits .f64 .f32 (lgW c) := by
  cases c with
  | none => rw [lgW_none]; exact fits_down (le2_none _)
  | some r =>
    unfold okL at h
    obtain ⟨h1, h2⟩ := h r rfl
    by_cases h0 : rg .f64 r = 0
    · rw [lgW_zero h0]; exact fits_inf (s := true) (by rfl)
    · rcases hs : sg .f64 r
      · by_cases hi : rg .f64 r = FloatKind.f64.format.infRung
        · rw [lgW_inf hi hs]; exact fits_inf (read_inf .f64 r hi (binade_inf _))
        · rw [lgW_fin (by omega) (by omega) hs]
          obtain ⟨p1, p2⟩ := h2 hs (by omega) (by omega)
          exact fits_down (le2_mono (lgN_le p1 p2) (by omega))
      · rw [lgW_neg (by omega) hs]; exact fits_down (le2_none _)
theorem okL_up (b : Nat) : okL (cvF .f32 .f64 (cn .f32 b)) := by
  rcases cn_own .f32 b with ha | ha
  · rw [ha, cvF_none]; exact okL_none
  · rw [ha]
    have hle := cn_rg ha
    by_cases hf : rg .f32 b < FloatKind.f32.format.infRung
    · obtain ⟨r, hr, fr, hs, hz⟩ := up_fin (b := b) hf
      rw [hr]
      unfold okL
      intro r' e
      cases e
      refine ⟨Nat.le_of_lt fr, fun k1 k2 _ => ?_⟩
      have hz0 : sz .f64 r ≠ 0 := by
        intro h0
        have : rg .f64 r = 0 := (mg_eq_iff FloatKind.f64.format (rg .f64 r) 0).1 (by rw [mg_zero]; exact h0)
        omega
      have hb0 : 1 ≤ sz .f32 b := by
        rcases Nat.eq_zero_or_pos (sz .f32 b) with h | h
        · rw [hz, h, Nat.zero_mul] at hz0; exact absurd rfl hz0
        · exact h
      have ip : inP (-149) := inP_of' (by omega) (by omega)
      have iq : inP 128 := inP_of' (by omega) (by omega)
      constructor
      · refine ps_mono (p := -149) ?_ (by omega)
        unfold ps
        refine ⟨r, rfl, k1, ?_⟩
        rw [sz_ge ip, hz, show ((-149 : Int) + 1074).toNat = c925 by rw [c925_eq]; decide]
        exact Nat.le_mul_of_pos_left _ hb0
      · rw [le2_some, sz_le iq, hz]
        have h3 : rg .f32 b ≤ R FloatKind.f32.format 128 := by
          have : R FloatKind.f32.format 128 = FloatKind.f32.format.infRung := by decide
          rw [this]; exact hle
        rw [rg_le_R (by unfold LP; rw [S_lp, S_fb]; omega)] at h3
        have e1 : ((128 : Int) - LP .f32).toNat = c277 := by unfold LP; rw [S_lp, c277_eq]; decide
        rw [e1] at h3
        have e2 : ((128 : Int) + 1074).toNat = c277 + c925 := by rw [c925_eq, c277_eq]; decide
        rw [e2, pow_split]
        exact Nat.mul_le_mul_right _ h3
    · obtain ⟨r, hr, _, hi⟩ := up_inf (b := b) (by omega)
      rw [hr]
      unfold okL
      intro r' e
      cases e
      exact ⟨Nat.le_of_eq hi, fun _ _ h => absurd h (by omega)⟩
set_option maxHeartbeats 1000000 in
theorem l01LogWide_any (b : Nat) (w : World) (hk : okL (cn .f64 b)) : Calls Try.prog 49 #[.float .f64 b] w fun e w' => ∃ r n, e = .returned (.float .f64 r) ∧ w' = w.drewN n ∧ cn .f64 r = lgW (cn .f64 b) := by
  have ho := fun a b => order_cn .f64 a b
  have c0 := d_zero
  rcases cn_own .f64 b with ha | ha
  · have HS : Hid (lgW (cn .f64 b) = none) := Lib.hid (by rw [ha, lgW_none])
    have t1 : (ford .f64 none none != some Ordering.eq) = true := by rw [ford_none_l]; rfl
    clear hk
    go_enter Try.func49, Try.ntmps49
    go_wp2_with (go_at_call 31; refine (NaN_any _).mono ?_; rintro e w' ⟨rfl, rfl⟩)
    go_ret
    exact ⟨_, 0, rfl, rfl, by rw [HS.out, c_nan]⟩
  · rw [ha] at hk ⊢
    unfold okL at hk
    obtain ⟨hle, hp⟩ := hk b rfl
    have t1 := eq_self hle
    have t2 := lt_zero hle
    have t3 := eq_zero hle
    have t4 := gt_max hle
    have cm := d_ninf
    by_cases h0 : rg .f64 b = 0
    · have HS := Lib.hid (lgW_zero h0)
      rw [h0] at t2 t3
      simp only [Nat.lt_irrefl, and_false, decide_false, decide_true] at t2 t3
      clear hp h0 hle t4
      go_enter Try.func49, Try.ntmps49
      go_wp2_with (go_at_call 28; refine (Infm1_any _).mono ?_; rintro e w' ⟨rfl, rfl⟩)
      go_ret
      exact ⟨_, 0, rfl, rfl, by rw [HS.out]; exact cm⟩
    · rcases hs : sg .f64 b
      · by_cases hi : rg .f64 b = FloatKind.f64.format.infRung
        · have HS := Lib.hid (lgW_inf hi hs)
          have t2' : (ford .f64 (some b) (some 0) == some Ordering.lt) = false := by rw [t2, hs]; rfl
          have t3' : (ford .f64 (some b) (some 0) == some Ordering.eq) = false := by rw [t3]; simp [h0]
          have t4' : (ford .f64 (some b) (some 9218868437227405311) == some Ordering.gt) = true := by rw [t4, hs, hi]; simp
          clear t2 t3 t4 hp h0 hle hi hs
          go_enter Try.func49, Try.ntmps49
          go_wp2_with (go_at_call 55; refine (IsInf1_any _ _).mono ?_; rintro e w' ⟨rfl, rfl⟩)
          go_ret
          exact ⟨_, 0, rfl, rfl, by rw [HS.out]; exact ha⟩
        · obtain ⟨p1, p2⟩ := hp hs (by omega) (by omega)
          rw [lgW_fin (by omega) (by omega) hs]
          rw [← ha] at p1 p2
          refine (l01LogWide_fin b w p1 p2).mono ?_
          rintro e w' ⟨r, n, rfl, rfl, hr, _⟩
          rw [ha] at hr
          exact ⟨r, n, rfl, rfl, hr⟩
      · have HS := Lib.hid (lgW_neg (r := b) (by omega) hs)
        have t2' : (ford .f64 (some b) (some 0) == some Ordering.lt) = true := by rw [t2, hs]; simp; omega
        clear t2 t3 t4 hp h0 hle hs
        go_enter Try.func49, Try.ntmps49
        go_wp2_with (go_at_call 31; refine (NaN_any _).mono ?_; rintro e w' ⟨rfl, rfl⟩)
        go_ret
        exact ⟨_, 0, rfl, rfl, by rw [HS.out, c_nan]⟩
@[irreducible] def logT (x : Option Nat) : Option Nat := cvF .f64 .f32 (lgW (cvF .f32 .f64 x))
set_option maxHeartbeats 400000 in
theorem l01Log_any (b : Nat) (w : World) : Calls Try.prog 34 #[.float .f32 b] w fun e w' => ∃ r n, e = .returned (.float .f32 r) ∧ w' = w.drewN n ∧ cn .f32 r = logT (cn .f32 b) := by
  have HK := Lib.hid (okL_up b)
  go_enter Try.func34, Try.ntmps34
  go_wp2_with (first
    | (refine wpList_up rfl _ _ _ rfl _ rfl Try.underlying22 Try.underlying25 ?_; intro r n hr hrb)
    | (go_at_call 49; refine (l01LogWide_any _ _ (by rw [hr]; exact HK.out)).mono ?_; rintro e w' ⟨q, n, rfl, rfl, hq⟩)
    | (go_at_call 44; refine (l01Narrow_any _ _ (by rw [hq, hr]; exact fits_lgW HK.out)).mono ?_; rintro e w' ⟨r3, n3, rfl, rfl, hr3⟩))
  go_ret
  exact ⟨_, _, rfl, rfl, by unfold logT; simp only [*]⟩
set_option maxHeartbeats 400000 in
theorem sLogNumber_any (b : Nat) (w : World) : Calls Try.prog 15 #[.float .f32 b] w fun e w' => ∃ r n, e = .returned (.float .f32 r) ∧ w' = w.drewN n ∧ cn .f32 r = logT (cn .f32 b) := by
  go_enter Try.func15, Try.ntmps15
  go_wp2_with (go_at_call 34; refine (l01Log_any _ _).mono ?_; rintro e w' ⟨q, n, rfl, rfl, hq⟩)
  go_ret
  exact ⟨_, _, rfl, rfl, hq⟩
theorem up_word {b : Nat} (ha : cn .f32 b = some b) : ∃ r, cvF .f32 .f64 (some b) = some r ∧ sg .f64 r = sg .f32 b ∧ (rg .f64 r = 0 ↔ rg .f32 b = 0) := by
  have hle := cn_rg ha
  by_cases hf : rg .f32 b < FloatKind.f32.format.infRung
  · obtain ⟨r, hr, fr, hs, hz⟩ := up_fin (b := b) hf
    refine ⟨r, hr, hs, ?_⟩
    have e1 : rg .f64 r = 0 ↔ sz .f64 r = 0 := by
      have := mg_eq_iff FloatKind.f64.format (rg .f64 r) 0
      rw [mg_zero] at this
      exact this.symm
    have e2 : rg .f32 b = 0 ↔ sz .f32 b = 0 := by
      have := mg_eq_iff FloatKind.f32.format (rg .f32 b) 0
      rw [mg_zero] at this
      exact this.symm
    rw [e1, e2, hz, Nat.mul_eq_zero]
    have := Nat.two_pow_pos c925
    omega
  · obtain ⟨r, hr, hs, hi⟩ := up_inf (b := b) (by omega)
    refine ⟨r, hr, hs, ?_⟩
    rw [hi, D_inf]
    rw [S_inf] at hf
    omega
theorem logT_none : logT none = none := by unfold logT; rw [cvF_none, lgW_none, cvF_none]
theorem logT_zero {b : Nat} (ha : cn .f32 b = some b) (h : rg .f32 b = 0) : logT (some b) = cvF .f64 .f32 (some 18442240474082181120) := by
  obtain ⟨r, hr, _, hz⟩ := up_word ha
  unfold logT
  rw [hr, lgW_zero (hz.2 h)]
theorem logT_neg {b : Nat} (ha : cn .f32 b = some b) (h : 0 < rg .f32 b) (hs : sg .f32 b = true) : logT (some b) = none := by
  obtain ⟨r, hr, hs2, hz⟩ := up_word ha
  unfold logT
  rw [hr, lgW_neg (by have : ¬ rg .f64 r = 0 := fun e => by have := hz.1 e; omega
                      omega) (by rw [hs2]; exact hs), cvF_none]
theorem logT_inf {b : Nat} (hb : b < 4294967296) (h : rg .f32 b = FloatKind.f32.format.infRung) (hs : sg .f32 b = false) : logT (some b) = some b := by
  have hw := word_split32 hb
  rw [hs, h, S_inf] at hw
  have hb2 : b = 2139095040 := by simpa using hw
  subst hb2
  have h1 : cvF .f32 .f64 (some 2139095040) = some 9218868437227405312 := by rw [cvF_some]; decide
  have h2 : cvF .f64 .f32 (some 9218868437227405312) = some 2139095040 := by rw [cvF_some]; decide
  unfold logT
  rw [h1, lgW_inf (by decide) (by decide), h2]
theorem fits_ninf : fits .f64 .f32 (some 18442240474082181120) := fits_inf (s := true) (by rfl)
set_option maxHeartbeats 1000000 in
theorem LogNumber_any (b : Nat) (w : World) (hb : b < 4294967296) : Calls Try.prog 16 #[.float .f32 b] w fun e w' => ∃ r n, e = .returned (.float .f32 r) ∧ w' = w.drewN n ∧ cn .f32 r = logT (cn .f32 b) := by
  have ho := fun a b => order_cn .f32 a b
  have c0 : cn .f32 0 = some 0 := cn_num (by decide)
  have cm := d_ninf
  rcases cn_own .f32 b with ha | ha
  · have HS : Hid (logT (cn .f32 b) = none) := Lib.hid (by rw [ha, logT_none])
    have t1 : (ford .f32 none none != some Ordering.eq) = true := by rw [ford_none_l]; rfl
    have t2 : (ford .f32 none (some 0) == some Ordering.eq) = false := by rw [ford_none_l]; rfl
    have t3 : (ford .f32 none (some 0) == some Ordering.lt) = false := by rw [ford_none_l]; rfl
    go_enter Try.func16, Try.ntmps16
    go_wp2_with (first
      | (go_at_call 31; refine (NaN_any _).mono ?_; rintro e w' ⟨rfl, rfl⟩)
      | (refine wpList_down rfl _ _ _ rfl _ rfl Try.underlying25 Try.underlying22 (by rw [c_nan]; exact fits_down (le2_none _)) ?_; intro r n hr hrb))
    go_ret
    exact ⟨_, _, rfl, rfl, by rw [HS.out]; rw [c_nan, cvF_none] at *; assumption⟩
  · have hle := cn_rg ha
    have t1 := eq_self hle
    have t2 := lt_zero hle
    have t3 := eq_zero hle
    rw [ha]
    by_cases h0 : rg .f32 b = 0
    · have HS := Lib.hid (logT_zero ha h0)
      rw [h0] at t2 t3
      simp only [Nat.lt_irrefl, and_false, decide_false, decide_true] at t2 t3
      clear h0 hle
      go_enter Try.func16, Try.ntmps16
      go_wp2_with (first
        | (go_at_call 28; refine (Infm1_any _).mono ?_; rintro e w' ⟨rfl, rfl⟩)
        | (refine wpList_down rfl _ _ _ rfl _ rfl Try.underlying25 Try.underlying22 (by rw [cm]; exact fits_ninf) ?_; intro r n hr hrb))
      go_ret
      exact ⟨_, _, rfl, rfl, by rw [HS.out, ← cm]; assumption⟩
    · have t3' : (ford .f32 (some b) (some 0) == some Ordering.eq) = false := by rw [t3]; simp [h0]
      rcases hs : sg .f32 b
      · have t2' : (ford .f32 (some b) (some 0) == some Ordering.lt) = false := by rw [t2, hs]; rfl
        by_cases hi : rg .f32 b = FloatKind.f32.format.infRung
        · have HS := Lib.hid (logT_inf hb hi hs)
          have t5 : isFin .f32 (some b) = false := by rw [isFin_some ha]; simp; omega
          clear t2 t3 h0 hle hi hs hb
          go_enter Try.func16, Try.ntmps16
          go_wp2_with (go_at_call 30; refine (IsFinite_any _ _).mono ?_; rintro e w' ⟨n, rfl, rfl⟩)
          go_ret
          exact ⟨_, _, rfl, rfl, by rw [HS.out]; exact ha⟩
        · have t5 : isFin .f32 (some b) = true := by rw [isFin_some ha]; simp; omega
          obtain ⟨y, hy, hys, hyz⟩ := up_word ha
          have hk := okL_up b
          rw [ha, hy] at hk
          unfold okL at hk
          obtain ⟨k1, k2⟩ := hk y rfl
          have y0 : 0 < rg .f64 y := by
            have : ¬ rg .f64 y = 0 := fun e => h0 (hyz.1 e)
            omega
          have hyf : rg .f64 y < FloatKind.f64.format.infRung := by
            obtain ⟨r, hr, fr, _⟩ := up_fin (b := b) (show rg .f32 b < FloatKind.f32.format.infRung by omega)
            rw [hy] at hr; cases hr; exact fr
          obtain ⟨p1, p2⟩ := k2 (by rw [hys]; exact hs) y0 hyf
          have P1 := Lib.hid p1
          have P2 := Lib.hid p2
          have HL := Lib.hid (fits_down (le2_mono (lgN_le p1 p2) (show (71 : Int) ≤ 127 by omega)))
          have HY := Lib.hid hy
          have HR : Hid (logT (some b) = cvF .f64 .f32 (lgN (some y))) := Lib.hid (by unfold logT; rw [hy, lgW_fin y0 hyf (by rw [hys]; exact hs)])
          clear t2 t3 h0 hle hi hs hb p1 p2 hy hys hyz k1 k2 y0 hyf hk
          go_enter Try.func16, Try.ntmps16
          go_wp2_with (first
            | (go_at_call 30; refine (IsFinite_any _ _).mono ?_; rintro e w' ⟨n, rfl, rfl⟩)
            | (refine wpList_up rfl _ _ _ rfl _ rfl Try.underlying22 Try.underlying25 ?_; intro r n hr hrb; rw [ha, HY.out] at hr)
            | (go_at_call 35; refine (naturalLog_any _ _ (by rw [hr]; exact P1.out) (by rw [hr]; exact P2.out)).mono ?_; rintro e w' ⟨q, n, rfl, rfl, hq, _⟩; rw [hr] at hq)
            | (refine wpList_down rfl _ _ _ rfl _ rfl Try.underlying25 Try.underlying22 (by rw [hq]; exact HL.out) ?_; intro r2 n hr2 hrb2))
          go_ret
          exact ⟨_, _, rfl, rfl, by rw [HR.out, ← hq]; assumption⟩
      · have t2' : (ford .f32 (some b) (some 0) == some Ordering.lt) = true := by rw [t2, hs]; simp; omega
        have HS := Lib.hid (logT_neg ha (by omega) hs)
        clear t2 t3 h0 hle hs hb
        go_enter Try.func16, Try.ntmps16
        go_wp2_with (first
          | (go_at_call 31; refine (NaN_any _).mono ?_; rintro e w' ⟨rfl, rfl⟩)
          | (refine wpList_down rfl _ _ _ rfl _ rfl Try.underlying25 Try.underlying22 (by rw [c_nan]; exact fits_down (le2_none _)) ?_; intro r n hr hrb))
        go_ret
        exact ⟨_, _, rfl, rfl, by rw [HS.out]; rw [c_nan, cvF_none] at *; assumption⟩
end Go.Proofs.Ytlcmldgjkpjjfaa
