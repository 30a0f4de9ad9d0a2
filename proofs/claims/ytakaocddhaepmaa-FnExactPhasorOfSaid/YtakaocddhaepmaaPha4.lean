/-
  Contract of the reference's PhasorOf: the walk.
-/
import Derived.Test.YtakaocddhaepmaaPha3
import Derived.Test.YtakaocddhaepmaaRoot
namespace Go.Proofs.Ytakaocddhaepmaa
open Ieee Go.RowKit

set_option maxHeartbeats 8000000 in
theorem l01Phasor_main (b : Nat) (w : World) (hb : cn .f64 b = some b) (hc : isFin .f64 (some b) = true) (hB : big52 b = false) :
    Calls Try.prog 17 #[.float .f64 b] w fun e w' => ∃ re im n, e = .returned (.complex .f32 re im) ∧ w' = w.drewN n ∧ cn .f32 re = cvF .f64 .f32 (phX b) ∧ cn .f32 im = cvF .f64 .f32 (phY b) := by
  obtain ⟨h, hf⟩ := small_of hB
  obtain ⟨f0, h0⟩ := fracC_some hf h
  have H0 := Lib.hid h0
  have HB0 : Hid (rg .f64 f0 ≤ q4 0) := Lib.hid (by have := fracC_le1 hf h; rw [h0] at this; exact BQ_some.1 this)
  have HQ0 : Hid (qR (6 - 0) 0 (some f0) = (phQ b, phF b)) := Lib.hid (by unfold phQ phF; rw [h0])
  have ho := fun a b => order_cn .f64 a b
  have c0 := c_zero
  have c1 := c_one
  have c3 := c_quarter
  have c6 := c52
  have c7 := cm52
  have hA : fop .sub .f64 (some b) (cn .f64 (floatOfInt .f64 (trunc b))) = fracA b := by unfold fracA; rfl
  have HA := Lib.hid hA
  have r3 := fun w => run_convert_float_int (P := Try.prog) w 22 2 .f64 .i64 _ _ (by rw [Try.underlying22]; rfl) Try.underlying2 (frac_int hf h)
  have hF1 : (ford .f64 (fop .sub .f64 (some b) (some b)) (some 0) != some Ordering.eq) = false := by unfold isFin at hc; rw [bne, hc]; rfl
  have hB1 := big_two (r := b) (Nat.le_of_lt hf)
  rw [hB, Bool.or_eq_false_iff] at hB1
  obtain ⟨hB2, hB3⟩ := hB1
  have HC : Hid (fracC b = if fracN b then fop .add .f64 (fracA b) (some 4607182418800017408) else fracA b) := Lib.hid (by unfold fracC; rfl)
  clear h hf hc hB h0
  rcases hN : fracN b
  all_goals
    have hN2 : (ford .f64 (fracA b) (some 0) == some Ordering.lt) = fracN b := by unfold fracN; rfl
    rw [hN] at hN2
    have hC : fracC b = _ := HC.out
    rw [hN] at hC
    try rw [if_pos rfl] at hC
    try rw [if_neg Bool.false_ne_true] at hC
    rw [H0.out] at hC
    have HCC := Lib.hid hC
    clear hN hC HC H0
    have t0 : True := trivial
    have t1 : True := trivial
    go_enter Try.func17, Try.ntmps17
    go_wp2_with (first
      | (have _t := t0; refine wpList_fop rfl _ _ _ _ _ rfl (by decide) _ _ _ rfl rfl ?_; intro rz nz hrz hrbz; clear t0)
      | (have _t := t1; refine wpList_fop rfl _ _ _ _ _ rfl (by decide) _ _ _ rfl rfl ?_; intro r1 n1 hr1 hrb1; rw [hb, HA.out] at hr1; clear t1)
      | (refine wpList_fop rfl _ _ _ _ _ rfl (by decide) _ _ _ rfl rfl ?_; intro r2 n2 hr2 hrb2))
    first
      | (rw [hr1, c1, ← HCC.out] at hr2; obtain rfl := (cn_some hr2).1; clear hr2)
      | (rw [← HCC.out] at hr1; obtain rfl := (cn_some hr1).1)
    clear HCC hr1
    go_loopg [3, 4] 6 (fun g fv qv wr => ∃ (j fb m : Nat), g = 6 - j ∧ j ≤ 4 ∧ fv = .float .f64 fb ∧ qv = .int .i64 (j : Int) ∧ wr = w.drewN m ∧ Hid (cn .f64 fb = some fb) ∧ Hid (rg .f64 fb ≤ q4 j) ∧ Hid (qR (6 - j) j (some fb) = (phQ b, phF b)))
    case atStart => exact ⟨0, _, _, rfl, by omega, rfl, rfl, rfl, Lib.hid ((siW_small (small_q HB0.out)).1), HB0, HQ0⟩
    case round =>
      clear HB0 HQ0 hF1 hB2 hB3 hN2 hA HA
      obtain ⟨j, fb, m, hg, hj, rfl, rfl, rfl, hn, hq, hR⟩ := hrel
      have hn2 := hn.out
      have ht := q25_test (some fb)
      rcases hx : q25 (some fb)
      · rw [hx] at ht
        have HE := Lib.hid (ph_end hR hx)
        have HT1 := Lib.hid (small_q hq.out)
        clear hx
        have t1 : True := trivial
        have t2 : True := trivial
        obtain rfl | rfl | rfl | rfl | rfl : j = 0 ∨ j = 1 ∨ j = 2 ∨ j = 3 ∨ j = 4 := by omega
        all_goals
          go_wp2_with (first
            | (have _t := t1; refine wpList_fop rfl _ _ _ _ _ rfl (by decide) _ _ _ rfl rfl ?_; intro r1 n1 hr1 hrb1; rw [c3, hn2] at hr1; have HR1 := Lib.hid hr1; have HT2 := Lib.hid (rest_ok hq.out hr1); clear hr1 t1)
            | (have _t := t2; go_at_call 33; refine (l01SineWideW_any _ _ HT2.out).mono ?_; rintro e w' ⟨s1, n, rfl, rfl, hs1, hl1⟩; have HS1 := Lib.hid hs1; have HL1 := Lib.hid hl1; clear hs1 hl1 t2)
            | (go_at_call 33; refine (l01SineWideW_any _ _ HT1.out).mono ?_; rintro e w' ⟨s2, n, rfl, rfl, hs2, hl2⟩; have HS2 := Lib.hid hs2; have HL2 := Lib.hid hl2; clear hs2 hl2)
            | (refine wpList_fop rfl _ _ _ _ _ rfl (by decide) _ _ _ rfl rfl ?_; intro r n hr hrb; have hl := le2_less (by first | exact HL1.out | exact HL2.out) hr)
            | (go_at_call 34; refine (l01Narrow_any _ _ (by first | exact fits_down (by assumption) | exact fits_down HL1.out | exact fits_down HL2.out)).mono ?_; rintro e w' ⟨r, n, rfl, rfl, hr⟩))
          go_ret
          have hP := ph_at HE.out (cn .f64 s1) (by rw [← HR1.out, (siW_small HT2.out).1]; exact HS1.out) (cn .f64 s2) HS2.out
          obtain ⟨p1, p2⟩ := hP
          simp (decide := true) only [ite_true, ite_false] at p1 p2
          have P1 := Lib.hid p1
          have P2 := Lib.hid p2
          clear p1 p2 ht hn2 hb c3 ho
          exact ⟨_, _, _, rfl, rfl, by rw [P1.out]; simp only [*], by rw [P2.out]; simp only [*]⟩
      · rw [hx] at ht
        obtain ⟨hj4, r, hr, hqr⟩ := quarter_step hj hq.out hx
        have HN := Lib.hid hr
        have HQR := Lib.hid hqr
        have HG := ph_go (by omega) hR hx hr
        clear hx hr hqr
        go_wp2_with (refine wpList_fop rfl _ _ _ _ _ rfl (by decide) _ _ _ rfl rfl ?_; intro r1 n1 hr1 hrb1; rw [c3, hn2, subQ_eq, HN.out] at hr1; obtain ⟨rfl, hrn⟩ := cn_some hr1; clear hrn; have HR1 := Lib.hid hr1; clear hr1)
        go_roundg (6 - (j + 1))
        case rel => exact ⟨j + 1, _, _, rfl, by omega, rfl, by first | rfl | go_num, rfl, HR1, HQR, HG⟩
        case measure => omega
end Go.Proofs.Ytakaocddhaepmaa
