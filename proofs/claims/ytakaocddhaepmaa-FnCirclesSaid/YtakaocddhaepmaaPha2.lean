/-
  Contract of PhasorOf: the walk.
-/
import Derived.Test.YtakaocddhaepmaaPha1
import Derived.Deep.LoopGhost
namespace Go.Proofs.Ytakaocddhaepmaa
open Ieee Go.RowKit

theorem BQ_some {j b : Nat} : BQ j (some b) ↔ rg .f64 b ≤ q4 j := by
  unfold BQ
  exact ⟨fun h => h b rfl, fun h b' e => by injection e with e; exact e ▸ h⟩
/-- One quarter more. -/
theorem quarter_step {fb j : Nat} (hj : j ≤ 4) (hB : rg .f64 fb ≤ q4 j) (e : q25 (some fb) = true) : j < 4 ∧ ∃ r, subQ (some fb) = some r ∧ rg .f64 r ≤ q4 (j + 1) := by
  have h4 : j < 4 := by
    rcases Nat.lt_or_ge j 4 with h | h
    · exact h
    · have : j = 4 := by omega
      subst this
      rw [BQ_end (BQ_some.2 hB)] at e; cases e
  obtain ⟨r, hr⟩ := subQ_some hB
  have := BQ_next h4 (BQ_some.2 hB) e
  rw [hr] at this
  exact ⟨h4, r, hr, BQ_some.1 this⟩
theorem subQ_eq (x : Option Nat) : fop .sub .f64 x (some 4598175219545276416) = subQ x := by unfold subQ; rfl
set_option maxHeartbeats 4000000 in
theorem PhasorOf_main (b : Nat) (w : World) (hb : cn .f64 b = some b) (hc : isFin .f64 (some b) = true) (hB : big52 b = false) :
    Calls Try.prog 6 #[.float .f64 b] w fun e w' => ∃ re im n, e = .returned (.complex .f32 re im) ∧ w' = w.drewN n ∧ cn .f32 re = cvF .f64 .f32 (phX b) ∧ cn .f32 im = cvF .f64 .f32 (phY b) := by
  obtain ⟨hs, hf⟩ := small_of hB
  have HF := Lib.hid hf
  have HS := Lib.hid hs
  obtain ⟨f0, h0⟩ := fracC_some hf hs
  have H0 := Lib.hid h0
  have HB0 : Hid (rg .f64 f0 ≤ q4 0) := Lib.hid (by have := fracC_le1 hf hs; rw [h0] at this; exact BQ_some.1 this)
  have HQ0 : Hid (qR (6 - 0) 0 (some f0) = (phQ b, phF b)) := Lib.hid (by unfold phQ phF; rw [h0])
  have HA := Lib.hid (big_abs (r := b) (Nat.le_of_lt hf))
  have ho := fun a b => order_cn .f64 a b
  have hab := fun b => cn_abs b
  have c6 := c52
  have c3 := c_quarter
  have hA2 := HA.out
  rw [hB] at hA2
  have hc2 := hc
  clear hf hs h0 hB hc
  go_enter Try.func6, Try.ntmps6
  go_wp2_with (first
    | (go_at_call 18; refine (isFinite64_any _ _).mono ?_; rintro e w' ⟨n, rfl, rfl⟩)
    | (go_at_call 20; refine (Abs_any _ _).mono ?_; rintro e w' ⟨rfl, rfl⟩)
    | (go_at_call 21; refine (fraction_any _ _ HF.out HS.out).mono ?_; rintro e w' ⟨f1, n, rfl, rfl, hf1, hfb⟩; rw [H0.out] at hf1; obtain rfl := (cn_some hf1).1; clear hf1))
  clear hA2 hc2 c6 hab
  go_loopg [4, 5] 6 (fun g fv qv wr => ∃ (j fb m : Nat), g = 6 - j ∧ j ≤ 4 ∧ fv = .float .f64 fb ∧ qv = .int .i64 (j : Int) ∧ wr = w.drewN m ∧ Hid (cn .f64 fb = some fb) ∧ Hid (rg .f64 fb ≤ q4 j) ∧ Hid (qR (6 - j) j (some fb) = (phQ b, phF b)))
  case atStart => exact ⟨0, _, _, rfl, by omega, rfl, rfl, rfl, Lib.hid ((siW_small (small_q HB0.out)).1), HB0, HQ0⟩
  case round =>
    clear HB0 HQ0 H0
    obtain ⟨j, fb, m, hg, hj, rfl, rfl, rfl, hn, hq, hR⟩ := hrel
    have hn2 := hn.out
    have ht := q25_test (some fb)
    rcases hx : q25 (some fb)
    · rw [hx] at ht
      have HE := Lib.hid (ph_end hR hx)
      have HT1 := Lib.hid (small_q hq.out)
      clear hx
      have t1 : True := trivial
      have t2 : True := trivial
      obtain rfl | rfl | rfl | rfl | rfl : j = 0 ∨ j = 1 ∨ j = 2 ∨ j = 3 ∨ j = 4 := by omega
      all_goals
        go_wp2_with (first
          | (have _t := t1; refine wpList_fop rfl _ _ _ _ _ rfl (by decide) _ _ _ rfl rfl ?_; intro r1 n1 hr1 hrb1; rw [c3, hn2] at hr1; have HR1 := Lib.hid hr1; have HT2 := Lib.hid (rest_ok hq.out hr1); clear hr1 t1)
          | (have _t := t2; go_at_call 22; refine (sineW_any _ _ HT2.out).mono ?_; rintro e w' ⟨s1, n, rfl, rfl, hs1, hl1⟩; have HS1 := Lib.hid hs1; have HL1 := Lib.hid hl1; clear hs1 hl1 t2)
          | (go_at_call 22; refine (sineW_any _ _ HT1.out).mono ?_; rintro e w' ⟨s2, n, rfl, rfl, hs2, hl2⟩; have HS2 := Lib.hid hs2; have HL2 := Lib.hid hl2; clear hs2 hl2)
          | (refine wpList_fop rfl _ _ _ _ _ rfl (by decide) _ _ _ rfl rfl ?_; intro r n hr hrb; have hl := le2_less (by first | exact HL1.out | exact HL2.out) hr)
          | (refine wpList_down rfl _ _ _ rfl _ rfl Try.underlying22 Try.underlying31 (by first | exact fits_down (by assumption) | exact fits_down HL1.out | exact fits_down HL2.out) ?_; intro r n hr hrb))
        go_ret
        have hP := ph_at HE.out (cn .f64 s1) (by rw [← HR1.out, (siW_small HT2.out).1]; exact HS1.out) (cn .f64 s2) HS2.out
        have c0 := c_zero
        obtain ⟨p1, p2⟩ := hP
        simp (decide := true) only [ite_true, ite_false] at p1 p2
        have P1 := Lib.hid p1
        have P2 := Lib.hid p2
        clear p1 p2 ht hn2 hb c3 ho
        exact ⟨_, _, _, rfl, rfl, by rw [P1.out]; simp only [*], by rw [P2.out]; simp only [*]⟩
    · rw [hx] at ht
      obtain ⟨hj4, r, hr, hqr⟩ := quarter_step hj hq.out hx
      have HN := Lib.hid hr
      have HQR := Lib.hid hqr
      have HG := ph_go (by omega) hR hx hr
      clear hx hr hqr
      go_wp2_with (refine wpList_fop rfl _ _ _ _ _ rfl (by decide) _ _ _ rfl rfl ?_; intro r1 n1 hr1 hrb1; rw [c3, hn2, subQ_eq, HN.out] at hr1; obtain ⟨rfl, hrn⟩ := cn_some hr1; clear hrn; have HR1 := Lib.hid hr1; clear hr1)
      go_roundg (6 - (j + 1))
      case rel => exact ⟨j + 1, _, _, rfl, by omega, rfl, by first | rfl | go_num, rfl, HR1, HQR, HG⟩
      case measure => omega
end Go.Proofs.Ytakaocddhaepmaa
