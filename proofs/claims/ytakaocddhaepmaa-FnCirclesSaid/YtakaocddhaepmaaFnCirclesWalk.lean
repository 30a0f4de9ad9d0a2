/- The walk of the law FnCircles: it returns true, for all arguments. -/
import Derived.Test.YtakaocddhaepmaaCircC
namespace Go.Proofs.Ytakaocddhaepmaa.fnCircles
open Go.RowKit
set_option maxHeartbeats 8000000 in
set_option maxRecDepth 100000 in
theorem walk (A : Option Addr) (n c : Nat) (zs : List Int) (A' : Option Addr) (n' c' : Nat) (ys : List Int) (w : World) (h0 : Arg .u8 w A n zs) (h0' : Arg .u8 w A' n' ys) (hm : n ≤ maxLen) (hm' : n' ≤ maxLen) :
    Calls Try.prog 4 #[.slice A n c, .slice A' n' c'] w fun e w' => e = .returned (.bool true) ∧ Below w.heap.size w w' := by
  obtain ⟨h, hz⟩ := h0
  obtain ⟨h', hz'⟩ := h0'
  by_cases hn : 1048576 < n ∨ 1048576 < n'
  · have hd : decide (1048576 < n ∨ 1048576 < n') = true := decide_eq_true hn
    have HC := Lib.hid (b10Long_any A A' n c n' c' w hm hm')
    rw [hd] at HC
    clear hd hn hm hm' h h' hz hz'
    go_enter Try.func4, Try.ntmps4
    go_wp2_with (go_at_call 8; refine HC.out.mono ?_; rintro e w' ⟨rfl, rfl⟩)
    go_ret
    exact ⟨rfl, Below.refl _ _⟩
  · have hd : decide (1048576 < n ∨ 1048576 < n') = false := decide_eq_false hn
    have HC := Lib.hid (b10Long_any A A' n c n' c' w hm hm')
    rw [hd] at HC
    have hn1 : n ≤ 1048576 := by omega
    have hn2 : n' ≤ 1048576 := by omega
    have H := Lib.hid h
    have H' := Lib.hid h'
    have HZ := Lib.hid hz
    have HZ' := Lib.hid hz'
    clear hd hn hm hm' h h' hz hz'
    go_enter Try.func4, Try.ntmps4
    go_wp2_with (go_at_call 8; refine HC.out.mono ?_; rintro e w' ⟨rfl, rfl⟩)
    refine (b10At_any _ _ _ _ 0 256 _ _ H.out HZ.out hn1 (by decide) (by decide) (by decide)).mono ?_
    rintro e w' ⟨i, rfl, hi, rfl⟩
    go_wp2_with fail
    refine (b10At_any _ _ _ _ 1 256 _ _ H.out HZ.out hn1 (by decide) (by decide) (by decide)).mono ?_
    rintro e w' ⟨j, rfl, hj, rfl⟩
    obtain ⟨s, hs⟩ : ∃ s, i % 64 = s := ⟨_, rfl⟩
    obtain ⟨t, ht⟩ : ∃ t, j % 64 = t := ⟨_, rfl⟩
    have hs64 : s < 64 := by omega
    have ht64 : t < 64 := by omega
    have e1 : (i + 128) % 64 = s := by omega
    have e2 : (j + 128) % 64 = t := by omega
    have e3 : (i + j) % 64 = (s + t) % 64 := by omega
    have HE := Lib.hid (And.intro e1 (And.intro e2 e3))
    have HS := Lib.hid hs
    have HT := Lib.hid ht
    clear e1 e2 e3 hs ht
    have t1 : True := trivial
    have t2 : True := trivial
    have t3 : True := trivial
    go_wp2_with (first
      | (have _t := t1; refine wpList_fop rfl _ _ _ _ _ rfl (by decide) _ _ _ rfl rfl ?_; intro r1 n1 hr1 hrb1; have HR1 := Lib.hid hr1; clear hr1 t1 hrb1))
    refine (Phasor_at2 (n := i + 128) (by omega) HE.out.1 (by omega) HR1.out _).mono ?_
    rintro e w' ⟨m1, rfl, rfl⟩
    go_wp2_with (first
      | (have _t := t2; refine wpList_fop rfl _ _ _ _ _ rfl (by decide) _ _ _ rfl rfl ?_; intro r2 n2 hr2 hrb2; have HR2 := Lib.hid hr2; clear hr2 t2 hrb2))
    refine (Phasor_at2 (n := j + 128) (by omega) HE.out.2.1 (by omega) HR2.out _).mono ?_
    rintro e w' ⟨m2, rfl, rfl⟩
    go_wp2_with (first
      | (have _t := t3; refine wpList_fop rfl _ _ _ _ _ rfl (by decide) _ _ _ rfl rfl ?_; intro r3 n3 hr3 hrb3; have HR3 := Lib.hid hr3; clear hr3 t3 hrb3))
    refine (Phasor_at2 (n := i + j) (by omega) HE.out.2.2 (by omega) HR3.out _).mono ?_
    rintro e w' ⟨m3, rfl, rfl⟩
    clear HR1 HR2 HR3
    go_wp2_with fail
    refine (AngleOf_at hs64 _).mono ?_
    rintro e w' ⟨m4, rfl, rfl⟩
    obtain ⟨a1, a2, a3, a4⟩ := tabA hs64
    obtain ⟨T, U, wh, w1, w2, w3, w4, w5, w6, w7, w8⟩ := tabW hi
    rw [HS.out] at w1
    have c64 : cn .f64 4634204016564240384 = some 4634204016564240384 := cn_num (by decide)
    have c10k : cn .f64 4666723447345250304 = some 4666723447345250304 := cn_num (by decide)
    have A2 := Lib.hid a2
    have A3 := Lib.hid a3
    have A4 := Lib.hid a4
    have W1 := Lib.hid w1
    have W2 := Lib.hid w2
    have W3 := Lib.hid w3
    have W5 := Lib.hid w5
    have C64 := Lib.hid c64
    have C10 := Lib.hid c10k
    have r3 := fun w => run_convert_float_int (P := Try.prog) w 22 2 .f64 .i64 _ _ (by rw [Try.underlying22]; rfl) Try.underlying2 w4
    clear a1 a2 a3 a4 w1 w2 w3 w4 w5 c64 c10k
    have t4 : True := trivial
    have t5 : True := trivial
    have t6 : True := trivial
    have t7 : True := trivial
    go_wp2_with (first
      | (have _t := t4; refine wpList_up rfl _ _ _ rfl _ rfl Try.underlying31 Try.underlying22 ?_; intro u1 k1 hu1 hub1; rw [A2.out] at hu1; have HU1 := Lib.hid hu1; clear hu1 t4 hub1)
      | (have _t := t5; refine wpList_fop rfl _ _ _ _ _ rfl (by decide) _ _ _ rfl rfl ?_; intro r5 n5 hr5 hrb5; rw [HU1.out, C64.out, A3.out] at hr5; obtain rfl := (cn_some hr5).1; clear hr5 t5 hrb5)
      | (have _t := t6; refine wpList_fop rfl _ _ _ _ _ rfl (by decide) _ _ _ rfl rfl ?_; intro r6 n6 hr6 hrb6; rw [A4.out, W1.out] at hr6; obtain rfl := (cn_some hr6).1; clear hr6 t6 hrb6)
      | (have _t := t7; refine wpList_fop rfl _ _ _ _ _ rfl (by decide) _ _ _ rfl rfl ?_; intro r7 n7 hr7 hrb7; rw [W2.out, C10.out, W3.out] at hr7; obtain rfl := (cn_some hr7).1; clear hr7 t7 hrb7))
    refine (PowerOf_at hs64 _).mono ?_
    rintro e w' ⟨m5, rfl, rfl⟩
    obtain ⟨_, v2, v3, v4⟩ := tabV hs64
    have V2 := Lib.hid v2
    have V3 := Lib.hid v3
    have V4 := Lib.hid v4
    clear v2 v3 v4 r3
    have C1 : Hid (cn .f64 4607182418800017408 = some 4607182418800017408) := Lib.hid (cn_num (by decide))
    have CP : Hid (cn .f64 4547007122018943789 = some 4547007122018943789) := Lib.hid (cn_num (by decide))
    have CM : Hid (cn .f64 4562254508917369340 = some 4562254508917369340) := Lib.hid (cn_num (by decide))
    have t8 : True := trivial
    have t9 : True := trivial
    have t10 : True := trivial
    have t11 : True := trivial
    have t12 : True := trivial
    have t13 : True := trivial
    have t14 : True := trivial
    have t15 : True := trivial
    have C0 : Hid (cn .f64 0 = some 0) := Lib.hid c_zero
    obtain ⟨_, _, x3, _, x5, _, x7, _⟩ := tabP hs64
    have P3 : Hid (cvF .f32 .f64 (cn .f32 (PX s)) = some (DX s)) := Lib.hid (by rw [x3, x5])
    clear x3 x5 x7
    have hb16 := t16 ⟨i, hi⟩
    dsimp only at hb16
    by_cases h16 : ¬ i % 16 = 0
    · rw [decide_eq_false h16] at hb16
      clear h16
      go_wp2_with (first
      | (have _t := t8; refine wpList_up rfl _ _ _ rfl _ rfl Try.underlying31 Try.underlying22 ?_; intro u2 k2 hu2 hub2; rw [V2.out] at hu2; have HU2 := Lib.hid hu2; clear hu2 t8 hub2)
      | (have _t := t9; go_at_call 11; refine (b10Gap_any _ _ _).mono ?_; rintro e w' ⟨g1, k3, rfl, rfl, hg1⟩; have q1 : (FloatKind.f64.format.order g1 4547007122018943789 == some Ordering.gt) = false := (by rw [order_cn, hg1, HU2.out, C1.out, CP.out]; exact V3.out); clear t9 hg1)
      | (go_at_call 14; refine (MulComplex_at hs64 ht64 _).mono ?_; rintro e w' ⟨mu, mv, k4, rfl, rfl, hmu, hmv⟩; have HMU := Lib.hid hmu; have HMV := Lib.hid hmv; clear hmu hmv)
      | (go_at_call 13; refine (b10Near_yes _ _ _ _ _ HMU.out HMV.out).mono ?_; rintro e w' ⟨k5, rfl, rfl⟩)
      | (have _t := t10; go_at_call 11; refine (b10Gap_any _ _ _).mono ?_; rintro e w' ⟨g2, k6, rfl, rfl, hg2⟩; have q2 : (FloatKind.f64.format.order g2 4562254508917369340 == some Ordering.gt) = false := (by rw [order_cn, hg2, W2.out, CM.out]; exact W5.out); clear hg2 t10))
      refine (b10At_any _ _ _ _ 0 200 _ _ (H'.out.dn _) HZ'.out hn2 (by decide) (by decide) (by decide)).mono ?_
      rintro e w' ⟨x, rfl, hx, rfl⟩
      have t20 : True := trivial
      have C8 : Hid (cn .f32 1090519040 = some 1090519040) := Lib.hid (cn_num (by decide))
      have X1 := Lib.hid (tabX hx)
      go_wp2_with (first
        | (have _t := t20; refine wpList_fop rfl _ _ _ _ _ rfl (by decide) _ _ _ rfl rfl ?_; intro r20 n20 hr20 hrb20; rw [C8.out, Int.add_comm, X1.out] at hr20; obtain rfl := (cn_some hr20).1; clear hr20 t20 hrb20))
      refine (b10At_any _ _ _ _ 1 200 _ _ (H'.out.dn _) HZ'.out hn2 (by decide) (by decide) (by decide)).mono ?_
      rintro e w' ⟨y, rfl, hy, rfl⟩
      have t21 : True := trivial
      have X2 := Lib.hid (tabX hy)
      go_wp2_with (first
        | (have _t := t21; refine wpList_fop rfl _ _ _ _ _ rfl (by decide) _ _ _ rfl rfl ?_; intro r21 n21 hr21 hrb21; rw [C8.out, Int.add_comm, X2.out] at hr21; obtain rfl := (cn_some hr21).1; clear hr21 t21 hrb21))
      obtain ⟨T1, T2, T3, T4, T5, _⟩ := tabU hx hy
      obtain ⟨z1, z2⟩ := prod_le hx hy
      have K1 := Lib.hid (chkK_all (k := 8 * (x + 1)) (by omega) (by omega) T1)
      have K2 := Lib.hid (chkK_all (k := 8 * (y + 1)) (by omega) (by omega) T2)
      have K3 := Lib.hid (chkK_all z1 z2 T3)
      have N1 := Lib.hid (chkK_at K1.out).1
      have N2 := Lib.hid (chkK_at K2.out).1
      have PR := Lib.hid (prod_at hx hy)
      have L1 := TT_lt (8 * (x + 1))
      have L2 := TT_lt (8 * (y + 1))
      have L3 := TT_lt ((x + 1) * (y + 1))
      clear T1 T2 T3 z1 z2
      refine (Tenths_at K1.out _).mono ?_
      rintro e w' ⟨m20, rfl, rfl⟩
      go_wp2_with fail
      refine (Tenths_at K2.out _).mono ?_
      rintro e w' ⟨m21, rfl, rfl⟩
      have t22 : True := trivial
      go_wp2_with (first
        | (have _t := t22; refine wpList_fop rfl _ _ _ _ _ rfl (by decide) _ _ _ rfl rfl ?_; intro r22 n22 hr22 hrb22; rw [N1.out, N2.out, PR.out] at hr22; obtain rfl := (cn_some hr22).1; clear hr22 t22 hrb22))
      refine (Tenths_at K3.out _).mono ?_
      rintro e w' ⟨m22, rfl, rfl⟩
      go_wp2_with fail
      refine (Tenths_one _).mono ?_
      rintro e w' ⟨m23, rfl, rfl⟩
      clear K1 K2 K3 N1 N2 PR X1 X2
      generalize TT (8 * (x + 1)) = tp at *
      generalize TT (8 * (y + 1)) = tq at *
      generalize TT ((x + 1) * (y + 1)) = tr at *
      go_wp2_with (first
        | (go_at_call 10; refine (AngleOf_i _).mono ?_; rintro e w' ⟨ri, mi, rfl, rfl, hri, hsv⟩)
        | (go_at_call 16; refine (sSameNumber_any _ _ _ hri (by decide)).mono ?_; rintro e w' ⟨rfl, rfl⟩))
      go_ret
      exact ⟨rfl, below_dn (Below.refl _ _) _⟩
    · have h16 : i % 16 = 0 := by omega
      rw [decide_eq_true h16] at hb16
      have F := V4.out (by have := HS.out; omega)
      clear h16
      rcases f0 : (ford .f64 (gapC (some (DX s)) (some 0)) (some 0) == some Ordering.eq)
      · rw [f0] at F
        have F0 := Lib.hid f0
        have F1 := Lib.hid (F.resolve_left (by decide))
        clear f0 F
        go_wp2_with (first
        | (have _t := t8; refine wpList_up rfl _ _ _ rfl _ rfl Try.underlying31 Try.underlying22 ?_; intro u2 k2 hu2 hub2; rw [V2.out] at hu2; have HU2 := Lib.hid hu2; clear hu2 t8 hub2)
        | (have _t := t9; go_at_call 11; refine (b10Gap_any _ _ _).mono ?_; rintro e w' ⟨g1, k3, rfl, rfl, hg1⟩; have q1 : (FloatKind.f64.format.order g1 4547007122018943789 == some Ordering.gt) = false := (by rw [order_cn, hg1, HU2.out, C1.out, CP.out]; exact V3.out); clear t9 hg1)
        | (go_at_call 14; refine (MulComplex_at hs64 ht64 _).mono ?_; rintro e w' ⟨mu, mv, k4, rfl, rfl, hmu, hmv⟩; have HMU := Lib.hid hmu; have HMV := Lib.hid hmv; clear hmu hmv)
        | (go_at_call 13; refine (b10Near_yes _ _ _ _ _ HMU.out HMV.out).mono ?_; rintro e w' ⟨k5, rfl, rfl⟩)
        | (have _t := t10; go_at_call 11; refine (b10Gap_any _ _ _).mono ?_; rintro e w' ⟨g2, k6, rfl, rfl, hg2⟩; have q2 : (FloatKind.f64.format.order g2 4562254508917369340 == some Ordering.gt) = false := (by rw [order_cn, hg2, W2.out, CM.out]; exact W5.out); clear hg2 t10)
        | (have _t := t11; refine wpList_up rfl _ _ _ rfl _ rfl Try.underlying31 Try.underlying22 ?_; intro u11 k11 hu11 hub11; rw [P3.out] at hu11; have HU11 := Lib.hid hu11; clear hu11 t11 hub11)
        | (have _t := t12; go_at_call 11; refine (b10Gap_any _ _ _).mono ?_; rintro e w' ⟨g12, k12, rfl, rfl, hg12⟩; have q12 : (FloatKind.f64.format.order g12 0 != some Ordering.eq) = true := (by rw [bne, order_cn, hg12, HU11.out, C0.out, F0.out]; rfl); clear hg12 t12)
        | (have _t := t13; refine wpList_up rfl _ _ _ rfl _ rfl Try.underlying31 Try.underlying22 ?_; intro u13 k13 hu13 hub13; rw [P3.out] at hu13; have HU13 := Lib.hid hu13; clear hu13 t13 hub13)
        | (have _t := t14; go_at_call 11; refine (b10Gap_any _ _ _).mono ?_; rintro e w' ⟨g14, k14, rfl, rfl, hg14⟩; have q14 : (FloatKind.f64.format.order g14 4607182418800017408 != some Ordering.eq) = false := (by rw [bne, order_cn, hg14, HU13.out, C0.out, C1.out, F1.out]; rfl); clear hg14 t14))
        refine (b10At_any _ _ _ _ 0 200 _ _ (H'.out.dn _) HZ'.out hn2 (by decide) (by decide) (by decide)).mono ?_
        rintro e w' ⟨x, rfl, hx, rfl⟩
        have t20 : True := trivial
        have C8 : Hid (cn .f32 1090519040 = some 1090519040) := Lib.hid (cn_num (by decide))
        have X1 := Lib.hid (tabX hx)
        go_wp2_with (first
          | (have _t := t20; refine wpList_fop rfl _ _ _ _ _ rfl (by decide) _ _ _ rfl rfl ?_; intro r20 n20 hr20 hrb20; rw [C8.out, Int.add_comm, X1.out] at hr20; obtain rfl := (cn_some hr20).1; clear hr20 t20 hrb20))
        refine (b10At_any _ _ _ _ 1 200 _ _ (H'.out.dn _) HZ'.out hn2 (by decide) (by decide) (by decide)).mono ?_
        rintro e w' ⟨y, rfl, hy, rfl⟩
        have t21 : True := trivial
        have X2 := Lib.hid (tabX hy)
        go_wp2_with (first
          | (have _t := t21; refine wpList_fop rfl _ _ _ _ _ rfl (by decide) _ _ _ rfl rfl ?_; intro r21 n21 hr21 hrb21; rw [C8.out, Int.add_comm, X2.out] at hr21; obtain rfl := (cn_some hr21).1; clear hr21 t21 hrb21))
        obtain ⟨T1, T2, T3, T4, T5, _⟩ := tabU hx hy
        obtain ⟨z1, z2⟩ := prod_le hx hy
        have K1 := Lib.hid (chkK_all (k := 8 * (x + 1)) (by omega) (by omega) T1)
        have K2 := Lib.hid (chkK_all (k := 8 * (y + 1)) (by omega) (by omega) T2)
        have K3 := Lib.hid (chkK_all z1 z2 T3)
        have N1 := Lib.hid (chkK_at K1.out).1
        have N2 := Lib.hid (chkK_at K2.out).1
        have PR := Lib.hid (prod_at hx hy)
        have L1 := TT_lt (8 * (x + 1))
        have L2 := TT_lt (8 * (y + 1))
        have L3 := TT_lt ((x + 1) * (y + 1))
        clear T1 T2 T3 z1 z2
        refine (Tenths_at K1.out _).mono ?_
        rintro e w' ⟨m20, rfl, rfl⟩
        go_wp2_with fail
        refine (Tenths_at K2.out _).mono ?_
        rintro e w' ⟨m21, rfl, rfl⟩
        have t22 : True := trivial
        go_wp2_with (first
          | (have _t := t22; refine wpList_fop rfl _ _ _ _ _ rfl (by decide) _ _ _ rfl rfl ?_; intro r22 n22 hr22 hrb22; rw [N1.out, N2.out, PR.out] at hr22; obtain rfl := (cn_some hr22).1; clear hr22 t22 hrb22))
        refine (Tenths_at K3.out _).mono ?_
        rintro e w' ⟨m22, rfl, rfl⟩
        go_wp2_with fail
        refine (Tenths_one _).mono ?_
        rintro e w' ⟨m23, rfl, rfl⟩
        clear K1 K2 K3 N1 N2 PR X1 X2
        generalize TT (8 * (x + 1)) = tp at *
        generalize TT (8 * (y + 1)) = tq at *
        generalize TT ((x + 1) * (y + 1)) = tr at *
        go_wp2_with (first
          | (go_at_call 10; refine (AngleOf_i _).mono ?_; rintro e w' ⟨ri, mi, rfl, rfl, hri, hsv⟩)
          | (go_at_call 16; refine (sSameNumber_any _ _ _ hri (by decide)).mono ?_; rintro e w' ⟨rfl, rfl⟩))
        go_ret
        exact ⟨rfl, below_dn (Below.refl _ _) _⟩
      · have F0 := Lib.hid f0
        clear f0 F
        go_wp2_with (first
        | (have _t := t8; refine wpList_up rfl _ _ _ rfl _ rfl Try.underlying31 Try.underlying22 ?_; intro u2 k2 hu2 hub2; rw [V2.out] at hu2; have HU2 := Lib.hid hu2; clear hu2 t8 hub2)
        | (have _t := t9; go_at_call 11; refine (b10Gap_any _ _ _).mono ?_; rintro e w' ⟨g1, k3, rfl, rfl, hg1⟩; have q1 : (FloatKind.f64.format.order g1 4547007122018943789 == some Ordering.gt) = false := (by rw [order_cn, hg1, HU2.out, C1.out, CP.out]; exact V3.out); clear t9 hg1)
        | (go_at_call 14; refine (MulComplex_at hs64 ht64 _).mono ?_; rintro e w' ⟨mu, mv, k4, rfl, rfl, hmu, hmv⟩; have HMU := Lib.hid hmu; have HMV := Lib.hid hmv; clear hmu hmv)
        | (go_at_call 13; refine (b10Near_yes _ _ _ _ _ HMU.out HMV.out).mono ?_; rintro e w' ⟨k5, rfl, rfl⟩)
        | (have _t := t10; go_at_call 11; refine (b10Gap_any _ _ _).mono ?_; rintro e w' ⟨g2, k6, rfl, rfl, hg2⟩; have q2 : (FloatKind.f64.format.order g2 4562254508917369340 == some Ordering.gt) = false := (by rw [order_cn, hg2, W2.out, CM.out]; exact W5.out); clear hg2 t10)
        | (have _t := t11; refine wpList_up rfl _ _ _ rfl _ rfl Try.underlying31 Try.underlying22 ?_; intro u11 k11 hu11 hub11; rw [P3.out] at hu11; have HU11 := Lib.hid hu11; clear hu11 t11 hub11)
        | (have _t := t12; go_at_call 11; refine (b10Gap_any _ _ _).mono ?_; rintro e w' ⟨g12, k12, rfl, rfl, hg12⟩; have q12 : (FloatKind.f64.format.order g12 0 != some Ordering.eq) = false := (by rw [bne, order_cn, hg12, HU11.out, C0.out, F0.out]; rfl); clear hg12 t12))
        refine (b10At_any _ _ _ _ 0 200 _ _ (H'.out.dn _) HZ'.out hn2 (by decide) (by decide) (by decide)).mono ?_
        rintro e w' ⟨x, rfl, hx, rfl⟩
        have t20 : True := trivial
        have C8 : Hid (cn .f32 1090519040 = some 1090519040) := Lib.hid (cn_num (by decide))
        have X1 := Lib.hid (tabX hx)
        go_wp2_with (first
          | (have _t := t20; refine wpList_fop rfl _ _ _ _ _ rfl (by decide) _ _ _ rfl rfl ?_; intro r20 n20 hr20 hrb20; rw [C8.out, Int.add_comm, X1.out] at hr20; obtain rfl := (cn_some hr20).1; clear hr20 t20 hrb20))
        refine (b10At_any _ _ _ _ 1 200 _ _ (H'.out.dn _) HZ'.out hn2 (by decide) (by decide) (by decide)).mono ?_
        rintro e w' ⟨y, rfl, hy, rfl⟩
        have t21 : True := trivial
        have X2 := Lib.hid (tabX hy)
        go_wp2_with (first
          | (have _t := t21; refine wpList_fop rfl _ _ _ _ _ rfl (by decide) _ _ _ rfl rfl ?_; intro r21 n21 hr21 hrb21; rw [C8.out, Int.add_comm, X2.out] at hr21; obtain rfl := (cn_some hr21).1; clear hr21 t21 hrb21))
        obtain ⟨T1, T2, T3, T4, T5, _⟩ := tabU hx hy
        obtain ⟨z1, z2⟩ := prod_le hx hy
        have K1 := Lib.hid (chkK_all (k := 8 * (x + 1)) (by omega) (by omega) T1)
        have K2 := Lib.hid (chkK_all (k := 8 * (y + 1)) (by omega) (by omega) T2)
        have K3 := Lib.hid (chkK_all z1 z2 T3)
        have N1 := Lib.hid (chkK_at K1.out).1
        have N2 := Lib.hid (chkK_at K2.out).1
        have PR := Lib.hid (prod_at hx hy)
        have L1 := TT_lt (8 * (x + 1))
        have L2 := TT_lt (8 * (y + 1))
        have L3 := TT_lt ((x + 1) * (y + 1))
        clear T1 T2 T3 z1 z2
        refine (Tenths_at K1.out _).mono ?_
        rintro e w' ⟨m20, rfl, rfl⟩
        go_wp2_with fail
        refine (Tenths_at K2.out _).mono ?_
        rintro e w' ⟨m21, rfl, rfl⟩
        have t22 : True := trivial
        go_wp2_with (first
          | (have _t := t22; refine wpList_fop rfl _ _ _ _ _ rfl (by decide) _ _ _ rfl rfl ?_; intro r22 n22 hr22 hrb22; rw [N1.out, N2.out, PR.out] at hr22; obtain rfl := (cn_some hr22).1; clear hr22 t22 hrb22))
        refine (Tenths_at K3.out _).mono ?_
        rintro e w' ⟨m22, rfl, rfl⟩
        go_wp2_with fail
        refine (Tenths_one _).mono ?_
        rintro e w' ⟨m23, rfl, rfl⟩
        clear K1 K2 K3 N1 N2 PR X1 X2
        generalize TT (8 * (x + 1)) = tp at *
        generalize TT (8 * (y + 1)) = tq at *
        generalize TT ((x + 1) * (y + 1)) = tr at *
        go_wp2_with (first
          | (go_at_call 10; refine (AngleOf_i _).mono ?_; rintro e w' ⟨ri, mi, rfl, rfl, hri, hsv⟩)
          | (go_at_call 16; refine (sSameNumber_any _ _ _ hri (by decide)).mono ?_; rintro e w' ⟨rfl, rfl⟩))
        go_ret
        exact ⟨rfl, below_dn (Below.refl _ _) _⟩
end Go.Proofs.Ytakaocddhaepmaa.fnCircles
