/- The walk of the law FnPowers: it returns true, for all arguments. -/
import Derived.Test.YtlcmldgjkpjjfaaB10
namespace Go.Proofs.Ytlcmldgjkpjjfaa.fnPowers
open Go.RowKit
set_option maxHeartbeats 2000000 in
set_option maxRecDepth 100000 in
theorem walk (A : Option Addr) (n c : Nat) (zs : List Int) (A' : Option Addr) (n' c' : Nat) (ys : List Int) (w : World) (h0 : Arg .u8 w A n zs) (h0' : Arg .u8 w A' n' ys) (hm : n ≤ maxLen) (hm' : n' ≤ maxLen) :
    Calls Try.prog 9 #[.slice A n c, .slice A' n' c'] w fun e w' => e = .returned (.bool true) ∧ Below w.heap.size w w' := by
  obtain ⟨h, hz⟩ := h0
  obtain ⟨h', hz'⟩ := h0'
  by_cases hn : 1048576 < n ∨ 1048576 < n'
  · have hd : decide (1048576 < n ∨ 1048576 < n') = true := decide_eq_true hn
    have HC := Lib.hid (b10Long_any A A' n c n' c' w hm hm')
    rw [hd] at HC
    clear hd hn hm hm' h h' hz hz'
    go_enter Try.func9, Try.ntmps9
    go_wp2_with (go_at_call 24; refine HC.out.mono ?_; rintro e w' ⟨rfl, rfl⟩)
    go_ret
    exact ⟨rfl, Below.refl _ _⟩
  · have hd : decide (1048576 < n ∨ 1048576 < n') = false := decide_eq_false hn
    have HC := Lib.hid (b10Long_any A A' n c n' c' w hm hm')
    rw [hd] at HC
    have hn1 : n ≤ 1048576 := by omega
    have hn2 : n' ≤ 1048576 := by omega
    have H := Lib.hid h
    have H' := Lib.hid h'
    have HZ := Lib.hid hz
    have HZ' := Lib.hid hz'
    clear hd hn hm hm' h h' hz hz'
    go_enter Try.func9, Try.ntmps9
    go_wp2_with (go_at_call 24; refine HC.out.mono ?_; rintro e w' ⟨rfl, rfl⟩)
    refine (b10At_any _ _ _ _ 0 65 _ _ H.out HZ.out hn1 (by decide) (by decide) (by decide)).mono ?_
    rintro e w' ⟨i, rfl, hi, rfl⟩
    have t1 : True := trivial
    go_wp2_with (first
      | (have _t := t1; refine wpList_fop rfl _ _ _ _ _ rfl (by decide) _ _ _ rfl rfl ?_; intro r1 n1 hr1 hrb1; have HR1 := Lib.hid hr1; clear hr1 t1 hrb1))
    obtain ⟨x1, x2, x3⟩ := tabX hi
    have hX := HR1.out
    rw [x2, show cn .f32 1090519040 = some 1090519040 from cn_num (by decide), x1] at hX
    obtain rfl := (cn_some hX).1
    have X3 := Lib.hid x3
    clear x1 x2 x3 HR1 hX
    refine (b10At_any _ _ _ _ 0 65 _ _ (H'.out.dn _) HZ'.out hn2 (by decide) (by decide) (by decide)).mono ?_
    rintro e w' ⟨j, rfl, hj, rfl⟩
    have t2 : True := trivial
    go_wp2_with (first
      | (have _t := t2; refine wpList_fop rfl _ _ _ _ _ rfl (by decide) _ _ _ rfl rfl ?_; intro r2 n2 hr2 hrb2; have HR2 := Lib.hid hr2; clear hr2 t2 hrb2))
    obtain ⟨y1, y2, y3⟩ := tabX hj
    have hY := HR2.out
    rw [y2, show cn .f32 1090519040 = some 1090519040 from cn_num (by decide), y1] at hY
    obtain rfl := (cn_some hY).1
    clear y1 y2 y3 HR2 hY
    have EI := Lib.hid (tabE (s := i + 32) (by omega))
    have EJ := Lib.hid (tabE (s := j + 32) (by omega))
    have EK := Lib.hid (tabE (s := i + j) (by omega))
    have SS := Lib.hid (tabS hi hj)
    have cI := EI.out.2.2.2.2.2.1
    refine (exp_at (s := i + 32) (by omega) _).mono ?_
    rintro e w' ⟨m1, rfl, rfl⟩
    go_wp2_with fail
    refine (exp_at (s := j + 32) (by omega) _).mono ?_
    rintro e w' ⟨m2, rfl, rfl⟩
    have t3 : True := trivial
    go_wp2_with (first
      | (have _t := t3; refine wpList_fop rfl _ _ _ _ _ rfl (by decide) _ _ _ rfl rfl ?_; intro r3 n3 hr3 hrb3; have HR3 := Lib.hid hr3; clear hr3 t3 hrb3))
    have hS := HR3.out
    rw [EI.out.2.2.2.2.2.1, EJ.out.2.2.2.2.2.1, SS.out.1] at hS
    obtain rfl := (cn_some hS).1
    clear HR3 hS cI
    refine (exp_at (s := i + j) (by omega) _).mono ?_
    rintro e w' ⟨m3, rfl, rfl⟩
    go_wp2_with fail
    refine (LogNumber_any _ _ (ES_lt _)).mono ?_
    rintro e w' ⟨l, m4, rfl, rfl, hl⟩
    rw [EI.out.2.2.2.2.2.2.1] at hl
    have HL := Lib.hid hl
    clear hl
    have t4 : True := trivial
    have t5 : True := trivial
    go_wp2_with (first
      | (have _t := t4; refine wpList_up rfl _ _ _ rfl _ rfl Try.underlying22 Try.underlying25 ?_; intro q1 k1 hq1 hqb1; have HQ1 := Lib.hid hq1; clear hq1 t4 hqb1)
      | (have _t := t5; refine wpList_up rfl _ _ _ rfl _ rfl Try.underlying22 Try.underlying25 ?_; intro q2 k2 hq2 hqb2; have HQ2 := Lib.hid hq2; clear hq2 t5 hqb2))
    refine (b10Gap_any _ _ _).mono ?_
    rintro e w' ⟨g1, m5, rfl, rfl, hg1⟩
    have tst1 : (FloatKind.f64.format.order g1 4562254508917369340 == some Ordering.lt) = true := by
      rw [order_cn, hg1, HQ1.out, HQ2.out, HL.out, EI.out.2.2.2.2.2.1, show cn .f64 4562254508917369340 = some 4562254508917369340 from cn_num (by decide)]
      exact X3.out
    clear hg1
    have t6 : True := trivial
    have t7 : True := trivial
    have t8 : True := trivial
    have t9 : True := trivial
    have tst2 : (FloatKind.f32.format.order (ES (i + 32)) 0 == some Ordering.gt) = true := by
      rw [order_cn, EI.out.2.2.2.2.2.2.1, show cn .f32 0 = some 0 from cn_num (by decide)]
      exact EI.out.2.2.1
    have tst3 : (FloatKind.f32.format.order 1065353216 1065353216 == some Ordering.eq) = true := by decide
    have tst4 : (FloatKind.f32.format.order 0 0 == some Ordering.eq) = true := by decide
    go_wp2_with (first
      | (have _t := t6; refine wpList_up rfl _ _ _ rfl _ rfl Try.underlying22 Try.underlying25 ?_; intro p1 k6 p1h p1b; rw [EI.out.2.2.2.2.2.2.1, EI.out.2.1] at p1h; obtain rfl := (cn_some p1h).1; clear p1h p1b t6)
      | (have _t := t7; refine wpList_up rfl _ _ _ rfl _ rfl Try.underlying22 Try.underlying25 ?_; intro p2 k7 p2h p2b; rw [EJ.out.2.2.2.2.2.2.1, EJ.out.2.1] at p2h; obtain rfl := (cn_some p2h).1; clear p2h p2b t7)
      | (have _t := t8; refine wpList_fop rfl _ _ _ _ _ rfl (by decide) _ _ _ rfl rfl ?_; intro r4 n4 hr4 hrb4; have HR4 := Lib.hid hr4; clear hr4 t8 hrb4)
      | (have _t := t9; refine wpList_up rfl _ _ _ rfl _ rfl Try.underlying22 Try.underlying25 ?_; intro p3 k9 p3h p3b; rw [EK.out.2.2.2.2.2.2.1, EK.out.2.1] at p3h; obtain rfl := (cn_some p3h).1; clear p3h p3b t9))
    refine (b10Gap_any _ _ _).mono ?_
    rintro e w' ⟨g2, m6, rfl, rfl, hg2⟩
    have HG2 := Lib.hid hg2
    clear hg2
    have t10 : True := trivial
    have t11 : True := trivial
    go_wp2_with (first
      | (have _t := t10; refine wpList_up rfl _ _ _ rfl _ rfl Try.underlying22 Try.underlying25 ?_; intro p4 k10 p4h p4b; rw [EK.out.2.2.2.2.2.2.1, EK.out.2.1] at p4h; obtain rfl := (cn_some p4h).1; clear p4h p4b t10)
      | (have _t := t11; refine wpList_fop rfl _ _ _ _ _ rfl (by decide) _ _ _ rfl rfl ?_; intro r5 n5 hr5 hrb5; have HR5 := Lib.hid hr5; clear hr5 t11 hrb5; have tst5 : (FloatKind.f64.format.order g2 r5 == some Ordering.lt) = true := (by rw [order_cn, HG2.out, HR4.out, HR5.out, EI.out.2.2.2.2.2.2.2, EJ.out.2.2.2.2.2.2.2, EK.out.2.2.2.2.2.2.2, show cn .f64 4562254508917369340 = some 4562254508917369340 from cn_num (by decide)]; exact SS.out.2))
      | (go_at_call 11; refine (exp_zero _).mono ?_; rintro e w' ⟨m7, rfl, rfl⟩)
      | (go_at_call 16; refine (log_at_one _).mono ?_; rintro e w' ⟨m8, rfl, rfl⟩))
    go_ret
    exact ⟨rfl, below_dn (Below.refl _ _) _⟩
end Go.Proofs.Ytlcmldgjkpjjfaa.fnPowers
