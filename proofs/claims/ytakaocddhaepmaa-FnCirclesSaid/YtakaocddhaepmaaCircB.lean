/-
  Contracts of the laws' helpers b10Long, b10At, b10Gap, b10Near; of PowerOf, AngleOf, MulComplex, TenthsOf at the tables.
-/
import Derived.Test.YtakaocddhaepmaaList
import Derived.Test.YtakaocddhaepmaaCircT6
import Derived.Test.YtakaocddhaepmaaCircM
import Derived.Test.YtakaocddhaepmaaSame
namespace Go.Proofs.Ytakaocddhaepmaa
open Go.RowKit

section
open Go.ChangeShapes Go.WideShapes
theorem row_len {H : Type} {enc : TypeId × Value → H} {P : Program} {w : World} {base : Nat} {spare : Nat → Bool} {held : Bool} {t e : TypeId} {k : IntKind} {A : Option Addr} {n c : Nat} {d : DataW H} {ps : List MemPlace}
    (ht : P.underlying t = some (.slice e)) (he : P.underlying e = some (.int k)) (hc : P.cellsOf e = 1) (h : DataW.Trod enc P w base spare held t (.slice A n c) d ps) : n ≤ maxLen := by
  obtain ⟨fuel, hf⟩ := h
  rcases open_ints ht he hc hf with ⟨hcs, _⟩ | ⟨x, l, c', zs, hcs, _, hl, hm, _⟩
  · simp [Value.cells] at hcs
    obtain ⟨rfl, rfl, rfl⟩ := hcs
    exact Nat.zero_le _
  · simp [Value.cells] at hcs
    obtain ⟨rfl, rfl, rfl⟩ := hcs
    omega
end
set_option maxHeartbeats 400000 in
theorem b10Long_any (A A' : Option Addr) (n c n' c' : Nat) (w : World) (hn : n ≤ maxLen) (hn' : n' ≤ maxLen) :
    Calls Try.prog 8 #[.slice A n c, .slice A' n' c'] w fun e w' => e = .returned (.bool (decide (1048576 < n ∨ 1048576 < n'))) ∧ w = w' := by
  unfold maxLen at hn hn'
  by_cases h1 : 1048576 < n
  · go_enter Try.func8, Try.ntmps8
    go_wp2
    go_ret
    exact ⟨retB (by first | rfl | (rw [Bool.eq_iff_iff]; first | (simp; done) | (simp; omega))), rfl⟩
  · by_cases h2 : 1048576 < n'
    · go_enter Try.func8, Try.ntmps8
      go_wp2
      go_ret
      exact ⟨retB (by first | rfl | (rw [Bool.eq_iff_iff]; first | (simp; done) | (simp; omega))), rfl⟩
    · go_enter Try.func8, Try.ntmps8
      go_wp2
      go_ret
      exact ⟨retB (by first | rfl | (rw [Bool.eq_iff_iff]; first | (simp; done) | (simp; omega))), rfl⟩
set_option maxHeartbeats 800000 in
theorem b10At_any (A : Option Addr) (n c B i m : Nat) (zs : List Int) (w : World) (h : Lies w B A n (zs.map (Value.int .u8))) (hz : ∀ z ∈ zs, (Lit.int .u8 z).wf = true) (_hn : n ≤ 1048576) (hi : i ≤ 1000) (hm1 : 1 < m) (hm2 : m ≤ 1000) :
    Calls Try.prog 9 #[.slice A n c, .int .i64 i, .int .i64 m] w fun e w' => ∃ r : Nat, e = .returned (.int .i64 (r : Int)) ∧ r < m ∧ w = w' := by
  have hzl : zs.length = n := by have := h.1; simpa using this
  by_cases hin : i < n
  · obtain ⟨ad, rfl, hab, hc⟩ := h.at_ hin
    rw [ints_getD .u8 zs (by omega)] at hc
    have hw := hz (zs.getD i 0) (by simp [List.getD, show i < zs.length by omega])
    obtain ⟨q, HQ⟩ : ∃ q, Hid (zs.getD i 0 = q) := ⟨_, Lib.hid rfl⟩
    rw [HQ.out] at hc hw
    simp [Lit.wf, IntKind.min, IntKind.max, IntKind.signed, IntKind.bits] at hw
    obtain ⟨z, rfl⟩ : ∃ z : Nat, q = z := ⟨q.toNat, by omega⟩
    have hz255 : z ≤ 255 := by omega
    clear hw hzl hz
    go_enter Try.func9, Try.ntmps9
    go_wp2
    go_ret
    exact ⟨z % m, ret1 (by simp), Nat.mod_lt _ (by omega), rfl⟩
  · clear hzl hz
    go_enter Try.func9, Try.ntmps9
    go_wp2
    go_ret
    exact ⟨(i * 37 + 11) % m, ret1 (by simp), Nat.mod_lt _ (by omega), rfl⟩
set_option maxHeartbeats 400000 in
theorem b10Gap_any (a b : Nat) (w : World) : Calls Try.prog 11 #[.float .f64 a, .float .f64 b] w fun e w' => ∃ r n, e = .returned (.float .f64 r) ∧ w' = w.drewN n ∧ cn .f64 r = gapC (cn .f64 a) (cn .f64 b) := by
  have ho := fun a b => order_cn .f64 a b
  have HG : Hid (gapC (cn .f64 a) (cn .f64 b) = if ford .f64 (cn .f64 a) (cn .f64 b) == some .lt then fop .sub .f64 (cn .f64 b) (cn .f64 a) else fop .sub .f64 (cn .f64 a) (cn .f64 b)) := Lib.hid (by unfold gapC; rfl)
  rcases hl : (ford .f64 (cn .f64 a) (cn .f64 b) == some Ordering.lt)
  all_goals
    rw [hl] at HG
    go_enter Try.func11, Try.ntmps11
    go_wp2_with (refine wpList_fop rfl _ _ _ _ _ rfl (by decide) _ _ _ rfl rfl ?_; intro r n hr hrb; have HR := Lib.hid hr; clear hr)
    go_ret
    first | exact ⟨_, _, rfl, rfl, by rw [HG.out, HR.out]; rfl⟩ | exact ⟨_, rfl, ⟨_, rfl⟩, by rw [HG.out, HR.out]; rfl⟩
/-! ### Complex numbers -/
set_option maxHeartbeats 400000 in
theorem parts_any (x y : Nat) (w : World) : Calls Try.prog 26 #[.complex .f32 x y] w fun e w' => ∃ a b n, e = .returned (.tuple #[.float .f64 a, .float .f64 b]) ∧ w' = w.drewN n ∧ cn .f64 a = cvF .f32 .f64 (cn .f32 x) ∧ cn .f64 b = cvF .f32 .f64 (cn .f32 y) := by
  have t1 : True := trivial
  go_enter Try.func26, Try.ntmps26
  go_wp2_with (first
    | (have _t := t1; refine wpList_up rfl _ _ _ rfl _ rfl Try.underlying31 Try.underlying22 ?_; intro a n1 ha hab; have HA := Lib.hid ha; clear ha t1)
    | (refine wpList_up rfl _ _ _ rfl _ rfl Try.underlying31 Try.underlying22 ?_; intro b n2 hb hbb; have HB := Lib.hid hb; clear hb))
  go_ret2
  exact ⟨_, _, _, rfl, by first | rfl | exact World.drewN_drewN _ _ _, HA.out, HB.out⟩
set_option maxHeartbeats 800000 in
theorem times_any (a b c d : Nat) (w : World) : Calls Try.prog 27 #[.float .f64 a, .float .f64 b, .float .f64 c, .float .f64 d] w fun e w' => ∃ u v n, e = .returned (.tuple #[.float .f64 u, .float .f64 v]) ∧ w' = w.drewN n ∧
    cn .f64 u = fop .sub .f64 (fop .mul .f64 (cn .f64 a) (cn .f64 c)) (fop .mul .f64 (cn .f64 b) (cn .f64 d)) ∧ cn .f64 v = fop .add .f64 (fop .mul .f64 (cn .f64 a) (cn .f64 d)) (fop .mul .f64 (cn .f64 b) (cn .f64 c)) := by
  go_enter Try.func27, Try.ntmps27
  go_wp2_with (refine wpList_fop rfl _ _ _ _ _ rfl (by decide) _ _ _ rfl rfl ?_; intro r n hr hrb)
  go_ret2
  exact ⟨_, _, _, rfl, rfl, by simp only [*], by simp only [*]⟩
set_option maxHeartbeats 800000 in
theorem power_any (x y : Nat) (w : World) : Calls Try.prog 25 #[.complex .f32 x y] w fun e w' => ∃ r n, e = .returned (.float .f64 r) ∧ w' = w.drewN n ∧ cn .f64 r = pwD (cvF .f32 .f64 (cn .f32 x)) (cvF .f32 .f64 (cn .f32 y)) := by
  go_enter Try.func25, Try.ntmps25
  go_wp2_with (first
    | (go_at_call 26; refine (parts_any _ _ _).mono ?_; rintro e w' ⟨a, b, n, rfl, rfl, ha, hb⟩)
    | (refine wpList_fop rfl _ _ _ _ _ rfl (by decide) _ _ _ rfl rfl ?_; intro r n hr hrb))
  go_ret
  exact ⟨_, _, rfl, rfl, by unfold pwD; simp only [*]⟩
theorem fits_of {x : Option Nat} {r : Nat} (h : cvF .f64 .f32 x = some r) : fits .f64 .f32 x := by unfold fits; exact .inr (by rw [h]; rfl)
set_option maxHeartbeats 400000 in
theorem PowerOf_at {s : Nat} (h : s < 64) (w : World) : Calls Try.prog 12 #[.complex .f32 (PX s) (PY s)] w fun e w' => ∃ n, e = .returned (.float .f32 (PW s)) ∧ w' = w.drewN n := by
  obtain ⟨_, _, p3, p4, p5, p6, _, _⟩ := tabP h
  obtain ⟨v1, _⟩ := tabV h
  have HV : Hid (cvF .f64 .f32 (pwD (cvF .f32 .f64 (cn .f32 (PX s))) (cvF .f32 .f64 (cn .f32 (PY s)))) = some (PW s)) := Lib.hid (by rw [p3, p4, p5, p6, v1])
  clear p3 p4 p5 p6 v1
  go_enter Try.func12, Try.ntmps12
  go_wp2_with (first
    | (go_at_call 25; refine (power_any _ _ _).mono ?_; rintro e w' ⟨r, n, rfl, rfl, hr⟩)
    | (refine wpList_down rfl _ _ _ rfl _ rfl Try.underlying22 Try.underlying31 (by rw [hr]; exact fits_of HV.out) ?_; intro q n2 hq hqb; rw [hr, HV.out] at hq; obtain rfl := (cn_some hq).1))
  go_ret
  exact ⟨_, rfl, rfl⟩
set_option maxHeartbeats 1000000 in
theorem MulComplex_at {s t : Nat} (hs : s < 64) (ht : t < 64) (w : World) : Calls Try.prog 14 #[.complex .f32 (PX s) (PY s), .complex .f32 (PX t) (PY t)] w fun e w' => ∃ u v n, e = .returned (.complex .f32 u v) ∧ w' = w.drewN n ∧
    leC (gapC (cvF .f32 .f64 (cn .f32 u)) (cvF .f32 .f64 (cn .f32 (PX ((s + t) % 64))))) = true ∧ leC (gapC (cvF .f32 .f64 (cn .f32 v)) (cvF .f32 .f64 (cn .f32 (PY ((s + t) % 64))))) = true := by
  obtain ⟨_, _, p3, p4, p5, p6, _, _⟩ := tabP hs
  obtain ⟨_, _, q3, q4, q5, q6, _, _⟩ := tabP ht
  obtain ⟨_, _, z3, z4, z5, z6, _, _⟩ := tabP (s := (s + t) % 64) (Nat.mod_lt _ (by decide))
  obtain ⟨u, v, m1, m2, m3, m4, m5, m6⟩ := tabM hs ht
  unfold mulU at m1
  unfold mulV at m2
  rw [← p5, ← p6, ← q5, ← q6, ← p3, ← p4, ← q3, ← q4] at m1 m2
  have M1 := Lib.hid m1
  have M2 := Lib.hid m2
  have M5 : Hid (leC (gapC (cvF .f32 .f64 (cn .f32 u)) (cvF .f32 .f64 (cn .f32 (PX ((s + t) % 64))))) = true) := Lib.hid (by rw [m3, z3, z5]; exact m5)
  have M6 : Hid (leC (gapC (cvF .f32 .f64 (cn .f32 v)) (cvF .f32 .f64 (cn .f32 (PY ((s + t) % 64))))) = true) := Lib.hid (by rw [m4, z4, z6]; exact m6)
  clear m1 m2 m3 m4 m5 m6 p3 p4 p5 p6 q3 q4 q5 q6 z3 z4 z5 z6
  generalize PX s = a at *
  generalize PY s = b at *
  generalize PX t = c at *
  generalize PY t = d at *
  have t1 : True := trivial
  have t2 : True := trivial
  go_enter Try.func14, Try.ntmps14
  go_wp2_with (first
    | (have _t := t1; go_at_call 26; refine (parts_any _ _ _).mono ?_; rintro e w' ⟨a1, b1, n, rfl, rfl, ha, hb⟩; clear t1)
    | (go_at_call 26; refine (parts_any _ _ _).mono ?_; rintro e w' ⟨c1, d1, n, rfl, rfl, hc, hd⟩)
    | (go_at_call 27; refine (times_any _ _ _ _ _).mono ?_; rintro e w' ⟨u1, v1, n, rfl, rfl, hu, hv⟩; rw [ha, hb, hc, hd] at hu hv; have HU := Lib.hid hu; have HV := Lib.hid hv; clear hu hv)
    | (have _t := t2; refine wpList_down rfl _ _ _ rfl _ rfl Try.underlying22 Try.underlying31 (by rw [HU.out]; exact fits_of M1.out) ?_; intro q n2 hq hqb; rw [HU.out, M1.out] at hq; obtain rfl := (cn_some hq).1; clear t2 hq)
    | (refine wpList_down rfl _ _ _ rfl _ rfl Try.underlying22 Try.underlying31 (by rw [HV.out]; exact fits_of M2.out) ?_; intro q2 n3 hq2 hqb2; rw [HV.out, M2.out] at hq2; obtain rfl := (cn_some hq2).1; clear hq2))
  go_ret
  exact ⟨_, _, _, rfl, rfl, M5.out, M6.out⟩
set_option maxHeartbeats 400000 in
theorem AngleOf_any (x y : Nat) (w : World) : Calls Try.prog 10 #[.complex .f32 x y] w fun e w' => ∃ r n, e = .returned (.float .f32 r) ∧ w' = w.drewN n ∧ cn .f32 r = angW (cn .f32 y) (cn .f32 x) := by
  go_enter Try.func10, Try.ntmps10
  go_wp2_with (go_at_call 24; refine (AngleTurns_any _ _ _).mono ?_; rintro e w' ⟨r, n, rfl, rfl, hr⟩)
  go_ret
  exact ⟨_, _, rfl, rfl, hr⟩
theorem AngleOf_at {s : Nat} (h : s < 64) (w : World) : Calls Try.prog 10 #[.complex .f32 (PX s) (PY s)] w fun e w' => ∃ n, e = .returned (.float .f32 (AN s)) ∧ w' = w.drewN n := by
  obtain ⟨_, _, p3, p4, _⟩ := tabP h
  obtain ⟨a1, _⟩ := tabA h
  refine (AngleOf_any _ _ w).mono ?_
  rintro e w' ⟨r, n, rfl, rfl, hr⟩
  rw [p3, p4, a1] at hr
  obtain rfl := (cn_some hr).1
  exact ⟨n, rfl, rfl⟩
theorem AngleOf_i (w : World) : Calls Try.prog 10 #[.complex .f32 0 1065353216] w fun e w' => ∃ r n, e = .returned (.float .f32 r) ∧ w' = w.drewN n ∧ r < 4294967296 ∧ sameV r 0 = false := by
  refine (AngleOf_any _ _ w).mono ?_
  rintro e w' ⟨r, n, rfl, rfl, hr⟩
  have c := chkI_at
  unfold chkI at c
  rw [show cn .f32 0 = some 0 from cn_num (by decide), show cn .f32 1065353216 = some 1065353216 from cn_num (by decide)] at hr
  rw [← hr] at c
  cases hc : cn .f32 r with
  | none => rw [hc] at c; cases c
  | some b =>
    rw [hc] at c
    simp only [Bool.and_eq_true, decide_eq_true_eq] at c
    obtain ⟨_, c2, c3⟩ := c
    have hb := (cn_some hc).1
    subst hb
    refine ⟨_, n, rfl, rfl, by omega, ?_⟩
    unfold sameV
    rw [hc, show cn .f32 0 = some 0 from cn_num (by decide), bitsV_some, bitsV_some, beq_eq_false_iff_ne]
    omega
set_option maxHeartbeats 800000 in
theorem b10Near_yes (u v x y : Nat) (w : World) (h1 : leC (gapC (cvF .f32 .f64 (cn .f32 u)) (cvF .f32 .f64 (cn .f32 x))) = true) (h2 : leC (gapC (cvF .f32 .f64 (cn .f32 v)) (cvF .f32 .f64 (cn .f32 y))) = true) :
    Calls Try.prog 13 #[.complex .f32 u v, .complex .f32 x y, .float .f64 4547007122018943789] w fun e w' => ∃ n, e = .returned (.bool true) ∧ w' = w.drewN n := by
  unfold leC at h1 h2
  have H1 := Lib.hid h1
  have H2 := Lib.hid h2
  clear h1 h2
  have ho := fun a b => order_cn .f64 a b
  have cc : cn .f64 4547007122018943789 = some 4547007122018943789 := cn_num (by decide)
  have t1 : True := trivial
  have t2 : True := trivial
  have t3 : True := trivial
  have t4 : True := trivial
  go_enter Try.func13, Try.ntmps13
  go_wp2_with (first
    | (have _t := t1; refine wpList_up rfl _ _ _ rfl _ rfl Try.underlying31 Try.underlying22 ?_; intro a1 n1 ha1 hb1; have A1 := Lib.hid ha1; clear ha1 t1 hb1)
    | (have _t := t2; refine wpList_up rfl _ _ _ rfl _ rfl Try.underlying31 Try.underlying22 ?_; intro a2 n2 ha2 hb2; have A2 := Lib.hid ha2; clear ha2 t2 hb2)
    | (have _t := t3; go_at_call 11; refine (b10Gap_any _ _ _).mono ?_; rintro e w' ⟨g1, m1, rfl, rfl, hg1⟩; rw [A1.out, A2.out] at hg1; have q1 := H1.out; rw [← hg1] at q1; clear t3 hg1)
    | (have _t := t4; refine wpList_up rfl _ _ _ rfl _ rfl Try.underlying31 Try.underlying22 ?_; intro a3 n3 ha3 hb3; have A3 := Lib.hid ha3; clear ha3 t4 hb3)
    | (refine wpList_up rfl _ _ _ rfl _ rfl Try.underlying31 Try.underlying22 ?_; intro a4 n4 ha4 hb4; have A4 := Lib.hid ha4; clear ha4 hb4)
    | (go_at_call 11; refine (b10Gap_any _ _ _).mono ?_; rintro e w' ⟨g2, m2, rfl, rfl, hg2⟩; rw [A3.out, A4.out] at hg2; have q2 := H2.out; rw [← hg2] at q2; clear hg2))
  go_ret
  exact ⟨_, rfl, rfl⟩
end Go.Proofs.Ytakaocddhaepmaa
