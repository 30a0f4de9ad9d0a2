/-
  Contracts of PhasorOf and its twin, for every number of turns; complex64 to complex128.
-/
import Derived.Test.YtakaocddhaepmaaPha2
import Derived.Test.YtakaocddhaepmaaFromB
namespace Go.Proofs.Ytakaocddhaepmaa
open Ieee Go.RowKit

section
variable {P : Program} {w : World} {ops : Array Oper} {rest : List Oper} {o : Oper} {a : Act} {Q : Exit → Act → World → Prop}
theorem run_floatUp (w : World) (b : Nat) : ∃ r n, (Conv.floatToFloat .f32 b .f64).run P w = .ok (.float .f64 r) (w.drewN n) ∧ cn .f64 r = cvF .f32 .f64 (cn .f32 b) ∧ r < 2 ^ FloatKind.f64.format.width := by
  cases hc : cn .f32 b with
  | none =>
    have hx : (FloatKind.f32.decode b).isNaN = true := cn_none hc
    refine ⟨(Question.nanConv .f64 b).cut (w.tape w.drawn (.nanConv .f64 b)), 1, ?_, ?_, (cut_nanConv .f64 b _).2⟩
    · cases hq : FloatKind.f32.decode b with
      | number a1 a2 a3 => rw [hq] at hx; simp [Ieee.Datum.isNaN] at hx
      | infinity a1 => rw [hq] at hx; simp [Ieee.Datum.isNaN] at hx
      | nan a1 a2 => simp [Conv.floatToFloat, hq, Question.forced]; rfl
    · rw [cvF_none]; exact (cut_nanConv .f64 b _).1
  | some x =>
    obtain ⟨hbx, hnum⟩ := cn_some hc
    have h := fits_up b
    rw [hc] at h
    unfold fits at h
    rcases h with h | h
    · cases h
    · obtain ⟨r, hr⟩ := Option.isSome_iff_exists.1 h
      rw [cvF_some] at hr
      refine ⟨r, 0, run_floatToFloat w (by rw [hbx]; exact hr), ?_, conv_lt (by decide) hr⟩
      rw [cvF_some, hr, cn_num (conv_num (by rw [← hbx]; exact hnum) hr)]
theorem wpList_upC (hgd : Region.wanted o (yielded ops a.tmps) = true) (src dst : TypeId) (x : Operand) (ho : o.op = .convert src dst x) (b c : Nat) (hx : a.eval x = .complex .f32 b c)
    (hs : P.underlying src = some (.complex .f32)) (hd : P.underlying dst = some (.complex .f64))
    (h : ∀ r s n, cn .f64 r = cvF .f32 .f64 (cn .f32 b) → cn .f64 s = cvF .f32 .f64 (cn .f32 c) → wpList P ops Q rest (a.put o.dst (.complex .f64 r s)) (w.drewN n)) : wpList P ops Q (o :: rest) a w := by
  refine wpList_wanted hgd fun K hK => ?_
  obtain ⟨r, n, hr, h1, _⟩ := run_floatUp (P := P) w b
  obtain ⟨s, m, hs', h2, _⟩ := run_floatUp (P := P) (w.drewN n) c
  have he : (execOp a.eval o).run P w = .ok (.value (.complex .f64 r s)) (w.drewN (n + m)) := by
    unfold execOp
    simp [ho, hx, convert, run_underlying hs, run_underlying hd, Conv.complexToComplex, hr, hs']
  unfold Oper.wp
  rw [he]
  exact hK _ _ (h r s _ h1 h2)
end
set_option maxHeartbeats 1000000 in
theorem PhasorOf_any (b : Nat) (w : World) :
    Calls Try.prog 6 #[.float .f64 b] w fun e w' => ∃ re im n, e = .returned (.complex .f32 re im) ∧ w' = w.drewN n ∧ cn .f32 re = phoX (cn .f64 b) ∧ cn .f32 im = phoY (cn .f64 b) := by
  have ho := fun a b => order_cn .f64 a b
  have hab := fun b => cn_abs b
  have c6 := c52
  rcases hc : isFin .f64 (cn .f64 b)
  · have HS : Hid (phoX (cn .f64 b) = none ∧ phoY (cn .f64 b) = none) := Lib.hid (by
      rcases cn_own .f64 b with ha | ha
      · rw [ha]; exact pho_none
      · rw [ha] at hc ⊢; exact pho_inf hc)
    go_enter Try.func6, Try.ntmps6
    go_wp2_with (first
      | (go_at_call 18; refine (isFinite64_any _ _).mono ?_; rintro e w' ⟨n, rfl, rfl⟩)
      | (go_at_call 19; refine (NaN_any _).mono ?_; rintro e w' ⟨rfl, rfl⟩)
      | (refine wpList_down rfl _ _ _ rfl _ rfl Try.underlying22 Try.underlying31 (by rw [c_nan]; exact fits_down (le2_none _)) ?_; intro r n hr hrb; rw [c_nan, cvF_none] at hr))
    go_ret
    exact ⟨_, _, _, rfl, rfl, by rw [HS.out.1]; assumption, by rw [HS.out.2]; assumption⟩
  · have hb : cn .f64 b = some b := by
      rcases cn_own .f64 b with ha | ha
      · rw [ha, isFin_none] at hc; cases hc
      · exact ha
    rw [hb] at hc ⊢
    rcases hB : big52 b
    · rw [(pho_fin hc hB).1, (pho_fin hc hB).2]
      exact PhasorOf_main b w hb hc hB
    · have hf : fin .f64 b := by
        rw [isFin_some hb] at hc
        unfold fin; exact of_decide_eq_true hc
      have HA := big_abs (r := b) (Nat.le_of_lt hf)
      rw [hB] at HA
      have HP := Lib.hid (pho_big hc hB)
      have k1 : cn .f32 1065353216 = some 1065353216 := cn_num (by decide)
      have k0 : cn .f32 0 = some 0 := cn_num (by decide)
      clear hB hf
      go_enter Try.func6, Try.ntmps6
      go_wp2_with (first
        | (go_at_call 18; refine (isFinite64_any _ _).mono ?_; rintro e w' ⟨n, rfl, rfl⟩)
        | (go_at_call 20; refine (Abs_any _ _).mono ?_; rintro e w' ⟨rfl, rfl⟩))
      go_ret
      exact ⟨_, _, _, rfl, rfl, by rw [HP.out.1]; exact k1, by rw [HP.out.2]; exact k0⟩
end Go.Proofs.Ytakaocddhaepmaa
