/-
  The square root: its canonical form, its bound, and the contract of math.Sqrt.
-/
import Derived.Test.YtakaocddhaepmaaNum
namespace Go.Proofs.Ytakaocddhaepmaa
open Ieee

@[irreducible] def fsqrt (x : Option Nat) : Option Nat := x.bind fun b => FloatKind.f64.format.sqrt b
theorem fsqrt_none : fsqrt none = none := by unfold fsqrt; rfl
theorem fsqrt_some (b : Nat) : fsqrt (some b) = FloatKind.f64.format.sqrt b := by unfold fsqrt; rfl
theorem sqrt_cn (b : Nat) : FloatKind.f64.format.sqrt b = fsqrt (cn .f64 b) := by
  cases h : cn .f64 b with
  | none => rw [fsqrt_none]; unfold Format.sqrt; rw [root_nan (cn_none h)]; rfl
  | some x => rw [fsqrt_some, ← (cn_some h).1]
theorem sqrt_num {b r : Nat} (h : FloatKind.f64.format.sqrt b = some r) : (FloatKind.f64.format.read r).isNaN = false := map_num (fun _ hd => root_num hd) h
theorem sqrt_lt64 {b r : Nat} (h : FloatKind.f64.format.sqrt b = some r) : r < 2 ^ FloatKind.f64.format.width := FloatKind.f64.format.sqrt_lt h

theorem rootFrom_le (n : Nat) : ∀ todo root : Nat, root * root ≤ n → Datum.rootFrom n todo root * Datum.rootFrom n todo root ≤ n
  | 0, root, h => h
  | todo + 1, root, h => by
    unfold Datum.rootFrom
    dsimp only
    split
    · rename_i h2; exact rootFrom_le n todo _ h2
    · exact rootFrom_le n todo _ h
theorem root_le2 {n t wh : Nat} (h : wh * wh ≤ n) (hn : n ≤ 2 ^ t * 2 ^ t) : 2 * wh + (wh * wh != n).toNat ≤ 2 ^ (t + 1) := by
  have h1 : wh ≤ 2 ^ t := by
    by_cases c : wh ≤ 2 ^ t
    · exact c
    · exfalso
      have h2 : 2 ^ t + 1 ≤ wh := by omega
      have h3 := Nat.mul_le_mul h2 h2
      rw [Nat.add_mul, Nat.mul_add] at h3
      omega
  have h4 : 2 ^ (t + 1) = 2 * 2 ^ t := by rw [Nat.pow_succ, Nat.mul_comm]
  rw [h4]
  by_cases c : wh = 2 ^ t
  · have : wh * wh = n := by rw [c] at h ⊢; omega
    rw [this]; simp; omega
  · have : (wh * wh != n).toNat ≤ 1 := by cases (wh * wh != n) <;> simp
    omega
/-- The root of what is at most 2 ^ (2 p) is at most 2 ^ p. -/
theorem sqrt_fin {b : Nat} {p : Int} (hb : fin .f64 b) (hp : inP p) (h2 : inP (2 * p)) (bb : rg .f64 b ≤ RD (2 * p)) :
    FloatKind.f64.format.sqrt b = none ∨ ∃ r, FloatKind.f64.format.sqrt b = some r ∧ rg .f64 r ≤ RD p := by
  obtain ⟨m, i, hr, hi, hm⟩ := read_fin hb
  rw [← RD_eq, rg_le_R (ok_of h2), ← hm] at bb
  obtain ⟨m1, m2⟩ := m_of_le hi bb (okP_lp (ok_of h2))
  unfold Format.sqrt
  rw [hr]
  simp only [Datum.root]
  by_cases h0 : m = 0
  · rw [if_pos h0]
    refine .inr ⟨_, rfl, ?_⟩
    rw [h0, ← RD_eq]
    refine write_nr_le _ _ _ _ _ ?_
    unfold nr; rw [if_pos rfl]; exact Nat.zero_le _
  · rw [if_neg h0]
    cases hs : sg .f64 b
    · refine .inr ⟨_, rfl, ?_⟩
      rw [← RD_eq]
      refine write_nr_le _ _ _ _ _ ?_
      have hip : i ≤ 2 * p := by
        by_cases c : 2 * p < i
        · exact absurd (m2 c) h0
        · omega
      generalize hmore : 2 * (FloatKind.f64.format.fractionBits + 2) - m.log2 + ((i - ((2 * (FloatKind.f64.format.fractionBits + 2) - m.log2 : Nat) : Int)) % 2).toNat = more
      have heven : (i - more) % 2 = 0 := by omega
      rw [Nat.shiftLeft_eq]
      generalize hn : m * 2 ^ more = n
      have hroot := rootFrom_le n (n.log2 / 2 + 1) 0 (by omega)
      generalize Datum.rootFrom n (n.log2 / 2 + 1) 0 = wh at *
      have ht : ∃ t : Nat, (t : Int) = p - (i - more) / 2 := ⟨(p - (i - more) / 2).toNat, by omega⟩
      obtain ⟨t, ht⟩ := ht
      have hnb : n ≤ 2 ^ t * 2 ^ t := by
        rw [← hn, ← pow_split]
        refine Nat.le_trans (Nat.mul_le_mul_right _ m1) ?_
        rw [← pow_split]
        exact Nat.pow_le_pow_right (by decide) (by omega)
      exact nr_le _ _ _ _ (t + 1) (root_le2 hroot hnb) (by omega) (ok_of hp)
    · exact .inl rfl
theorem fits_inf {s : Bool} {r : Nat} (hr : FloatKind.f64.format.read r = .infinity s) : fits .f64 .f32 (some r) := by
  unfold fits
  refine .inr ?_
  rw [cvF_some]
  unfold floatToFloatBits
  rw [if_neg (by decide)]
  have hd : FloatKind.f64.decode r = .infinity s := hr
  rw [hd]; rfl
/-- The root of a float32 is one that float32 takes. -/
theorem fits_sqrt {b : Nat} : fits .f64 .f32 (fsqrt (cvF .f32 .f64 (cn .f32 b))) := by
  have hp : inP 64 := by unfold inP; omega
  have h2 : inP (2 * 64) := by unfold inP; omega
  rcases cn_own .f32 b with ha | ha
  · rw [ha, cvF_none, fsqrt_none]; unfold fits; exact .inl rfl
  · rw [ha]
    have hle := cn_rg ha
    by_cases hf : rg .f32 b < FloatKind.f32.format.infRung
    · obtain ⟨r, hr, hfr, _, hsz⟩ := up_fin hf
      rw [hr, fsqrt_some]
      have hb : rg .f64 r ≤ RD (2 * 64) := by
        rw [sz_le h2, hsz]
        have h1 := mg_lt FloatKind.f32.format hf
        have h3 := mg_R FloatKind.f32.format 128 (by rw [S_lp, S_fb]; decide)
        have h4 : R FloatKind.f32.format 128 = FloatKind.f32.format.infRung := by decide
        rw [h4, S_lp] at h3
        rw [h3] at h1
        have e : (2 * 64 + 1074 : Int).toNat = (128 - -149 : Int).toNat + c925 := by rw [c925_eq]; decide
        rw [e, pow_split]
        exact Nat.mul_le_mul_right _ (Nat.le_of_lt h1)
      rcases sqrt_fin hfr hp h2 hb with h | ⟨q, hq, hrq⟩
      · rw [h]; unfold fits; exact .inl rfl
      · rw [hq]
        refine fits_down ?_
        rw [le2_some]
        refine Nat.le_trans hrq ?_
        decide
    · obtain ⟨r, hr, _, hrg⟩ := up_inf (b := b) (by omega)
      rw [hr, fsqrt_some]
      have hri := read_inf .f64 r hrg (binade_inf _)
      unfold Format.sqrt
      rw [hri]
      simp only [Datum.root]
      cases sg .f64 r
      · refine fits_inf (s := false) ?_
        decide
      · unfold fits; exact .inl rfl
theorem call_sqrt (b : Nat) (w : World) : ∃ r n, (callFunc 42 #[.float .f64 b]).run Try.prog w = .ok (.value (.float .f64 r)) (w.drewN n) ∧ cn .f64 r = fsqrt (cn .f64 b) ∧ r < 2 ^ FloatKind.f64.format.width := by
  have e := fun w => run_callFunc_extern (e := Extern.MathSqrt.sqrt) Try.func42 (by kernel_rfl) (by kernel_rfl) (by kernel_rfl) (by kernel_rfl) #[.float .f64 b] w
  have e2 : Extern.MathSqrt.sqrt #[.float .f64 b] = (match FloatKind.f64.format.sqrt b with | some r => pure (.float .f64 r) | none => do pure (.float .f64 (← choose (.nanBits .f64 b b)))) := rfl
  cases h : FloatKind.f64.format.sqrt b with
  | some r =>
    refine ⟨r, 0, ?_, by rw [← sqrt_cn, h, cn_num (sqrt_num h)], sqrt_lt64 h⟩
    rw [e, e2, h]; rfl
  | none =>
    refine ⟨(Question.nanBits .f64 b b).cut (w.tape w.drawn (.nanBits .f64 b b)), 1, ?_, ?_, (cut_nan .f64 b b _).2⟩
    · rw [e, e2, h]; simp [Question.forced]; rfl
    · rw [← sqrt_cn, h]; exact (cut_nan .f64 b b _).1
set_option maxHeartbeats 400000 in
theorem Sqrt_any (b : Nat) (w : World) : Calls Try.prog 37 #[.float .f64 b] w fun e w' => ∃ r n, e = .returned (.float .f64 r) ∧ w' = w.drewN n ∧ cn .f64 r = fsqrt (cn .f64 b) ∧ r < 2 ^ FloatKind.f64.format.width := by
  obtain ⟨r, n, hrun, h1, h2⟩ := call_sqrt b w
  have H1 := Lib.hid h1
  have H2 := Lib.hid h2
  clear h1 h2
  go_enter Try.func37, Try.ntmps37
  go_wp2
  go_ret
  exact ⟨r, n, rfl, rfl, H1.out, H2.out⟩
end Go.Proofs.Ytakaocddhaepmaa
