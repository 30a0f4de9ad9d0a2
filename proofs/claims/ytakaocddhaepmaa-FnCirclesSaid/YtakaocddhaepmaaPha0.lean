/-
  Phasors in plain words: how many quarters of a turn are taken off a fraction, and that no more than four are.
-/
import Derived.Test.YtakaocddhaepmaaSine2
namespace Go.Proofs.Ytakaocddhaepmaa
open Ieee Go.RowKit

/-- A DIFFERENCE: rounded, in units of the least place. -/
theorem sub_mono {x y : Nat} (hx : fin .f64 x) (hy : fin .f64 y) : ∃ r, floatBits .sub .f64 x y = some r ∧
    (∀ q, (V .f64 x - V .f64 y).natAbs ≤ mg FloatKind.f64.format q → rg .f64 r ≤ q) := by
  obtain ⟨m, i, hr, hi, hm⟩ := read_fin hx
  obtain ⟨n, j, hr', hj, hn⟩ := read_fin hy
  unfold floatBits
  simp only [Format.sub, hr, hr', Datum.opposite, Datum.sum, Option.map_some]
  have hb1 : LP .f64 ≤ min i j := by omega
  have e1 := signed_V hb1 (show min i j ≤ i by omega) hm
  have e2 := signed_V hb1 (show min i j ≤ j by omega) hn
  have e4 : signed (!sg .f64 y) n (j - min i j).toNat = - signed (sg .f64 y) n (j - min i j).toNat := by
    rw [signed_mul, signed_mul]; cases sg .f64 y <;> simp
  rw [e4]
  generalize signed (sg .f64 x) m (i - min i j).toNat = A at *
  generalize signed (sg .f64 y) n (j - min i j).toNat = B at *
  have e3 : (A + -B).natAbs * 2 ^ (min i j - LP .f64).toNat = (V .f64 x - V .f64 y).natAbs := by
    rw [← e1, ← e2, ← Int.sub_mul, Int.natAbs_mul, Int.natAbs_natCast]; rfl
  refine ⟨_, rfl, fun q h => ?_⟩
  rw [(write_rg .f64 _ _ _).2]
  exact Nat.le_trans (Nat.min_le_left ..) ((nr_mono FloatKind.f64.format _ _ hb1 q).2 (by rw [← e3] at h; exact h))
/-- 1, 3/4, 1/2, 1/4, 0. -/
def q4 (j : Nat) : Nat := if j = 0 then 4607182418800017408 else if j = 1 then 4604930618986332160 else if j = 2 then 4602678819172646912 else if j = 3 then 4598175219545276416 else 0
@[irreducible] def c1020 : Nat := 1020
theorem c1020_eq : c1020 = 1020 := by unfold c1020; rfl
theorem mg_q : ∃ Q, 0 < Q ∧ mg FloatKind.f64.format 4598175219545276416 = Q ∧ mg FloatKind.f64.format 4602678819172646912 = 2 * Q ∧ mg FloatKind.f64.format 4604930618986332160 = 3 * Q ∧ mg FloatKind.f64.format 4607182418800017408 = 4 * Q := by
  refine ⟨4503599627370496 * 2 ^ c1020, Nat.mul_pos (by decide) (Nat.two_pow_pos _), ?_, ?_, ?_, ?_⟩
  · unfold mg; rw [D_bin, if_neg (by decide), show 4598175219545276416 / 4503599627370496 - 1 = c1020 by rw [c1020_eq], show 4598175219545276416 % 4503599627370496 = 0 by decide]
  · unfold mg; rw [D_bin, if_neg (by decide), show 4602678819172646912 / 4503599627370496 - 1 = c1020 + 1 by rw [c1020_eq], show 4602678819172646912 % 4503599627370496 = 0 by decide, Nat.pow_succ]
    omega
  · unfold mg; rw [D_bin, if_neg (by decide), show 4604930618986332160 / 4503599627370496 - 1 = c1020 + 1 by rw [c1020_eq], show 4604930618986332160 % 4503599627370496 = 2251799813685248 by decide, Nat.pow_succ]
    omega
  · unfold mg; rw [D_bin, if_neg (by decide), show 4607182418800017408 / 4503599627370496 - 1 = c1020 + 1 + 1 by rw [c1020_eq], show 4607182418800017408 % 4503599627370496 = 0 by decide, Nat.pow_succ, Nat.pow_succ]
    omega
theorem mg_mono (f : Format) {r s : Nat} (h : r ≤ s) : mg f r ≤ mg f s := by
  rcases Nat.lt_or_ge r s with h' | h'
  · exact Nat.le_of_lt (mg_lt f h')
  · have : r = s := by omega
    rw [this]; exact Nat.le_refl _
@[irreducible] def q25 (x : Option Nat) : Bool := ford .f64 x (some 4598175219545276416) == some Ordering.gt || ford .f64 x (some 4598175219545276416) == some Ordering.eq
@[irreducible] def subQ (x : Option Nat) : Option Nat := fop .sub .f64 x (some 4598175219545276416)
@[irreducible] def BQ (j : Nat) (x : Option Nat) : Prop := ∀ b, x = some b → rg .f64 b ≤ q4 j
theorem q25_some {b : Nat} (h : rg .f64 b ≤ FloatKind.f64.format.infRung) : q25 (some b) = decide ((4598175219545276416 : Int) ≤ key .f64 b) := by
  have hk : key .f64 4598175219545276416 = 4598175219545276416 := by decide
  unfold q25
  rw [ford_cmp h (by decide), o_gt, o_eq, hk, Bool.eq_iff_iff]
  simp; omega
theorem q4_le (j : Nat) : q4 j ≤ 4607182418800017408 := by
  unfold q4
  repeat' split
  all_goals decide
theorem q25_none : q25 none = false := by unfold q25; rw [ford_none_l]; rfl
theorem q25_of {b : Nat} {j : Nat} (hB : rg .f64 b ≤ q4 j) (h : q25 (some b) = true) : sg .f64 b = false ∧ 4598175219545276416 ≤ rg .f64 b := by
  have h4 := q4_le j
  rw [q25_some (by rw [D_inf]; omega), decide_eq_true_eq] at h
  unfold key at h
  split at h
  · omega
  · rename_i hs
    exact ⟨by simpa using hs, by omega⟩
theorem BQ_end {x : Option Nat} (h : BQ 4 x) : q25 x = false := by
  cases x with
  | none => exact q25_none
  | some b =>
    have hB : rg .f64 b ≤ q4 4 := by unfold BQ at h; exact h b rfl
    rcases e : q25 (some b)
    · rfl
    · have := (q25_of hB e).2
      have e0 : q4 4 = 0 := rfl
      omega
theorem sz_mg (b : Nat) : sz .f64 b = mg FloatKind.f64.format (rg .f64 b) := rfl
theorem BQ_next {x : Option Nat} {j : Nat} (hj : j < 4) (h : BQ j x) (e : q25 x = true) : BQ (j + 1) (subQ x) := by
  cases x with
  | none => rw [q25_none] at e; cases e
  | some b =>
    have hB : rg .f64 b ≤ q4 j := by unfold BQ at h; exact h b rfl
    obtain ⟨hs, hge⟩ := q25_of hB e
    have h4 := q4_le j
    obtain ⟨r, hr, hm⟩ := sub_mono (x := b) (y := 4598175219545276416) (by unfold fin; rw [D_inf]; omega) (by unfold fin; decide)
    unfold BQ subQ
    intro b' hb'
    rw [fop_some, hr] at hb'
    obtain rfl : r = b' := by injection hb'
    refine hm _ ?_
    obtain ⟨Q, hQ, e1, e2, e3, e4⟩ := mg_q
    have hV : V .f64 b = (sz .f64 b : Int) := by unfold V; rw [hs]; rfl
    have hV2 : V .f64 4598175219545276416 = (Q : Int) := by
      have hs2 : sg .f64 4598175219545276416 = false := by decide
      have hr2 : rg .f64 4598175219545276416 = 4598175219545276416 := by decide
      unfold V; rw [hs2, sz_mg, hr2, e1]; rfl
    have l1 := mg_mono FloatKind.f64.format hge
    have l2 := mg_mono FloatKind.f64.format hB
    rw [hV, hV2, sz_mg]
    rw [e1] at l1
    generalize mg FloatKind.f64.format (rg .f64 b) = M at *
    obtain rfl | rfl | rfl | rfl : j = 0 ∨ j = 1 ∨ j = 2 ∨ j = 3 := by omega
    · rw [show q4 0 = 4607182418800017408 from rfl, e4] at l2
      rw [show q4 (0 + 1) = 4604930618986332160 from rfl, e3]
      omega
    · rw [show q4 1 = 4604930618986332160 from rfl, e3] at l2
      rw [show q4 (1 + 1) = 4602678819172646912 from rfl, e2]
      omega
    · rw [show q4 2 = 4602678819172646912 from rfl, e2] at l2
      rw [show q4 (2 + 1) = 4598175219545276416 from rfl, e1]
      omega
    · rw [show q4 3 = 4598175219545276416 from rfl, e1] at l2
      rw [show q4 (3 + 1) = 0 from rfl, mg_zero]
      omega
/-- Quarters taken off. -/
def qR : Nat → Nat → Option Nat → Nat × Option Nat
  | 0, q, x => (q, x)
  | f + 1, q, x => if q25 x then qR f (q + 1) (subQ x) else (q, x)
theorem qR_go {f q : Nat} {x : Option Nat} (h : q25 x = true) : qR (f + 1) q x = qR f (q + 1) (subQ x) := by rw [qR, if_pos h]
theorem qR_stop {f q : Nat} {x : Option Nat} (h : q25 x = false) : qR f q x = (q, x) := by
  cases f with
  | zero => rfl
  | succ f => rw [qR, if_neg (by rw [h]; decide)]
theorem fracC_le1 {b : Nat} (hf : fin .f64 b) (h : rg .f64 b ≤ RD 52) : BQ 0 (fracC b) := by
  have hA := fracA_le hf h
  have i0 : inP 0 := inP_of (by omega) (by omega)
  unfold BQ
  intro r hr
  have e0 : q4 0 = RD 0 := by decide
  rw [e0]
  unfold fracC at hr
  rcases hn : fracN b
  · rw [hn, if_neg (by decide)] at hr
    rw [hr, le2_some] at hA
    exact hA
  · rw [hn, if_pos rfl] at hr
    unfold fracN at hn
    cases hx : fracA b with
    | none => rw [hx, fop_none_l] at hr; cases hr
    | some a =>
      rw [hx] at hr hA hn
      have ga := fi_some.1 (fi_le2 i0 hA)
      have gk : key .f64 a < 0 := by
        rw [ford_cmp (Nat.le_of_lt ga) (rg0 _), key0, o_lt, decide_eq_true_eq] at hn
        exact hn
      have hs : sg .f64 a = true := by
        unfold key at gk
        split at gk
        · assumption
        · omega
      obtain ⟨r', hr', hb, _⟩ := add_fin (x := a) (y := 4607182418800017408) ga (by unfold fin; decide)
      rw [fop_some, hr'] at hr
      obtain rfl : r' = r := by injection hr
      refine hb 0 i0 ?_
      rw [le2_some, sz_le i0] at hA
      have hs1 : sg .f64 4607182418800017408 = false := by decide
      have h1 : rg .f64 4607182418800017408 ≤ RD 0 := by decide
      rw [sz_le i0] at h1
      unfold V
      rw [hs, hs1]
      generalize 2 ^ ((0 : Int) + 1074).toNat = T at *
      generalize sz .f64 a = s at *
      generalize sz .f64 4607182418800017408 = t at *
      simp
      omega
@[irreducible] def phQ (b : Nat) : Nat := (qR 6 0 (fracC b)).1
@[irreducible] def phF (b : Nat) : Option Nat := (qR 6 0 (fracC b)).2
@[irreducible] def phC (b : Nat) : Option Nat := siW (fop .sub .f64 (some 4598175219545276416) (phF b))
@[irreducible] def phS (b : Nat) : Option Nat := siW (phF b)
/-- 0 less a number. -/
@[irreducible] def less0 (x : Option Nat) : Option Nat := fop .sub .f64 (some 0) x
theorem less0_le {x : Option Nat} (h : le2 x 127) : le2 (less0 x) 127 := by
  have i1 : inP 127 := inP_of (by omega) (by omega)
  unfold less0
  cases x with
  | none => rw [fop_none_r]; exact le2_none _
  | some b =>
    obtain ⟨r, hr, hb, _⟩ := sub_add (x := 0) (y := b) (by unfold fin; decide) (fi_some.1 (fi_le2 i1 h))
    rw [fop_some, hr, le2_some]
    rw [le2_some, sz_le i1] at h
    refine hb _ i1 ?_
    have h0 : V .f64 0 = 0 := by
      have hs : sg .f64 0 = false := by decide
      have hr0 : rg .f64 0 = 0 := by decide
      unfold V; rw [hs, sz_mg, hr0, mg_zero]; rfl
    have hv := V_le b
    rw [h0]
    omega
/-- The parts of a phasor in 64 bits. -/
@[irreducible] def phX (b : Nat) : Option Nat := if phQ b = 1 then less0 (phS b) else if phQ b = 2 then less0 (phC b) else if phQ b = 3 then phS b else phC b
@[irreducible] def phY (b : Nat) : Option Nat := if phQ b = 1 then phC b else if phQ b = 2 then less0 (phS b) else if phQ b = 3 then less0 (phC b) else phS b
theorem phC_le (b : Nat) : le2 (phC b) 127 := by unfold phC; exact siW_le _
theorem phS_le (b : Nat) : le2 (phS b) 127 := by unfold phS; exact siW_le _
theorem phX_fits (b : Nat) : fits .f64 .f32 (phX b) := by
  unfold phX
  repeat' split
  all_goals first | exact fits_down (less0_le (phS_le b)) | exact fits_down (less0_le (phC_le b)) | exact fits_down (phS_le b) | exact fits_down (phC_le b)
theorem phY_fits (b : Nat) : fits .f64 .f32 (phY b) := by
  unfold phY
  repeat' split
  all_goals first | exact fits_down (less0_le (phS_le b)) | exact fits_down (less0_le (phC_le b)) | exact fits_down (phS_le b) | exact fits_down (phC_le b)
end Go.Proofs.Ytakaocddhaepmaa
