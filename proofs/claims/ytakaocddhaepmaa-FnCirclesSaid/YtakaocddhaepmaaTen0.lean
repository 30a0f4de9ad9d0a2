/-
  The natural logarithm of a number above zero is finite: what TenthsOf takes of it.
-/
import Derived.Test.YtakaocddhaepmaaLogN
namespace Go.Proofs.Ytakaocddhaepmaa
open Go.RowKit

/-- A number, no NaN, of size at most 2 ^ p. -/
@[irreducible] def sl (x : Option Nat) (p : Int) : Prop := ∃ b, x = some b ∧ rg .f64 b ≤ RD p
theorem sl_mono {x : Option Nat} {p q : Int} (h : sl x p) (hq : p ≤ q) : sl x q := by
  unfold sl at *
  obtain ⟨b, h1, h2⟩ := h
  exact ⟨b, h1, Nat.le_trans h2 (RD_mono hq)⟩
theorem sl_of {x : Option Nat} {p : Int} (h : le2 x p) (hs : x.isSome = true) : sl x p := by
  unfold sl
  cases x with
  | none => cases hs
  | some b => exact ⟨b, rfl, le2_some.1 h⟩
theorem sl_le {x : Option Nat} {p : Int} (h : sl x p) : le2 x p := by
  unfold sl at h
  obtain ⟨b, rfl, h2⟩ := h
  exact le2_some.2 h2
theorem sl_mul {x y : Option Nat} {p q : Int} (hx : sl x p) (hy : sl y q) (hp : inP p) (hq : inP q) (hpq : inP (p + q)) : sl (fop .mul .f64 x y) (p + q) := by
  have gx := fi_le2 hp (sl_le hx)
  have gy := fi_le2 hq (sl_le hy)
  refine sl_of (le2_mul (sl_le hx) (sl_le hy) hp hq hpq) ?_
  unfold sl at hx hy
  obtain ⟨a, rfl, h2⟩ := hx
  obtain ⟨b, rfl, k2⟩ := hy
  obtain ⟨r, hr, _⟩ := mul_fin (fi_some.1 gx) (fi_some.1 gy) (ok_of hp) (ok_of hq) (ok_of hpq) (by rw [RD_eq]; exact h2) (by rw [RD_eq]; exact k2)
  rw [fop_some, hr]; rfl
theorem sl_quo {x y : Option Nat} {p q Q : Int} (hx : sl x p) (hy : sl y Q) (gy : ge2 y q) (hp : inP p) (hq : inP q) (hQ : inP Q) (hpq : inP (p - q)) : sl (fop .quo .f64 x y) (p - q) := by
  have gx := fi_le2 hp (sl_le hx)
  have fy := fi_le2 hQ (sl_le hy)
  refine sl_of (le2_quo (sl_le hx) gy fy hp hq hpq) ?_
  unfold sl at hx hy
  obtain ⟨a, rfl, h2⟩ := hx
  obtain ⟨b, rfl, k2⟩ := hy
  obtain ⟨r, hr, _⟩ := div_fin (fi_some.1 gx) (fi_some.1 fy) (ok_of hp) (ok_of hq) (ok_of hpq) (by rw [RD_eq]; exact h2) (by rw [RD_eq]; exact ge2_some.1 gy)
  rw [fop_some, hr]; rfl
theorem sl_add {x y : Option Nat} {p : Int} (hx : sl x p) (hy : sl y p) (hp : inP p) (hp1 : inP (p + 1)) : sl (fop .add .f64 x y) (p + 1) := by
  have gx := fi_le2 hp (sl_le hx)
  have gy := fi_le2 hp (sl_le hy)
  refine sl_of (le2_add (sl_le hx) (sl_le hy) hp hp1) ?_
  unfold sl at hx hy
  obtain ⟨a, rfl, _⟩ := hx
  obtain ⟨b, rfl, _⟩ := hy
  obtain ⟨r, hr, _⟩ := add_fin (fi_some.1 gx) (fi_some.1 gy)
  rw [fop_some, hr]; rfl
theorem sl_sub {x y : Option Nat} {p : Int} (hx : sl x p) (hy : sl y p) (hp : inP p) (hp1 : inP (p + 1)) : sl (fop .sub .f64 x y) (p + 1) := by
  have gx := fi_le2 hp (sl_le hx)
  have gy := fi_le2 hp (sl_le hy)
  refine sl_of (le2_sub (sl_le hx) (sl_le hy) hp hp1) ?_
  unfold sl at hx hy
  obtain ⟨a, rfl, _⟩ := hx
  obtain ⟨b, rfl, _⟩ := hy
  obtain ⟨r, hr, _⟩ := sub_add (fi_some.1 gx) (fi_some.1 gy)
  rw [fop_some, hr]; rfl
theorem sl_c {b : Nat} {p : Int} (h : rg .f64 b ≤ RD p) : sl (some b) p := by unfold sl; exact ⟨b, rfl, h⟩
/-- x - 1 for x from 0 to 2. -/
theorem sub_one {x : Option Nat} {p : Int} (hx : ps x p) (h2 : le2 x 1) : sl (fop .sub .f64 x (some 4607182418800017408)) 0 := by
  have gx := fi_le2 (inP_of' (by omega) (by omega)) h2
  unfold ps at hx
  obtain ⟨a, rfl, hs, _⟩ := hx
  obtain ⟨r, hr, h, _⟩ := sub_add (x := a) (y := 4607182418800017408) (fi_some.1 gx) (by unfold fin; decide)
  rw [fop_some, hr]
  refine sl_c ?_
  have ip : inP 0 := inP_of' (by omega) (by omega)
  have i1 : inP 1 := inP_of' (by omega) (by omega)
  refine h 0 ip ?_
  rw [le2_some, sz_le i1] at h2
  have e0 : 2 ^ ((0 : Int) + 1074).toNat = U := by
    unfold U; exact congrArg (fun n => 2 ^ n) (by rw [c1074_eq]; decide)
  have e1 : 2 ^ ((1 : Int) + 1074).toNat = 2 * U := by
    unfold U
    rw [show (2 : Nat) * 2 ^ c1074 = 2 ^ 1 * 2 ^ c1074 by rfl, ← pow_split]
    exact congrArg (fun n => 2 ^ n) (by rw [c1074_eq]; decide)
  rw [e1] at h2
  rw [e0, one_V]
  unfold V
  rw [hs]
  generalize sz .f64 a = s at *
  generalize U = u at *
  simp
  omega
theorem qN_sl {u : Option Nat} (hu : sl u 0) : ∀ j, j ≤ 13 → sl (qN u j) j
  | 0, _ => by rw [qN]; exact sl_c (by decide)
  | j + 1, hj => by
    have hc := log_consts ⟨j, by omega⟩
    have ih := qN_sl hu j (by omega)
    have h1 := sl_mul hu ih (inP_of' (by omega) (by omega)) (inP_of' (by omega) (by omega)) (inP_of' (by omega) (by omega))
    have hk : sl (some (KL j)) 1023 := sl_c (by
      have := hc.2.2.2.2
      have e : RD 1023 = 9214364837600034816 := by decide
      have hm : ∀ j : Fin 13, rg .f64 (KL j.val) ≤ RD 1023 := by decide
      exact hm ⟨j, by omega⟩)
    have h2 : sl (fop .quo .f64 (some 4607182418800017408) (some (KL j))) (0 - 0) :=
      sl_quo (sl_c (by decide)) hk (ge2_some.2 hc.2.2.2.1) (inP_of' (by omega) (by omega)) (inP_of' (by omega) (by omega)) (inP_of' (by omega) (by omega)) (inP_of' (by omega) (by omega))
    rw [qN]
    exact sl_mono (sl_add (p := 0 + j) (sl_mono h2 (by omega)) h1 (inP_of' (by omega) (by omega)) (inP_of' (by omega) (by omega))) (by omega)
theorem lgF_sl {e : Int} {x : Option Nat} (he : e.natAbs ≤ 256) (h : ps x (-150)) (hx : le2 x 1) : sl (lgF e x) 15 := by
  have hxs : sl x 1 := sl_of hx (by unfold ps at h; obtain ⟨b, rfl, _⟩ := h; rfl)
  have h1 : sl (lgS x) 0 := by
    unfold lgS
    exact sl_quo (p := 0) (q := 0) (Q := 2) (sub_one h hx) (sl_add (p := 1) hxs (sl_c (by decide)) (inP_of' (by omega) (by omega)) (inP_of' (by omega) (by omega))) (ge_plus h hx (inP_of' (by omega) (by omega)))
      (inP_of' (by omega) (by omega)) (inP_of' (by omega) (by omega)) (inP_of' (by omega) (by omega)) (inP_of' (by omega) (by omega))
  have h2 : sl (lgU x) 0 := by
    unfold lgU
    exact sl_mul h1 h1 (inP_of' (by omega) (by omega)) (inP_of' (by omega) (by omega)) (inP_of' (by omega) (by omega))
  have h3 := qN_sl h2 13 (by omega)
  have h4 : sl (fop .mul .f64 (some 4611686018427387904) (fop .mul .f64 (lgS x) (qN (lgU x) 13))) (1 + (0 + 13)) :=
    sl_mul (sl_c (by decide)) (sl_mul h1 h3 (inP_of' (by omega) (by omega)) (inP_of' (by omega) (by omega)) (inP_of' (by omega) (by omega))) (inP_of' (by omega) (by omega)) (inP_of' (by omega) (by omega)) (inP_of' (by omega) (by omega))
  have h6 : sl (fop .mul .f64 (some (floatOfInt .f64 e)) (some 4604418534313441775)) (8 + 0) :=
    sl_mul (sl_of (int_le he) rfl) (sl_c (by decide)) (inP_of' (by omega) (by omega)) (inP_of' (by omega) (by omega)) (inP_of' (by omega) (by omega))
  unfold lgF
  exact sl_mono (sl_add (p := 14) (sl_mono h4 (by omega)) (sl_mono h6 (by omega)) (inP_of' (by omega) (by omega)) (inP_of' (by omega) (by omega))) (by omega)
theorem lgN_sl {x : Option Nat} (h : ps x (-150)) (hx : le2 x 128) : sl (lgN x) 15 := by
  obtain ⟨a1, a2, a3, a4⟩ := upR_facts 128 0 x (by omega) h hx
  obtain ⟨b1, b2, b3, b4⟩ := dnR_facts 150 (upR 128 0 x).1 (upR 128 0 x).2 (by omega) a1 a2
  unfold lgN
  exact lgF_sl (by omega) b1 b2
/-- What is at most 2 ^ 30 has a whole part that int64 takes. -/
theorem sl_int {t : Nat} (h : rg .f64 t ≤ RD 30) : fin .f64 t ∧ ∃ v, floatToIntVal .f64 (flo t) .i64 = some v := by
  have ip : inP 30 := inP_of' (by omega) (by omega)
  have hf : fin .f64 t := by have := RD_lt ip; unfold fin; omega
  rw [sz_le ip] at h
  have e : 2 ^ ((30 : Int) + 1074).toNat = 1073741824 * U := by
    unfold U
    have : (1073741824 : Nat) = 2 ^ 30 := by decide
    rw [this, ← pow_split]
    exact congrArg (fun n => 2 ^ n) (by rw [c1074_eq]; decide)
  rw [e] at h
  have hq : sz .f64 t / U ≤ 1073741824 := Nat.div_le_of_le_mul (by rw [Nat.mul_comm]; exact h)
  refine ⟨hf, ?_⟩
  obtain ⟨h1, h2, h3⟩ := flo_fin hf (by omega)
  have h4 : sz .f64 (flo t) / U ≤ 9223372036854775807 := by
    rw [h3, Nat.mul_div_cancel _ U_pos]
    cases (sg .f64 t && sz .f64 t % U != 0) <;> simp <;> omega
  exact ⟨_, toIntVal_fin h1 h4⟩
end Go.Proofs.Ytakaocddhaepmaa
