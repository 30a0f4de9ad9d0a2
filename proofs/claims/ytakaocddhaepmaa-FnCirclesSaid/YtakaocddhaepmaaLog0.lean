/-
  The natural logarithm, as canonical forms: its two runs of halving and doubling end, and its result is small.
-/
import Derived.Test.YtakaocddhaepmaaFrac
namespace Go.Proofs.Ytakaocddhaepmaa
open Go.RowKit

theorem inP_of' {p : Int} (h1 : -1022 ≤ p) (h2 : p ≤ 1023) : inP p := ⟨h1, h2⟩
/-! ### Numbers above zero -/

/-- A number, not under zero, at least 2 ^ p. -/
@[irreducible] def ps (x : Option Nat) (p : Int) : Prop := ∃ b, x = some b ∧ sg .f64 b = false ∧ RD p ≤ rg .f64 b
theorem RD_mono {p q : Int} (h : p ≤ q) : RD p ≤ RD q := by unfold RD; exact Nat.mul_le_mul_right _ (by omega)
theorem ps_mono {x : Option Nat} {p q : Int} (h : ps x p) (hq : q ≤ p) : ps x q := by
  unfold ps at *
  obtain ⟨b, h1, h2, h3⟩ := h
  exact ⟨b, h1, h2, Nat.le_trans (RD_mono hq) h3⟩
theorem ps_mul {x y : Option Nat} {p q P Q : Int} (hx : ps x p) (hy : ps y q) (fx : le2 x P) (fy : le2 y Q) (hP : inP P) (hQ : inP Q) (hp : inP p) (hq : inP q) (hpq : inP (p + q)) : ps (fop .mul .f64 x y) (p + q) := by
  have gx := fi_le2 hP fx
  have gy := fi_le2 hQ fy
  unfold ps at *
  obtain ⟨a, rfl, h2, h3⟩ := hx
  obtain ⟨b, rfl, k2, k3⟩ := hy
  obtain ⟨r, hr, h, hs⟩ := mul_fin_ge (fi_some.1 gx) (fi_some.1 gy) (ok_of hp) (ok_of hq) (ok_of hpq) (by rw [RD_eq]; exact Nat.le_of_lt (RD_lt hpq)) (by rw [RD_eq]; exact h3) (by rw [RD_eq]; exact k3)
  rw [RD_eq] at h
  exact ⟨r, by rw [fop_some, hr], by rw [hs, h2, k2]; rfl, h⟩
theorem RD_pos {p : Int} (h : inP p) : 0 < RD p := by
  unfold RD inP at *
  exact Nat.mul_pos (by omega) (by decide)
theorem ps_quo {x y : Option Nat} {p q Q P : Int} (hx : ps x p) (hy : ps y q) (fx : le2 x P) (fy : le2 y Q) (hP : inP P) (hQ : inP Q) (hp : inP p) (hq : inP q) (hpq : inP (p - Q)) : ps (fop .quo .f64 x y) (p - Q) := by
  have gx := fi_le2 hP fx
  have gy := fi_le2 hQ fy
  unfold ps at *
  obtain ⟨a, rfl, h2, h3⟩ := hx
  obtain ⟨b, rfl, k2, k3⟩ := hy
  obtain ⟨r, hr, h, hs⟩ := div_fin_ge (fi_some.1 gx) (fi_some.1 gy) (ok_of hp) (ok_of hQ) (ok_of hpq) (by rw [RD_eq]; exact Nat.le_of_lt (RD_lt hpq)) (Nat.lt_of_lt_of_le (RD_pos hq) k3) (by rw [RD_eq]; exact h3) (by rw [RD_eq]; exact le2_some.1 fy)
  rw [RD_eq] at h
  exact ⟨r, by rw [fop_some, hr], by rw [hs, h2, k2]; rfl, h⟩
theorem one_V : V .f64 4607182418800017408 = U := by
  have ip : inP 0 := inP_of' (by omega) (by omega)
  have h1 := (sz_le (b := 4607182418800017408) ip).1 (by decide)
  have h2 := (sz_ge (b := 4607182418800017408) ip).1 (by decide)
  have e0 : 2 ^ ((0 : Int) + 1074).toNat = U := by
    unfold U; exact congrArg (fun n => 2 ^ n) (by rw [c1074_eq]; decide)
  rw [e0] at h1 h2
  have hs : sg .f64 4607182418800017408 = false := by decide
  unfold V
  rw [hs]
  have : sz .f64 4607182418800017408 = U := Nat.le_antisymm h1 h2
  rw [this]; rfl
/-- 1 + x is at least 1. -/
theorem ge_plus {x : Option Nat} {p P : Int} (hx : ps x p) (fx : le2 x P) (hP : inP P) : ge2 (fop .add .f64 x (some 4607182418800017408)) 0 := by
  have gx := fi_le2 hP fx
  unfold ps at hx
  obtain ⟨a, rfl, h2, h3⟩ := hx
  obtain ⟨r, hr, _, h⟩ := add_fin (x := a) (y := 4607182418800017408) (fi_some.1 gx) (by unfold fin; decide)
  rw [fop_some, hr, ge2_some]
  have ip : inP 0 := inP_of' (by omega) (by omega)
  refine h 0 ip ?_
  have e0 : 2 ^ ((0 : Int) + 1074).toNat = U := by
    unfold U; exact congrArg (fun n => 2 ^ n) (by rw [c1074_eq]; decide)
  rw [e0, one_V]
  unfold V
  rw [h2]
  generalize U = u
  generalize sz .f64 a = s
  simp
  omega
theorem int_le {n : Int} (h : n.natAbs ≤ 256) : le2 (some (floatOfInt .f64 n)) 8 := by
  obtain ⟨_, _, h3⟩ := int_fin n (by omega)
  have ip : inP 8 := inP_of' (by omega) (by omega)
  rw [le2_some, sz_le ip, h3]
  have e : 2 ^ ((8 : Int) + 1074).toNat = 256 * U := by
    unfold U
    have : (256 : Nat) = 2 ^ 8 := by decide
    rw [this, ← pow_split]
    exact congrArg (fun n => 2 ^ n) (by rw [c1074_eq]; decide)
  rw [e]
  exact Nat.mul_le_mul_right _ h

/-! ### Halving and doubling -/
@[irreducible] def ge15 (x : Option Nat) : Bool := ford .f64 x (some 4609434218613702656) == some Ordering.gt || ford .f64 x (some 4609434218613702656) == some Ordering.eq
@[irreducible] def lt75 (x : Option Nat) : Bool := ford .f64 x (some 4604930618986332160) == some Ordering.lt
@[irreducible] def halfC (x : Option Nat) : Option Nat := fop .quo .f64 x (some 4611686018427387904)
@[irreducible] def twiceC (x : Option Nat) : Option Nat := fop .mul .f64 x (some 4611686018427387904)
def upR : Nat → Int → Option Nat → Int × Option Nat
  | 0, e, x => (e, x)
  | f + 1, e, x => if ge15 x then upR f (e + 1) (halfC x) else (e, x)
def dnR : Nat → Int → Option Nat → Int × Option Nat
  | 0, e, x => (e, x)
  | f + 1, e, x => if lt75 x then dnR f (e - 1) (twiceC x) else (e, x)
theorem ge15_some {b : Nat} (h : rg .f64 b ≤ FloatKind.f64.format.infRung) : ge15 (some b) = decide ((4609434218613702656 : Int) ≤ key .f64 b) := by
  have hk : key .f64 4609434218613702656 = 4609434218613702656 := by decide
  unfold ge15
  rw [ford_cmp h (by decide), o_gt, o_eq, hk, Bool.eq_iff_iff]
  simp; omega
theorem lt75_some {b : Nat} (h : rg .f64 b ≤ FloatKind.f64.format.infRung) : lt75 (some b) = decide (key .f64 b < (4604930618986332160 : Int)) := by
  have hk : key .f64 4604930618986332160 = 4604930618986332160 := by decide
  unfold lt75
  rw [ford_cmp h (by decide), o_lt, hk]
theorem RDs : RD 0 = 4607182418800017408 ∧ RD 1 = 4611686018427387904 ∧ RD (-1) = 4602678819172646912 := by decide
/-- What is at most 1 is not at least 1.5. -/
theorem ge15_end {x : Option Nat} (h : le2 x 0) : ge15 x = false := by
  cases x with
  | none => unfold ge15; rw [ford_none_l]; rfl
  | some b =>
    rw [le2_some, RDs.1] at h
    rw [ge15_some (by rw [D_inf]; omega)]
    unfold key
    split <;> simp <;> omega
theorem lt75_end {x : Option Nat} {P : Int} (h : ps x 0) (hx : le2 x P) (hP : inP P) : lt75 x = false := by
  have gx := fi_le2 hP hx
  unfold ps at h
  obtain ⟨b, rfl, h2, h3⟩ := h
  have hf := fi_some.1 gx
  unfold fin at hf
  rw [RDs.1] at h3
  rw [lt75_some (Nat.le_of_lt hf)]
  unfold key
  rw [h2]
  simp; omega
theorem half_le {x : Option Nat} {p : Int} (h : le2 x p) (hp : inP p) (hp1 : inP (p - 1)) : le2 (halfC x) (p - 1) := by
  unfold halfC
  exact le2_quo h (ge2_some.2 (by decide)) (fi_some.2 (by unfold fin; decide)) hp (inP_of' (by omega) (by omega)) hp1
theorem c2_le : le2 (some 4611686018427387904) 1 := by rw [le2_some]; decide
theorem c2_ps : ps (some 4611686018427387904) 1 := by unfold ps; exact ⟨_, rfl, by decide, by decide⟩
theorem half_ps {x : Option Nat} {P : Int} (h : ps x (-150)) (hx : le2 x P) (hP : inP P) (hg : ge15 x = true) : ps (halfC x) (-150) := by
  have gx := fi_le2 hP hx
  have h0 : ps x 0 := by
    unfold ps at h ⊢
    obtain ⟨b, rfl, h2, _⟩ := h
    have hf := fi_some.1 gx
    unfold fin at hf
    refine ⟨b, rfl, h2, ?_⟩
    rw [ge15_some (Nat.le_of_lt hf)] at hg
    unfold key at hg
    rw [h2] at hg
    rw [RDs.1]
    simp at hg
    omega
  unfold halfC
  exact ps_mono (ps_quo h0 c2_ps hx c2_le hP (inP_of' (by omega) (by omega)) (inP_of' (by omega) (by omega)) (inP_of' (by omega) (by omega)) (inP_of' (by omega) (by omega))) (by omega)
theorem ge15_le {x : Option Nat} {P : Int} (h : ps x (-150)) (hx : le2 x P) (hP : inP P) (hg : ge15 x = false) : le2 x 1 := by
  have gx := fi_le2 hP hx
  unfold ps at h
  obtain ⟨b, rfl, h2, _⟩ := h
  have hf := fi_some.1 gx
  unfold fin at hf
  rw [ge15_some (Nat.le_of_lt hf)] at hg
  unfold key at hg
  rw [h2] at hg
  rw [le2_some, RDs.2.1]
  simp at hg
  omega
theorem twice_le {x : Option Nat} {P : Int} (h : ps x P) (hx : le2 x 1) (hg : lt75 x = true) : le2 (twiceC x) 1 := by
  have h0 : le2 x 0 := by
    have gx := fi_le2 (inP_of' (by omega) (by omega)) hx
    unfold ps at h
    obtain ⟨b, rfl, h2, _⟩ := h
    have hf := fi_some.1 gx
    unfold fin at hf
    rw [lt75_some (Nat.le_of_lt hf)] at hg
    unfold key at hg
    rw [h2] at hg
    rw [le2_some, RDs.1]
    simp at hg
    omega
  unfold twiceC
  exact le2_mul (p := 0) (q := 1) h0 c2_le (inP_of' (by omega) (by omega)) (inP_of' (by omega) (by omega)) (inP_of' (by omega) (by omega))
theorem twice_ps {x : Option Nat} {P : Int} (h : ps x P) (hP : inP P) (hP1 : inP (P + 1)) (hx : le2 x 1) : ps (twiceC x) (P + 1) := by
  unfold twiceC
  exact ps_mul h c2_ps hx c2_le (inP_of' (by omega) (by omega)) (inP_of' (by omega) (by omega)) hP (inP_of' (by omega) (by omega)) hP1
theorem upR_facts : ∀ (f : Nat) (e : Int) (x : Option Nat), f ≤ 128 → ps x (-150) → le2 x f →
    ps (upR f e x).2 (-150) ∧ le2 (upR f e x).2 1 ∧ e ≤ (upR f e x).1 ∧ (upR f e x).1 ≤ e + f
  | 0, e, x, _, h1, h2 => by
    unfold upR
    exact ⟨h1, le2_mono h2 (by omega), by omega, by omega⟩
  | f + 1, e, x, hf, h1, h2 => by
    unfold upR
    rcases hg : ge15 x
    · have := ge15_le h1 h2 (inP_of' (by omega) (by omega)) hg
      simp only [Bool.false_eq_true, ite_false]
      exact ⟨h1, this, by omega, by omega⟩
    · have k1 := half_ps h1 h2 (inP_of' (by omega) (by omega)) hg
      have k2 := half_le h2 (inP_of' (by omega) (by omega)) (inP_of' (by omega) (by omega))
      rw [show ((f + 1 : Nat) : Int) - 1 = f by omega] at k2
      obtain ⟨r1, r2, r3, r4⟩ := upR_facts f (e + 1) _ (by omega) k1 k2
      simp only [ite_true]
      exact ⟨r1, r2, by omega, by omega⟩
theorem dnR_facts : ∀ (f : Nat) (e : Int) (x : Option Nat), f ≤ 150 → ps x (-f) → le2 x 1 →
    ps (dnR f e x).2 (-150) ∧ le2 (dnR f e x).2 1 ∧ e - f ≤ (dnR f e x).1 ∧ (dnR f e x).1 ≤ e
  | 0, e, x, _, h1, h2 => by
    unfold dnR
    exact ⟨ps_mono h1 (by omega), h2, by omega, by omega⟩
  | f + 1, e, x, hf, h1, h2 => by
    unfold dnR
    rcases hg : lt75 x
    · simp only [Bool.false_eq_true, ite_false]
      exact ⟨ps_mono h1 (by omega), h2, by omega, by omega⟩
    · have k1 := twice_ps h1 (inP_of' (by omega) (by omega)) (inP_of' (by omega) (by omega)) h2
      have k2 := twice_le h1 h2 hg
      rw [show -((f + 1 : Nat) : Int) + 1 = -(f : Int) by omega] at k1
      obtain ⟨r1, r2, r3, r4⟩ := dnR_facts f (e - 1) _ (by omega) k1 k2
      simp only [ite_true]
      exact ⟨r1, r2, by omega, by omega⟩

/-! ### The series -/
def KL (j : Nat) : Nat := if j = 0 then 4627730092099895296 else if j = 1 then 4627167142146473984 else if j = 2 then 4626604192193052672 else if j = 3 then 4626041242239631360 else if j = 4 then 4625478292286210048 else if j = 5 then 4624633867356078080 else if j = 6 then 4623507967449235456 else if j = 7 then 4622382067542392832 else if j = 8 then 4621256167635550208 else if j = 9 then 4619567317775286272 else if j = 10 then 4617315517961601024 else if j = 11 then 4613937818241073152 else if j = 12 then 4607182418800017408 else 13830554455654793216
theorem log_consts : ∀ j : Fin 13, fop .sub .f64 (some (KL j.val)) (some 4611686018427387904) = some (KL (j.val + 1)) ∧
    (ford .f64 (some (KL j.val)) (some 4607182418800017408) == some Ordering.gt || ford .f64 (some (KL j.val)) (some 4607182418800017408) == some Ordering.eq) = true ∧
    floatOfInt .f64 (25 - 2 * (j.val : Int)) = KL j.val ∧ RD 0 ≤ rg .f64 (KL j.val) ∧ rg .f64 (KL j.val) < FloatKind.f64.format.infRung := by
  unfold fop ford
  decide
theorem log_last : (ford .f64 (some (KL 13)) (some 4607182418800017408) == some Ordering.gt || ford .f64 (some (KL 13)) (some 4607182418800017408) == some Ordering.eq) = false := by
  unfold ford
  decide
def qN (u : Option Nat) : Nat → Option Nat
  | 0 => some 0
  | j + 1 => fop .add .f64 (fop .quo .f64 (some 4607182418800017408) (some (KL j))) (fop .mul .f64 u (qN u j))
theorem one_le : le2 (some 4607182418800017408) 0 := by rw [le2_some]; decide
theorem qN_le {u : Option Nat} (hu : le2 u 4) : ∀ j, j ≤ 13 → le2 (qN u j) (5 * j)
  | 0, _ => by rw [qN, le2_some]; decide
  | j + 1, hj => by
    have hc := log_consts ⟨j, by omega⟩
    have ih := qN_le hu j (by omega)
    have h1 := le2_mul hu ih (inP_of' (by omega) (by omega)) (inP_of' (by omega) (by omega)) (inP_of' (by omega) (by omega))
    have h2 : le2 (fop .quo .f64 (some 4607182418800017408) (some (KL j))) (0 - 0) :=
      le2_quo one_le (ge2_some.2 hc.2.2.2.1) (fi_some.2 hc.2.2.2.2) (inP_of' (by omega) (by omega)) (inP_of' (by omega) (by omega)) (inP_of' (by omega) (by omega))
    rw [qN]
    exact le2_mono (le2_add (p := 4 + 5 * j) (le2_mono h2 (by omega)) h1 (inP_of' (by omega) (by omega)) (inP_of' (by omega) (by omega))) (by omega)
@[irreducible] def lgS (x : Option Nat) : Option Nat := fop .quo .f64 (fop .sub .f64 x (some 4607182418800017408)) (fop .add .f64 x (some 4607182418800017408))
@[irreducible] def lgU (x : Option Nat) : Option Nat := fop .mul .f64 (lgS x) (lgS x)
@[irreducible] def lgF (e : Int) (x : Option Nat) : Option Nat := fop .add .f64 (fop .mul .f64 (some 4611686018427387904) (fop .mul .f64 (lgS x) (qN (lgU x) 13))) (fop .mul .f64 (some (floatOfInt .f64 e)) (some 4604418534313441775))
theorem lgF_le {e : Int} {x : Option Nat} (he : e.natAbs ≤ 256) (h : ps x (-150)) (hx : le2 x 1) : le2 (lgF e x) 71 := by
  have h1 : le2 (lgS x) 2 := by
    unfold lgS
    exact le2_quo (p := 2) (le2_sub (p := 1) hx (le2_mono one_le (by omega)) (inP_of' (by omega) (by omega)) (inP_of' (by omega) (by omega))) (ge_plus h hx (inP_of' (by omega) (by omega)))
      (fi_le2 (p := 2) (inP_of' (by omega) (by omega)) (le2_add (p := 1) hx (le2_mono one_le (by omega)) (inP_of' (by omega) (by omega)) (inP_of' (by omega) (by omega)))) (inP_of' (by omega) (by omega)) (inP_of' (by omega) (by omega)) (inP_of' (by omega) (by omega))
  have h2 : le2 (lgU x) 4 := by
    unfold lgU
    exact le2_mul h1 h1 (inP_of' (by omega) (by omega)) (inP_of' (by omega) (by omega)) (inP_of' (by omega) (by omega))
  have h3 := qN_le h2 13 (by omega)
  have h4 := le2_mul c2_le (le2_mul h1 h3 (inP_of' (by omega) (by omega)) (inP_of' (by omega) (by omega)) (inP_of' (by omega) (by omega))) (inP_of' (by omega) (by omega)) (inP_of' (by omega) (by omega)) (inP_of' (by omega) (by omega))
  have h5 : le2 (some 4604418534313441775) 0 := by rw [le2_some]; decide
  have h6 := le2_mul (int_le he) h5 (inP_of' (by omega) (by omega)) (inP_of' (by omega) (by omega)) (inP_of' (by omega) (by omega))
  unfold lgF
  exact le2_mono (le2_add (p := 70) (le2_mono h4 (by omega)) (le2_mono h6 (by omega)) (inP_of' (by omega) (by omega)) (inP_of' (by omega) (by omega))) (by omega)
/-- The natural logarithm. -/
@[irreducible] def lgN (x : Option Nat) : Option Nat := lgF (dnR 150 (upR 128 0 x).1 (upR 128 0 x).2).1 (dnR 150 (upR 128 0 x).1 (upR 128 0 x).2).2
theorem lgN_le {x : Option Nat} (h : ps x (-150)) (hx : le2 x 128) : le2 (lgN x) 71 := by
  obtain ⟨a1, a2, a3, a4⟩ := upR_facts 128 0 x (by omega) h hx
  obtain ⟨b1, b2, b3, b4⟩ := dnR_facts 150 (upR 128 0 x).1 (upR 128 0 x).2 (by omega) a1 a2
  unfold lgN
  exact lgF_le (by omega) b1 b2
set_option maxRecDepth 20000 in
theorem e_up : ∀ n : Fin 128, fop .add .f64 (some (floatOfInt .f64 (n.val : Int))) (some 4607182418800017408) = some (floatOfInt .f64 ((n.val : Int) + 1)) := by
  unfold fop
  decide
set_option maxRecDepth 20000 in
theorem e_dn : ∀ n : Fin 300, fop .sub .f64 (some (floatOfInt .f64 ((n.val : Int) - 150))) (some 4607182418800017408) = some (floatOfInt .f64 ((n.val : Int) - 150 - 1)) := by
  unfold fop
  decide
end Go.Proofs.Ytakaocddhaepmaa
