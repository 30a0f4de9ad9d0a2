/-
  The angle of a point, as canonical forms: it is small.
-/
import Derived.Test.YtakaocddhaepmaaTen0
import Derived.Test.YtakaocddhaepmaaSqrt
namespace Go.Proofs.Ytakaocddhaepmaa
open Go.RowKit Ieee

/-- What is not under zero, or a NaN. -/
@[irreducible] def nng (x : Option Nat) : Prop := ∀ b, x = some b → sg .f64 b = false
/-- The root of what is not zero is not under zero. -/
theorem nng_sqrt {z : Option Nat} (h : ge2 z 0) (hf : fi z) : nng (fsqrt z) := by
  unfold nng
  intro r hr
  cases z with
  | none => rw [fsqrt_none] at hr; cases hr
  | some b =>
    rw [fsqrt_some] at hr
    obtain ⟨m, i, hrd, hi, hm⟩ := read_fin (fi_some.1 hf)
    have h0 := ge2_some.1 h
    have hm0 : m ≠ 0 := by
      intro e
      rw [e, Nat.zero_mul] at hm
      have hz : rg .f64 b = 0 := (mg_eq_iff FloatKind.f64.format (rg .f64 b) 0).1 (by rw [mg_zero]; exact hm.symm)
      rw [hz, RDs.1] at h0
      omega
    unfold Format.sqrt at hr
    rw [hrd] at hr
    simp only [Datum.root, if_neg hm0] at hr
    cases hs : sg .f64 b
    · rw [hs] at hr
      have hr2 := Option.some.inj (show some _ = some r from hr)
      rw [← hr2]
      exact (write_rg .f64 _ _ _).1
    · rw [hs] at hr; simp at hr
theorem le2_sqrt {z : Option Nat} {p : Int} (h : le2 z (2 * p)) (hp : inP p) (h2 : inP (2 * p)) : le2 (fsqrt z) p := by
  have gz := fi_le2 h2 h
  cases z with
  | none => rw [fsqrt_none]; exact le2_none _
  | some b =>
    rw [fsqrt_some]
    rcases sqrt_fin (fi_some.1 gz) hp h2 (le2_some.1 h) with e | ⟨r, hr, hl⟩
    · rw [e]; exact le2_none _
    · rw [hr, le2_some]; exact hl
/-- 1 + x is at least 1, for x not under zero. -/
theorem ge_one {x : Option Nat} {P : Int} (hx : nng x) (fx : le2 x P) (hP : inP P) : ge2 (fop .add .f64 (some 4607182418800017408) x) 0 := by
  have gx := fi_le2 hP fx
  cases x with
  | none => rw [fop_none_r]; unfold ge2; intro b h; cases h
  | some a =>
    unfold nng at hx
    have h2 := hx a rfl
    obtain ⟨r, hr, _, h⟩ := add_fin (x := 4607182418800017408) (y := a) (by unfold fin; decide) (fi_some.1 gx)
    rw [fop_some, hr, ge2_some]
    have ip : inP 0 := inP_of' (by omega) (by omega)
    refine h 0 ip ?_
    have e0 : 2 ^ ((0 : Int) + 1074).toNat = U := by
      unfold U; exact congrArg (fun n => 2 ^ n) (by rw [c1074_eq]; decide)
    rw [e0, one_V]
    unfold V
    rw [h2]
    generalize U = u
    generalize sz .f64 a = s
    simp
    omega
theorem nng_sq {x : Option Nat} {P : Int} (fx : le2 x P) (hP : inP P) : nng (fop .mul .f64 x x) := by
  have gx := fi_le2 hP fx
  unfold nng
  intro r hr
  cases x with
  | none => rw [fop_none_l] at hr; cases hr
  | some a =>
    obtain ⟨q, hq, hs, _⟩ := mul_mono (fi_some.1 gx) (fi_some.1 gx) (by unfold LP; rw [D_lp]; omega)
    rw [fop_some, hq] at hr
    cases hr
    rw [hs]; cases sg .f64 a <;> rfl
/-- One round: t / (1 + sqrt (1 + t t)). -/
@[irreducible] def agR (t : Option Nat) : Option Nat := fop .quo .f64 t (fop .add .f64 (some 4607182418800017408) (fsqrt (fop .add .f64 (some 4607182418800017408) (fop .mul .f64 t t))))
theorem agR_le {t : Option Nat} (h : le2 t 1) : le2 (agR t) 1 := by
  have h1 : le2 (fop .mul .f64 t t) 2 := le2_mul h h (inP_of' (by omega) (by omega)) (inP_of' (by omega) (by omega)) (inP_of' (by omega) (by omega))
  have h2 : le2 (fop .add .f64 (some 4607182418800017408) (fop .mul .f64 t t)) 3 := le2_add (p := 2) (le2_mono one_le (by omega)) h1 (inP_of' (by omega) (by omega)) (inP_of' (by omega) (by omega))
  have h3 := ge_one (nng_sq h (inP_of' (by omega) (by omega))) h1 (inP_of' (by omega) (by omega))
  have h4 : le2 (fsqrt (fop .add .f64 (some 4607182418800017408) (fop .mul .f64 t t))) 2 := le2_sqrt (p := 2) (le2_mono h2 (by omega)) (inP_of' (by omega) (by omega)) (inP_of' (by omega) (by omega))
  have h5 := nng_sqrt h3 (fi_le2 (inP_of' (by omega) (by omega)) h2)
  have h6 := ge_one h5 h4 (inP_of' (by omega) (by omega))
  have h7 : le2 (fop .add .f64 (some 4607182418800017408) (fsqrt (fop .add .f64 (some 4607182418800017408) (fop .mul .f64 t t)))) 3 := le2_add (p := 2) (le2_mono one_le (by omega)) h4 (inP_of' (by omega) (by omega)) (inP_of' (by omega) (by omega))
  unfold agR
  exact le2_quo (p := 1) (q := 0) h h6 (fi_le2 (inP_of' (by omega) (by omega)) h7) (inP_of' (by omega) (by omega)) (inP_of' (by omega) (by omega)) (inP_of' (by omega) (by omega))
/-! ### The series -/
def KA (j : Nat) : Nat := if j = 0 then 4624633867356078080 else if j = 1 then 4623507967449235456 else if j = 2 then 4622382067542392832 else if j = 3 then 4621256167635550208 else if j = 4 then 4619567317775286272 else if j = 5 then 4617315517961601024 else if j = 6 then 4613937818241073152 else if j = 7 then 4607182418800017408 else 13830554455654793216
theorem ang_consts : ∀ j : Fin 8, fop .sub .f64 (some (KA j.val)) (some 4611686018427387904) = some (KA (j.val + 1)) ∧
    (ford .f64 (some (KA j.val)) (some 4607182418800017408) == some Ordering.gt || ford .f64 (some (KA j.val)) (some 4607182418800017408) == some Ordering.eq) = true ∧
    floatOfInt .f64 (15 - 2 * (j.val : Int)) = KA j.val ∧ RD 0 ≤ rg .f64 (KA j.val) ∧ rg .f64 (KA j.val) < FloatKind.f64.format.infRung := by
  unfold fop ford
  decide
theorem ang_last : (ford .f64 (some (KA 8)) (some 4607182418800017408) == some Ordering.gt || ford .f64 (some (KA 8)) (some 4607182418800017408) == some Ordering.eq) = false := by
  unfold ford
  decide
theorem ang_wrap : ∀ j : Fin 8, wrap64 (15 - 2 * (j.val : Int) - 2) = 15 - 2 * ((j.val + 1 : Nat) : Int) := by
  unfold wrap64; decide
def aN (u : Option Nat) : Nat → Option Nat
  | 0 => some 0
  | j + 1 => fop .sub .f64 (fop .quo .f64 (some 4607182418800017408) (some (KA j))) (fop .mul .f64 u (aN u j))
theorem aN_le {u : Option Nat} (hu : le2 u 2) : ∀ j, j ≤ 8 → le2 (aN u j) (3 * j)
  | 0, _ => by rw [aN, le2_some]; decide
  | j + 1, hj => by
    have hc := ang_consts ⟨j, by omega⟩
    have ih := aN_le hu j (by omega)
    have h1 := le2_mul hu ih (inP_of' (by omega) (by omega)) (inP_of' (by omega) (by omega)) (inP_of' (by omega) (by omega))
    have h2 : le2 (fop .quo .f64 (some 4607182418800017408) (some (KA j))) (0 - 0) :=
      le2_quo one_le (ge2_some.2 hc.2.2.2.1) (fi_some.2 hc.2.2.2.2) (inP_of' (by omega) (by omega)) (inP_of' (by omega) (by omega)) (inP_of' (by omega) (by omega))
    rw [aN]
    exact le2_mono (le2_sub (p := 2 + 3 * j) (le2_mono h2 (by omega)) h1 (inP_of' (by omega) (by omega)) (inP_of' (by omega) (by omega))) (by omega)
@[irreducible] def agU (t : Option Nat) : Option Nat := fop .mul .f64 t t
@[irreducible] def agA (t : Option Nat) : Option Nat := fop .quo .f64 (fop .mul .f64 (some 4620693217682128896) (fop .mul .f64 t (aN (agU t) 8))) (some 4618760256179416344)
theorem agA_le {t : Option Nat} (h : le2 t 1) : le2 (agA t) 30 := by
  have h1 : le2 (agU t) 2 := by
    unfold agU
    exact le2_mul h h (inP_of' (by omega) (by omega)) (inP_of' (by omega) (by omega)) (inP_of' (by omega) (by omega))
  have h2 := aN_le h1 8 (by omega)
  have h3 : le2 (fop .mul .f64 (some 4620693217682128896) (fop .mul .f64 t (aN (agU t) 8))) (3 + (1 + 24)) :=
    le2_mul (by rw [le2_some]; decide) (le2_mul h h2 (inP_of' (by omega) (by omega)) (inP_of' (by omega) (by omega)) (inP_of' (by omega) (by omega))) (inP_of' (by omega) (by omega)) (inP_of' (by omega) (by omega)) (inP_of' (by omega) (by omega))
  unfold agA
  exact le2_mono (le2_quo (q := 2) h3 (by rw [ge2_some]; decide) (fi_some.2 (by unfold fin; decide)) (inP_of' (by omega) (by omega)) (inP_of' (by omega) (by omega)) (inP_of' (by omega) (by omega))) (by omega)
end Go.Proofs.Ytakaocddhaepmaa
