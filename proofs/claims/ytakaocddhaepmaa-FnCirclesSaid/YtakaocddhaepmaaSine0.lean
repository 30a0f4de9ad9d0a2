/-
  Contracts of sine and of the reference's l01SineWide: both compute one canonical form.
-/
import Derived.Test.YtakaocddhaepmaaFrac
namespace Go.Proofs.Ytakaocddhaepmaa
open Go.RowKit

/-! ### The constants of the loop: k, 2 k, 2 k + 1, 2 k (2 k + 1), for k = 8 - j -/
def KC (j : Nat) : Nat := if j = 0 then 4620693217682128896 else if j = 1 then 4619567317775286272 else if j = 2 then 4618441417868443648 else if j = 3 then 4617315517961601024 else if j = 4 then 4616189618054758400 else if j = 5 then 4613937818241073152 else if j = 6 then 4611686018427387904 else if j = 7 then 4607182418800017408 else 0
def K2 (j : Nat) : Nat := if j = 0 then 4625196817309499392 else if j = 1 then 4624070917402656768 else if j = 2 then 4622945017495814144 else if j = 3 then 4621819117588971520 else if j = 4 then 4620693217682128896 else if j = 5 then 4618441417868443648 else if j = 6 then 4616189618054758400 else 4611686018427387904
def K21 (j : Nat) : Nat := if j = 0 then 4625478292286210048 else if j = 1 then 4624633867356078080 else if j = 2 then 4623507967449235456 else if j = 3 then 4622382067542392832 else if j = 4 then 4621256167635550208 else if j = 5 then 4619567317775286272 else if j = 6 then 4617315517961601024 else 4613937818241073152
def DC (j : Nat) : Nat := if j = 0 then 4643492690795692032 else if j = 1 then 4641592734702895104 else if j = 2 then 4639692778610098176 else if j = 3 then 4637440978796412928 else if j = 4 then 4634766966517661696 else if j = 5 then 4631107791820423168 else if j = 6 then 4626322717216342016 else 4618441417868443648
theorem sine_consts : ∀ j : Fin 8,
    fop .mul .f64 (some 4611686018427387904) (some (KC j.val)) = some (K2 j.val) ∧ fop .add .f64 (some (K2 j.val)) (some 4607182418800017408) = some (K21 j.val) ∧
    fop .mul .f64 (some (K2 j.val)) (some (K21 j.val)) = some (DC j.val) ∧ fop .sub .f64 (some (KC j.val)) (some 4607182418800017408) = some (KC (j.val + 1)) ∧
    (ford .f64 (some (KC j.val)) (some 4607182418800017408) == some Ordering.gt || ford .f64 (some (KC j.val)) (some 4607182418800017408) == some Ordering.eq) = true ∧
    floatOfInt .f64 ((2 * (8 - (j.val : Int))) * (2 * (8 - (j.val : Int)) + 1)) = DC j.val ∧ RD 2 ≤ rg .f64 (DC j.val) ∧ rg .f64 (DC j.val) < FloatKind.f64.format.infRung := by
  unfold fop ford
  decide
theorem sine_last : (ford .f64 (some (KC 8)) (some 4607182418800017408) == some Ordering.gt || ford .f64 (some (KC 8)) (some 4607182418800017408) == some Ordering.eq) = false := by
  unfold ford
  decide
theorem sine_cn : ∀ j : Fin 9, (FloatKind.f64.format.read (KC j.val)).isNaN = false ∧ (FloatKind.f64.format.read (DC j.val)).isNaN = false := by decide
/-- The polynomial after j rounds. -/
def pN (u : Option Nat) : Nat → Option Nat
  | 0 => some 4607182418800017408
  | j + 1 => fop .sub .f64 (some 4607182418800017408) (fop .quo .f64 (fop .mul .f64 u (pN u j)) (some (DC j)))
@[irreducible] def sT (f : Option Nat) : Bool := ford .f64 f (some 4602678819172646912) == some Ordering.gt || ford .f64 f (some 4602678819172646912) == some Ordering.eq
@[irreducible] def sF1 (f : Option Nat) : Option Nat := if sT f then fop .sub .f64 f (some 4602678819172646912) else f
@[irreducible] def sG (f : Option Nat) : Bool := ford .f64 (sF1 f) (some 4598175219545276416) == some Ordering.gt
@[irreducible] def sF2 (f : Option Nat) : Option Nat := if sG f then fop .sub .f64 (some 4602678819172646912) (sF1 f) else sF1 f
@[irreducible] def sZ (f : Option Nat) : Option Nat := fop .mul .f64 (sF2 f) (some 4618760256179416344)
@[irreducible] def sU (f : Option Nat) : Option Nat := fop .mul .f64 (sZ f) (sZ f)
@[irreducible] def sR (f : Option Nat) : Option Nat := fop .mul .f64 (sZ f) (pN (sU f) 8)
@[irreducible] def sinF (f : Option Nat) : Option Nat := if sT f then fneg (sR f) else sR f
theorem inP_of {p : Int} (h1 : -1022 ≤ p) (h2 : p ≤ 1023) : inP p := ⟨h1, h2⟩
theorem pN_le {u : Option Nat} (hu : le2 u 12) : ∀ j, j ≤ 8 → le2 (pN u j) (11 * j)
  | 0, _ => by rw [pN, le2_some]; decide
  | j + 1, hj => by
    have hc := sine_consts ⟨j, by omega⟩
    have ih := pN_le hu j (by omega)
    have h1 := le2_mul hu ih (inP_of (by omega) (by omega)) (inP_of (by omega) (by omega)) (inP_of (by omega) (by omega))
    have h2 : le2 (fop .quo .f64 (fop .mul .f64 u (pN u j)) (some (DC j))) (12 + 11 * j - 2) :=
      le2_quo h1 (ge2_some.2 hc.2.2.2.2.2.2.1) (fi_some.2 hc.2.2.2.2.2.2.2) (inP_of (by omega) (by omega)) (inP_of (by omega) (by omega)) (inP_of (by omega) (by omega))
    have h3 : le2 (some 4607182418800017408) (12 + 11 * j - 2) := le2_mono (p := 0) (by rw [le2_some]; decide) (by omega)
    rw [pN]
    exact le2_mono (le2_sub h3 h2 (inP_of (by omega) (by omega)) (inP_of (by omega) (by omega))) (by omega)
theorem sinF_le {f : Option Nat} (hf : le2 f 1) : le2 (sinF f) 127 := by
  have hh : le2 (some 4602678819172646912) 1 := by rw [le2_some]; decide
  have h1 : le2 (sF1 f) 2 := by
    unfold sF1; split
    · exact le2_sub hf hh (inP_of (by omega) (by omega)) (inP_of (by omega) (by omega))
    · exact le2_mono hf (by omega)
  have h2 : le2 (sF2 f) 3 := by
    unfold sF2; split
    · exact le2_sub (le2_mono hh (by omega)) h1 (inP_of (by omega) (by omega)) (inP_of (by omega) (by omega))
    · exact le2_mono h1 (by omega)
  have h3 : le2 (sZ f) 6 := by
    unfold sZ
    exact le2_mul (q := 3) h2 (by rw [le2_some]; decide) (inP_of (by omega) (by omega)) (inP_of (by omega) (by omega)) (inP_of (by omega) (by omega))
  have h4 : le2 (sU f) 12 := by
    unfold sU
    exact le2_mul h3 h3 (inP_of (by omega) (by omega)) (inP_of (by omega) (by omega)) (inP_of (by omega) (by omega))
  have h5 : le2 (sR f) 94 := by
    unfold sR
    exact le2_mul h3 (pN_le h4 8 (by omega)) (inP_of (by omega) (by omega)) (inP_of (by omega) (by omega)) (inP_of (by omega) (by omega))
  unfold sinF
  split
  · refine le2_neg (le2_mono h5 (by omega)) ?_
    intro b hb
    unfold sR at hb
    exact fop_lt hb
  · exact le2_mono h5 (by omega)
end Go.Proofs.Ytakaocddhaepmaa
