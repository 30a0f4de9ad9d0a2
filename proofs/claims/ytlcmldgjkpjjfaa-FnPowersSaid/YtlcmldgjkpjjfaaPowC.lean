/-
  FnPowers: the pairs, the second part.
-/
import Derived.Test.YtlcmldgjkpjjfaaPowB
namespace Go.Proofs.Ytlcmldgjkpjjfaa
open Go.RowKit

theorem chkR_26 : chkR 26 13 = true := by decide +kernel
theorem chkR_39 : chkR 39 13 = true := by decide +kernel
theorem chkR_52 : chkR 52 13 = true := by decide +kernel
theorem chkS_at {i j : Nat} (hi : i < 65) (hj : j < 65) : chkS i j = true := by
  have key : ∀ a, chkR a 13 = true → a ≤ i → i < a + 13 → chkS i j = true := by
    intro a ha h1 h2
    unfold chkR at ha
    have := List.all_eq_true.1 ha (i - a) (List.mem_range.2 (by omega))
    have := List.all_eq_true.1 this j (List.mem_range.2 hj)
    rwa [show a + (i - a) = i by omega] at this
  by_cases h0 : i < 13
  · exact key 0 chkR_0 (by omega) (by omega)
  by_cases h1 : i < 26
  · exact key 13 chkR_13 (by omega) (by omega)
  by_cases h2 : i < 39
  · exact key 26 chkR_26 (by omega) (by omega)
  by_cases h3 : i < 52
  · exact key 39 chkR_39 (by omega) (by omega)
  · exact key 52 chkR_52 (by omega) (by omega)
theorem tabS {i j : Nat} (hi : i < 65) (hj : j < 65) : fop .add .f32 (some (XS (i + 32))) (some (XS (j + 32))) = some (XS (i + j)) ∧
    (ford .f64 (gapC (fop .mul .f64 (some (EU (i + 32))) (some (EU (j + 32)))) (some (EU (i + j)))) (fop .mul .f64 (some 4562254508917369340) (some (EU (i + j)))) == some Ordering.lt) = true := by
  have c := chkS_at hi hj
  unfold chkS at c
  simp only [Bool.and_eq_true, beq_iff_eq] at c
  exact ⟨c.1, by rw [c.2]; rfl⟩
end Go.Proofs.Ytlcmldgjkpjjfaa
