/-
  Contracts of the integer hash functions, each proved once: what within, IsKey, MixHash, hash and their twins of the reference compute.
-/
import Derived.Test.YtakaocddhaepmaaRows
import Derived.WalkKit
import Derived.WalkSpells
import Derived.WalkLawsBesides
import Derived.Laws.Closers25b
namespace Go.Proofs.Ytakaocddhaepmaa
open Go.RowKit

@[irreducible] def inB (n lo hi : Int) : Bool := decide (lo ≤ n ∧ n ≤ hi)
theorem inB_t {n lo hi : Int} (h : lo ≤ n ∧ n ≤ hi) : inB n lo hi = true := by simp [inB, h]
theorem inB_f {n lo hi : Int} (h : ¬ (lo ≤ n ∧ n ≤ hi)) : inB n lo hi = false := by simpa [inB] using h
theorem inB_of {n lo hi : Int} (h : inB n lo hi = true) : lo ≤ n ∧ n ≤ hi := by simpa [inB] using h

@[irreducible] def isK (n : Int) : Bool := inB n 0 4294967295
theorem isK_eq (n : Int) : inB n 0 4294967295 = isK n := by unfold isK; rfl
theorem isK_of {n : Int} (h : isK n = true) : 0 ≤ n ∧ n ≤ 4294967295 := inB_of (by rw [isK_eq]; exact h)
theorem isK_ge {n : Int} (h : 0 ≤ n ∧ n ≤ 4294967295) : isK n = true := by rw [← isK_eq]; exact inB_t h
theorem retB {v v' : Bool} (h1 : v = v') : Ending.returned (.bool v) = .returned (.bool v') := by rw [h1]
theorem ret2 {v v' : Int} {b b' : Bool} (h1 : v = v') (h2 : b = b') : Ending.returned (.tuple #[.int .i64 v, .bool b]) = .returned (.tuple #[.int .i64 v', .bool b']) := by rw [h1, h2]
theorem ret1 {k : IntKind} {v v' : Int} (h1 : v = v') : Ending.returned (.int k v) = .returned (.int k v') := by rw [h1]

/-- The mixing of digits, in the walk's own form. -/
def mixA (x : Int) : Int := bits BinOp.xor IntKind.u64 x (x / 1073741824)
def mixB (x : Int) : Int := IntKind.u64.wrap (mixA x * 13787848793156543929)
def mixC (x : Int) : Int := bits BinOp.xor IntKind.u64 (mixB x) (mixB x / 134217728)
def mixD (x : Int) : Int := IntKind.u64.wrap (mixC x * 10723151780598845931)
@[irreducible] def mix (x : Int) : Int := bits BinOp.xor IntKind.u64 (mixD x) (mixD x / 2147483648)
theorem mix_bd (x : Int) : 0 ≤ mix x ∧ mix x ≤ 18446744073709551615 := by unfold mix; exact ⟨bits_lo_u64 _ _ _, bits_hi_u64 _ _ _⟩

@[irreducible] def hsh (key salt : Int) : Int := mix (IntKind.u64.wrap (key + 4294967296 * salt + 11400714819323198485)) / 4294967296
theorem hsh_bd (key salt : Int) : 0 ≤ hsh key salt ∧ hsh key salt ≤ 4294967295 := by
  have := mix_bd (IntKind.u64.wrap (key + 4294967296 * salt + 11400714819323198485)); unfold hsh; omega

end Go.Proofs.Ytakaocddhaepmaa
