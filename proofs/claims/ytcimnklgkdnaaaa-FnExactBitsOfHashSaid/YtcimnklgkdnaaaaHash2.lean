/-
  Contracts of HashOf, SignOf, BelowHash and their twins of the reference: both sides compute the same plain functions.
-/
import Derived.Test.YtcimnklgkdnaaaaHash
namespace Go.Proofs.Ytcimnklgkdnaaaa
open Go.RowKit

@[irreducible] def bothK (k s : Int) : Bool := isK k && isK s
theorem bothK_t {k s : Int} (h1 : isK k = true) (h2 : isK s = true) : bothK k s = true := by simp [bothK, h1, h2]
theorem bothK_f1 {k s : Int} (h1 : isK k = false) : bothK k s = false := by simp [bothK, h1]
theorem bothK_f2 {k s : Int} (h1 : isK s = false) : bothK k s = false := by simp [bothK, h1]
@[irreducible] def hshV (k s : Int) : Int := if bothK k s then hsh k s else 0
theorem hshV_t {k s : Int} (h : bothK k s = true) : hshV k s = hsh k s := by simp [hshV, h]
theorem hshV_f {k s : Int} (h : bothK k s = false) : hshV k s = 0 := by simp [hshV, h]
@[irreducible] def sgn (k s : Int) : Int := if hsh k s < 2147483648 then 1 else -1
@[irreducible] def sgnV (k s : Int) : Int := if bothK k s then sgn k s else 0
theorem sgnV_t {k s : Int} (h : bothK k s = true) : sgnV k s = sgn k s := by simp [sgnV, h]
theorem sgnV_f {k s : Int} (h : bothK k s = false) : sgnV k s = 0 := by simp [sgnV, h]
@[irreducible] def bel (k s n : Int) : Int := IntKind.u64.wrap (hsh k s * n) / 4294967296
theorem bel_bd (k s n : Int) : 0 ≤ bel k s n ∧ bel k s n ≤ 4294967295 := by
  have h1 : (0:Int) ≤ IntKind.u64.wrap (hsh k s * n) := (wrap_within .u64 _).1
  have h2 : IntKind.u64.wrap (hsh k s * n) ≤ 18446744073709551615 := (wrap_within .u64 _).2
  unfold bel; omega
@[irreducible] def belB (k s n : Int) : Bool := bothK k s && inB n 1 4294967296
@[irreducible] def belV (k s n : Int) : Int := if belB k s n then bel k s n else 0
theorem belB_t {k s n : Int} (h1 : bothK k s = true) (h2 : inB n 1 4294967296 = true) : belB k s n = true := by simp [belB, h1, h2]
theorem belB_f1 {k s n : Int} (h1 : bothK k s = false) : belB k s n = false := by simp [belB, h1]
theorem belB_f2 {k s n : Int} (h2 : inB n 1 4294967296 = false) : belB k s n = false := by simp [belB, h2]
theorem belV_t {k s n : Int} (h : belB k s n = true) : belV k s n = bel k s n := by simp [belV, h]
theorem belV_f {k s n : Int} (h : belB k s n = false) : belV k s n = 0 := by simp [belV, h]

set_option maxHeartbeats 400000 in
theorem l02Both_any (k s : Int) (w : World) : Calls Try.prog 53 #[.int .i64 k, .int .i64 s] w fun e w' => e = .returned (.bool (bothK k s)) ∧ w = w' := by
  rcases h1 : isK k <;> rcases h2 : isK s <;>
  (go_enter Try.func53, Try.ntmps53
   go_wp2_with (go_at_call 45; refine (l02Key_any _ _).mono ?_; rintro e w' ⟨rfl, rfl⟩)
   go_ret
   exact ⟨by simp [bothK, h1, h2], rfl⟩)
set_option maxHeartbeats 400000 in
theorem l02Below_any (k s n : Int) (w : World) (i1 : 0 ≤ k ∧ k ≤ 4294967295) (i2 : 0 ≤ s ∧ s ≤ 4294967295) (i3 : 1 ≤ n ∧ n ≤ 4294967296) : Calls Try.prog 50 #[.int .i64 k, .int .i64 s, .int .i64 n] w fun e w' => e = .returned (.int .i64 (bel k s n)) ∧ w = w' := by
  have hb := bel_bd k s n
  unfold bel at hb
  have hh := hsh_bd k s
  obtain ⟨i31, i32⟩ := i3
  go_enter Try.func50, Try.ntmps50
  go_wp2_with (go_at_call 46; refine (l02Hash_any _ _ _ (by assumption) (by assumption)).mono ?_; rintro e w' ⟨rfl, rfl⟩)
  go_ret
  exact ⟨by unfold bel; rfl, rfl⟩
set_option maxHeartbeats 400000 in
theorem below_any (k s n : Int) (w : World) (i1 : 0 ≤ k ∧ k ≤ 4294967295) (i2 : 0 ≤ s ∧ s ≤ 4294967295) (i3 : 1 ≤ n ∧ n ≤ 4294967296) : Calls Try.prog 52 #[.int .i64 k, .int .i64 s, .int .i64 n] w fun e w' => e = .returned (.int .i64 (bel k s n)) ∧ w = w' := by
  have hb := bel_bd k s n
  unfold bel at hb
  have hh := hsh_bd k s
  obtain ⟨i31, i32⟩ := i3
  go_enter Try.func52, Try.ntmps52
  go_wp2_with (go_at_call 48; refine (hash_any _ _ _ (by assumption) (by assumption)).mono ?_; rintro e w' ⟨rfl, rfl⟩)
  go_ret
  exact ⟨by unfold bel; rfl, rfl⟩
end Go.Proofs.Ytcimnklgkdnaaaa
