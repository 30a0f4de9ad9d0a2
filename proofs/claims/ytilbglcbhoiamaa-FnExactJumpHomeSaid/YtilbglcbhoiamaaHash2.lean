/-
  Contracts of HashOf, SignOf, BelowHash and their twins of the reference: both sides compute the same plain functions.
-/
import Derived.Test.YtilbglcbhoiamaaHash
namespace Go.Proofs.Ytilbglcbhoiamaa
open Go.RowKit

@[irreducible] def bothK (k s : Int) : Bool := isK k && isK s
theorem bothK_t {k s : Int} (h1 : isK k = true) (h2 : isK s = true) : bothK k s = true := by simp [bothK, h1, h2]
theorem bothK_f1 {k s : Int} (h1 : isK k = false) : bothK k s = false := by simp [bothK, h1]
theorem bothK_f2 {k s : Int} (h1 : isK s = false) : bothK k s = false := by simp [bothK, h1]
@[irreducible] def hshV (k s : Int) : Int := if bothK k s then hsh k s else 0
theorem hshV_t {k s : Int} (h : bothK k s = true) : hshV k s = hsh k s := by simp [hshV, h]
theorem hshV_f {k s : Int} (h : bothK k s = false) : hshV k s = 0 := by simp [hshV, h]
@[irreducible] def sgn (k s : Int) : Int := if hsh k s < 2147483648 then 1 else -1
@[irreducible] def sgnV (k s : Int) : Int := if bothK k s then sgn k s else 0
theorem sgnV_t {k s : Int} (h : bothK k s = true) : sgnV k s = sgn k s := by simp [sgnV, h]
theorem sgnV_f {k s : Int} (h : bothK k s = false) : sgnV k s = 0 := by simp [sgnV, h]
@[irreducible] def bel (k s n : Int) : Int := IntKind.u64.wrap (hsh k s * n) / 4294967296
theorem bel_bd (k s n : Int) : 0 ≤ bel k s n ∧ bel k s n ≤ 4294967295 := by
  have h1 : (0:Int) ≤ IntKind.u64.wrap (hsh k s * n) := (wrap_within .u64 _).1
  have h2 : IntKind.u64.wrap (hsh k s * n) ≤ 18446744073709551615 := (wrap_within .u64 _).2
  unfold bel; omega
@[irreducible] def belB (k s n : Int) : Bool := bothK k s && inB n 1 4294967296
@[irreducible] def belV (k s n : Int) : Int := if belB k s n then bel k s n else 0
theorem belB_t {k s n : Int} (h1 : bothK k s = true) (h2 : inB n 1 4294967296 = true) : belB k s n = true := by simp [belB, h1, h2]
theorem belB_f1 {k s n : Int} (h1 : bothK k s = false) : belB k s n = false := by simp [belB, h1]
theorem belB_f2 {k s n : Int} (h2 : inB n 1 4294967296 = false) : belB k s n = false := by simp [belB, h2]
theorem belV_t {k s n : Int} (h : belB k s n = true) : belV k s n = bel k s n := by simp [belV, h]
theorem belV_f {k s n : Int} (h : belB k s n = false) : belV k s n = 0 := by simp [belV, h]

set_option maxHeartbeats 400000 in
theorem l02Both_any (k s : Int) (w : World) : Calls Try.prog 43 #[.int .i64 k, .int .i64 s] w fun e w' => e = .returned (.bool (bothK k s)) ∧ w = w' := by
  rcases h1 : isK k <;> rcases h2 : isK s <;>
  (go_enter Try.func43, Try.ntmps43
   go_wp2_with (go_at_call 40; refine (l02Key_any _ _).mono ?_; rintro e w' ⟨rfl, rfl⟩)
   go_ret
   exact ⟨by simp [bothK, h1, h2], rfl⟩)
set_option maxHeartbeats 400000 in
theorem sHashOf_any (k s : Int) (w : World) : Calls Try.prog 18 #[.int .i64 k, .int .i64 s] w fun e w' => e = .returned (.tuple #[.int .i64 (hshV k s), .bool (bothK k s)]) ∧ w = w' := by
  rcases h1 : isK k
  all_goals rcases h2 : isK s
  case' true.true => have hb := bothK_t h1 h2; have i1 := isK_of h1; have i2 := isK_of h2
  case' true.false => have hb := bothK_f2 (k := k) h2
  case' false.true => have hb := bothK_f1 (s := s) h1
  case' false.false => have hb := bothK_f1 (s := s) h1
  all_goals
    go_enter Try.func18, Try.ntmps18
    go_wp2_with (first | (go_at_call 43; refine (l02Both_any _ _ _).mono ?_; rintro e w' ⟨rfl, rfl⟩) | (go_at_call 44; refine (l02Hash_any _ _ _ (by assumption) (by assumption)).mono ?_; rintro e w' ⟨rfl, rfl⟩))
    go_ret2
  all_goals first | exact ⟨ret2 (hshV_t hb).symm hb.symm, rfl⟩ | exact ⟨ret2 (hshV_f hb).symm hb.symm, rfl⟩
set_option maxHeartbeats 400000 in
theorem HashOf_any (k s : Int) (w : World) : Calls Try.prog 19 #[.int .i64 k, .int .i64 s] w fun e w' => e = .returned (.tuple #[.int .i64 (hshV k s), .bool (bothK k s)]) ∧ w = w' := by
  rcases h1 : isK k
  all_goals rcases h2 : isK s
  case' true.true => have hb := bothK_t h1 h2; have i1 := isK_of h1; have i2 := isK_of h2
  case' true.false => have hb := bothK_f2 (k := k) h2
  case' false.true => have hb := bothK_f1 (s := s) h1
  case' false.false => have hb := bothK_f1 (s := s) h1
  all_goals
    go_enter Try.func19, Try.ntmps19
    go_wp2_with (first | (go_at_call 15; refine (IsKey_any _ _).mono ?_; rintro e w' ⟨rfl, rfl⟩) | (go_at_call 45; refine (hash_any _ _ _ (by assumption) (by assumption)).mono ?_; rintro e w' ⟨rfl, rfl⟩))
    go_ret2
  all_goals first | exact ⟨ret2 (hshV_t hb).symm hb.symm, rfl⟩ | exact ⟨ret2 (hshV_f hb).symm hb.symm, rfl⟩
set_option maxHeartbeats 400000 in
theorem l02Sign_any (k s : Int) (w : World) (i1 : 0 ≤ k ∧ k ≤ 4294967295) (i2 : 0 ≤ s ∧ s ≤ 4294967295) : Calls Try.prog 50 #[.int .i64 k, .int .i64 s] w fun e w' => e = .returned (.int .i64 (sgn k s)) ∧ w = w' := by
  by_cases h : hsh k s < 2147483648 <;>
  (go_enter Try.func50, Try.ntmps50
   go_wp2_with (go_at_call 44; refine (l02Hash_any _ _ _ (by assumption) (by assumption)).mono ?_; rintro e w' ⟨rfl, rfl⟩)
   go_ret
   exact ⟨ret1 (by simp [sgn, h]), rfl⟩)
set_option maxHeartbeats 400000 in
theorem sign_any (k s : Int) (w : World) (i1 : 0 ≤ k ∧ k ≤ 4294967295) (i2 : 0 ≤ s ∧ s ≤ 4294967295) : Calls Try.prog 51 #[.int .i64 k, .int .i64 s] w fun e w' => e = .returned (.int .i64 (sgn k s)) ∧ w = w' := by
  by_cases h : hsh k s < 2147483648 <;>
  (go_enter Try.func51, Try.ntmps51
   go_wp2_with (go_at_call 45; refine (hash_any _ _ _ (by assumption) (by assumption)).mono ?_; rintro e w' ⟨rfl, rfl⟩)
   go_ret
   exact ⟨ret1 (by simp [sgn, h]), rfl⟩)
set_option maxHeartbeats 400000 in
theorem sSignOf_any (k s : Int) (w : World) : Calls Try.prog 25 #[.int .i64 k, .int .i64 s] w fun e w' => e = .returned (.tuple #[.int .i64 (sgnV k s), .bool (bothK k s)]) ∧ w = w' := by
  rcases h1 : isK k
  all_goals rcases h2 : isK s
  case' true.true => have hb := bothK_t h1 h2; have i1 := isK_of h1; have i2 := isK_of h2
  case' true.false => have hb := bothK_f2 (k := k) h2
  case' false.true => have hb := bothK_f1 (s := s) h1
  case' false.false => have hb := bothK_f1 (s := s) h1
  all_goals
    go_enter Try.func25, Try.ntmps25
    go_wp2_with (first | (go_at_call 43; refine (l02Both_any _ _ _).mono ?_; rintro e w' ⟨rfl, rfl⟩) | (go_at_call 50; refine (l02Sign_any _ _ _ (by assumption) (by assumption)).mono ?_; rintro e w' ⟨rfl, rfl⟩))
    go_ret2
  all_goals first | exact ⟨ret2 (sgnV_t hb).symm hb.symm, rfl⟩ | exact ⟨ret2 (sgnV_f hb).symm hb.symm, rfl⟩
set_option maxHeartbeats 400000 in
theorem SignOf_any (k s : Int) (w : World) : Calls Try.prog 26 #[.int .i64 k, .int .i64 s] w fun e w' => e = .returned (.tuple #[.int .i64 (sgnV k s), .bool (bothK k s)]) ∧ w = w' := by
  rcases h1 : isK k
  all_goals rcases h2 : isK s
  case' true.true => have hb := bothK_t h1 h2; have i1 := isK_of h1; have i2 := isK_of h2
  case' true.false => have hb := bothK_f2 (k := k) h2
  case' false.true => have hb := bothK_f1 (s := s) h1
  case' false.false => have hb := bothK_f1 (s := s) h1
  all_goals
    go_enter Try.func26, Try.ntmps26
    go_wp2_with (first | (go_at_call 15; refine (IsKey_any _ _).mono ?_; rintro e w' ⟨rfl, rfl⟩) | (go_at_call 51; refine (sign_any _ _ _ (by assumption) (by assumption)).mono ?_; rintro e w' ⟨rfl, rfl⟩))
    go_ret2
  all_goals first | exact ⟨ret2 (sgnV_t hb).symm hb.symm, rfl⟩ | exact ⟨ret2 (sgnV_f hb).symm hb.symm, rfl⟩
set_option maxHeartbeats 400000 in
theorem l02Below_any (k s n : Int) (w : World) (i1 : 0 ≤ k ∧ k ≤ 4294967295) (i2 : 0 ≤ s ∧ s ≤ 4294967295) (i3 : 1 ≤ n ∧ n ≤ 4294967296) : Calls Try.prog 47 #[.int .i64 k, .int .i64 s, .int .i64 n] w fun e w' => e = .returned (.int .i64 (bel k s n)) ∧ w = w' := by
  have hb := bel_bd k s n
  unfold bel at hb
  have hh := hsh_bd k s
  obtain ⟨i31, i32⟩ := i3
  go_enter Try.func47, Try.ntmps47
  go_wp2_with (go_at_call 44; refine (l02Hash_any _ _ _ (by assumption) (by assumption)).mono ?_; rintro e w' ⟨rfl, rfl⟩)
  go_ret
  exact ⟨by unfold bel; rfl, rfl⟩
set_option maxHeartbeats 400000 in
theorem below_any (k s n : Int) (w : World) (i1 : 0 ≤ k ∧ k ≤ 4294967295) (i2 : 0 ≤ s ∧ s ≤ 4294967295) (i3 : 1 ≤ n ∧ n ≤ 4294967296) : Calls Try.prog 48 #[.int .i64 k, .int .i64 s, .int .i64 n] w fun e w' => e = .returned (.int .i64 (bel k s n)) ∧ w = w' := by
  have hb := bel_bd k s n
  unfold bel at hb
  have hh := hsh_bd k s
  obtain ⟨i31, i32⟩ := i3
  go_enter Try.func48, Try.ntmps48
  go_wp2_with (go_at_call 45; refine (hash_any _ _ _ (by assumption) (by assumption)).mono ?_; rintro e w' ⟨rfl, rfl⟩)
  go_ret
  exact ⟨by unfold bel; rfl, rfl⟩
set_option maxHeartbeats 400000 in
theorem sBelowHash_any (k s n : Int) (w : World) : Calls Try.prog 20 #[.int .i64 k, .int .i64 s, .int .i64 n] w fun e w' => e = .returned (.tuple #[.int .i64 (belV k s n), .bool (belB k s n)]) ∧ w = w' := by
  rcases h1 : bothK k s
  all_goals rcases h2 : inB n 1 4294967296
  case' true.true => have hb := belB_t h1 h2; have hq := h1; simp only [bothK, Bool.and_eq_true] at hq; have i1 := isK_of hq.1; have i2 := isK_of hq.2; have i3 := inB_of h2; clear hq
  case' true.false => have hb := belB_f2 (k := k) (s := s) h2
  case' false.true => have hb := belB_f1 (n := n) h1
  case' false.false => have hb := belB_f1 (n := n) h1
  all_goals
    go_enter Try.func20, Try.ntmps20
    go_wp2_with (first | (go_at_call 43; refine (l02Both_any _ _ _).mono ?_; rintro e w' ⟨rfl, rfl⟩) | (go_at_call 46; refine (l00In_any _ _ _ _).mono ?_; rintro e w' ⟨rfl, rfl⟩) | (go_at_call 47; refine (l02Below_any _ _ _ _ (by assumption) (by assumption) (by assumption)).mono ?_; rintro e w' ⟨rfl, rfl⟩))
    go_ret2
  all_goals first | exact ⟨ret2 (belV_t hb).symm hb.symm, rfl⟩ | exact ⟨ret2 (belV_f hb).symm hb.symm, rfl⟩
set_option maxHeartbeats 400000 in
theorem BelowHash_any (k s n : Int) (w : World) : Calls Try.prog 21 #[.int .i64 k, .int .i64 s, .int .i64 n] w fun e w' => e = .returned (.tuple #[.int .i64 (belV k s n), .bool (belB k s n)]) ∧ w = w' := by
  rcases h1 : isK k
  all_goals rcases h2 : isK s
  all_goals rcases h3 : inB n 1 4294967296
  case' true.true.true => have hb := belB_t (bothK_t h1 h2) h3; have i1 := isK_of h1; have i2 := isK_of h2; have i3 := inB_of h3
  case' true.true.false => have hb := belB_f2 (k := k) (s := s) h3
  case' true.false.true => have hb := belB_f1 (n := n) (bothK_f2 (k := k) h2)
  case' true.false.false => have hb := belB_f1 (n := n) (bothK_f2 (k := k) h2)
  case' false.true.true => have hb := belB_f1 (n := n) (bothK_f1 (s := s) h1)
  case' false.true.false => have hb := belB_f1 (n := n) (bothK_f1 (s := s) h1)
  case' false.false.true => have hb := belB_f1 (n := n) (bothK_f1 (s := s) h1)
  case' false.false.false => have hb := belB_f1 (n := n) (bothK_f1 (s := s) h1)
  all_goals
    go_enter Try.func21, Try.ntmps21
    go_wp2_with (first | (go_at_call 15; refine (IsKey_any _ _).mono ?_; rintro e w' ⟨rfl, rfl⟩) | (go_at_call 41; refine (within_any _ _ _ _).mono ?_; rintro e w' ⟨rfl, rfl⟩) | (go_at_call 48; refine (below_any _ _ _ _ (by assumption) (by assumption) (by assumption)).mono ?_; rintro e w' ⟨rfl, rfl⟩))
    go_ret2
  all_goals first | exact ⟨ret2 (belV_t hb).symm hb.symm, rfl⟩ | exact ⟨ret2 (belV_f hb).symm hb.symm, rfl⟩
end Go.Proofs.Ytilbglcbhoiamaa
