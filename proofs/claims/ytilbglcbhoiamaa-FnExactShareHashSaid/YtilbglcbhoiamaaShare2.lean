/-
  The walks of ShareHash and its twin.
-/
import Derived.Test.YtilbglcbhoiamaaShare
namespace Go.Proofs.Ytilbglcbhoiamaa
open Go.RowKit

theorem retG2 {v v' : Nat} {b b' : Bool} (h1 : v = v') (h2 : b = b') : Ending.returned (.tuple #[.float .f32 v, .bool b]) = .returned (.tuple #[.float .f32 v', .bool b']) := by rw [h1, h2]
@[irreducible] def shC (k s : Int) : Option Nat := fop .mul .f32 (cn .f32 (floatOfInt .f32 (hsh k s / 256))) (cn .f32 864026624)
theorem shC_quo (k s : Int) : fop .quo .f32 (cn .f32 (floatOfInt .f32 (hsh k s / 256))) (cn .f32 1266679808) = shC k s := by
  have := hsh_bd k s
  unfold shC
  exact (cn_share (by omega) (by omega)).symm
@[irreducible] def shV (k s : Int) : Option Nat := if bothK k s then shC k s else some 0
theorem shV_t {k s : Int} (h : bothK k s = true) : shV k s = shC k s := by unfold shV; simp [h]
theorem shV_f {k s : Int} (h : bothK k s = false) : shV k s = some 0 := by unfold shV; simp [h]
set_option maxHeartbeats 400000 in
theorem share_any (k s : Int) (w : World) (i1 : 0 ≤ k ∧ k ≤ 4294967295) (i2 : 0 ≤ s ∧ s ≤ 4294967295) : Calls Try.prog 49 #[.int .i64 k, .int .i64 s] w fun e w' => ∃ r n, e = .returned (.float .f32 r) ∧ w' = w.drewN n ∧ cn .f32 r = shC k s := by
  have hh := hsh_bd k s
  go_enter Try.func49, Try.ntmps49
  go_wp2_with (first
    | (go_at_call 45; refine (hash_any _ _ _ (by assumption) (by assumption)).mono ?_; rintro e w' ⟨rfl, rfl⟩)
    | (refine wpList_fop rfl _ _ _ _ _ rfl (by decide) _ _ _ rfl rfl ?_; intro r n hr hrb))
  go_ret
  exact ⟨_, _, rfl, rfl, by unfold shC; assumption⟩
set_option maxHeartbeats 400000 in
theorem ShareHash_any (k s : Int) (w : World) : Calls Try.prog 23 #[.int .i64 k, .int .i64 s] w fun e w' => ∃ r n, e = .returned (.tuple #[.float .f32 r, .bool (bothK k s)]) ∧ w' = w.drewN n ∧ cn .f32 r = shV k s := by
  rcases h1 : isK k
  all_goals rcases h2 : isK s
  case' true.true => have hb := bothK_t h1 h2; have HV := Lib.hid (shV_t hb); have i1 := isK_of h1; have i2 := isK_of h2
  case' true.false => have hb := bothK_f2 (k := k) h2; have HV := Lib.hid (shV_f hb)
  case' false.true => have hb := bothK_f1 (s := s) h1; have HV := Lib.hid (shV_f hb)
  case' false.false => have hb := bothK_f1 (s := s) h1; have HV := Lib.hid (shV_f hb)
  all_goals
    have HB := Lib.hid hb
    clear hb
    go_enter Try.func23, Try.ntmps23
    go_wp2_with (first | (go_at_call 15; refine (IsKey_any _ _).mono ?_; rintro e w' ⟨rfl, rfl⟩) | (go_at_call 49; refine (share_any _ _ _ (by assumption) (by assumption)).mono ?_; rintro e w' ⟨r, n, rfl, rfl, hr⟩))
    go_ret2
  all_goals first
    | exact ⟨_, _, retG2 rfl HB.out.symm, rfl, by rw [HV.out]; assumption⟩
    | exact ⟨0, 0, retG2 rfl HB.out.symm, rfl, by rw [HV.out]; exact cn_num (by decide)⟩
set_option maxHeartbeats 400000 in
theorem sShareHash_any (k s : Int) (w : World) : Calls Try.prog 22 #[.int .i64 k, .int .i64 s] w fun e w' => ∃ r n, e = .returned (.tuple #[.float .f32 r, .bool (bothK k s)]) ∧ w' = w.drewN n ∧ cn .f32 r = shV k s := by
  rcases h1 : isK k
  all_goals rcases h2 : isK s
  case' true.true => have hb := bothK_t h1 h2; have HV := Lib.hid (shV_t hb); have i1 := isK_of h1; have i2 := isK_of h2
  case' true.false => have hb := bothK_f2 (k := k) h2; have HV := Lib.hid (shV_f hb)
  case' false.true => have hb := bothK_f1 (s := s) h1; have HV := Lib.hid (shV_f hb)
  case' false.false => have hb := bothK_f1 (s := s) h1; have HV := Lib.hid (shV_f hb)
  all_goals
    have HB := Lib.hid hb
    have hh := hsh_bd k s
    go_enter Try.func22, Try.ntmps22
    go_wp2_with (first
      | (go_at_call 43; refine (l02Both_any _ _ _).mono ?_; rintro e w' ⟨rfl, rfl⟩)
      | (go_at_call 44; refine (l02Hash_any _ _ _ (by assumption) (by assumption)).mono ?_; rintro e w' ⟨rfl, rfl⟩)
      | (refine wpList_fop rfl _ _ _ _ _ rfl (by decide) _ _ _ rfl rfl ?_; intro r n hr hrb))
    go_ret2
  all_goals first
    | exact ⟨_, _, retG2 rfl HB.out.symm, rfl, by rw [HV.out, ← shC_quo]; assumption⟩
    | exact ⟨0, 0, retG2 rfl HB.out.symm, rfl, by rw [HV.out]; exact cn_num (by decide)⟩
end Go.Proofs.Ytilbglcbhoiamaa
