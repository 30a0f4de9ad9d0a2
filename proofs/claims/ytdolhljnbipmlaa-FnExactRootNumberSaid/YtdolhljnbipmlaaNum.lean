/-
  Contracts of IsSubnormal and its twin.
-/
import Derived.Test.YtdolhljnbipmlaaNum0
import Derived.Test.YtdolhljnbipmlaaFlo
namespace Go.Proofs.Ytdolhljnbipmlaa
open Go.RowKit

theorem retFl {k : FloatKind} {v v' : Nat} (h1 : v = v') : Ending.returned (.float k v) = .returned (.float k v') := by rw [h1]
set_option maxHeartbeats 400000 in
theorem Abs_any (b : Nat) (w : World) : Calls Try.prog 41 #[.float .f64 b] w fun e w' => e = .returned (.float .f64 (rg .f64 b)) ∧ w = w' := by
  have h1 := call_f64bits
  have h2 := call_f64from
  go_enter Try.func41, Try.ntmps41
  go_wp2
  go_ret
  exact ⟨retFl (by rw [andNot_sign]; simp), rfl⟩
set_option maxHeartbeats 400000 in
theorem IsSubnormal_any (b : Nat) (w : World) : Calls Try.prog 22 #[.float .f32 b] w fun e w' => ∃ n, e = .returned (.bool (subC (cn .f32 b))) ∧ w' = w.drewN n := by
  have ho := fun a b => order_cn .f32 a b
  have ho2 := fun a b => order_cn .f64 a b
  have c0 : cn .f32 0 = some 0 := cn_num (by decide)
  have c1 := min_c
  have hA := cn_abs
  rcases cn_own .f32 b with ha | ha
  · have f1 : ford .f32 none (some 0) = none := ford_none_l _ _
    have f2 : absC (cvF .f32 .f64 none) = none := by rw [cvF_none, absC_none]
    have f3 : ford .f64 none (some 4039728865751334912) = none := ford_none_l _ _
    have hs := Lib.hid subC_none
    go_enter Try.func22, Try.ntmps22
    go_wp2_with (first
      | (refine wpList_up rfl _ _ _ rfl _ rfl Try.underlying23 Try.underlying25 ?_; intro r n hr hrb)
      | (go_at_call 41; refine (Abs_any _ _).mono ?_; rintro e w' ⟨rfl, rfl⟩))
    go_ret
    exact ⟨_, retBool (by rw [ha, hs.out]), rfl⟩
  · have t1 := ne_zero_test ha
    have t2 := sub_test ha
    have hs := Lib.hid (subC_some b)
    have HA := Lib.hid ha
    by_cases h1 : 0 < rg .f32 b <;> by_cases h2 : rg .f32 b < 8388608
    all_goals
      simp only [h1, h2, decide_true, decide_false] at t1 t2
      go_enter Try.func22, Try.ntmps22
      go_wp2_with (first
        | (refine wpList_up rfl _ _ _ rfl _ rfl Try.underlying23 Try.underlying25 ?_; intro r n hr hrb)
        | (go_at_call 41; refine (Abs_any _ _).mono ?_; rintro e w' ⟨rfl, rfl⟩))
      go_ret
    all_goals first
      | exact ⟨_, retBool (by rw [HA.out, hs.out]; simp [h1, h2]), rfl⟩
      | exact ⟨0, retBool (by rw [HA.out, hs.out]; simp [h1, h2]), rfl⟩
set_option maxHeartbeats 400000 in
theorem sIsSubnormal_any (b : Nat) (w : World) (hb : b < 4294967296) : Calls Try.prog 21 #[.float .f32 b] w fun e w' => e = .returned (.bool (subC (cn .f32 b))) ∧ w = w' := by
  have ho := fun a b => order_cn .f32 a b
  have c0 : cn .f32 0 = some 0 := cn_num (by decide)
  rcases cn_own .f32 b with ha | ha
  · have f1 : ford .f32 none (some 0) = none := ford_none_l _ _
    have f2 := bitsV_none
    have hs := Lib.hid subC_none
    have f3 : (bits BinOp.and IntKind.i64 2143289344 2139095040 == 0) = false := by decide
    go_enter Try.func21, Try.ntmps21
    go_wp2_with (go_at_call 39; refine (l01Bits_any _ _ hb).mono ?_; rintro e w' ⟨rfl, rfl⟩)
    go_ret
    exact ⟨retBool (by rw [ha, hs.out]), rfl⟩
  · have t1 := ne_zero_test ha
    have t2 := exp_test hb
    have t3 := bitsV_some b
    have hs := Lib.hid (subC_some b)
    have HA := Lib.hid ha
    by_cases h1 : 0 < rg .f32 b <;> by_cases h2 : rg .f32 b < 8388608
    all_goals
      simp only [h1, h2, decide_true, decide_false] at t1 t2
      go_enter Try.func21, Try.ntmps21
      go_wp2_with (go_at_call 39; refine (l01Bits_any _ _ hb).mono ?_; rintro e w' ⟨rfl, rfl⟩)
      go_ret
      exact ⟨retBool (by rw [HA.out, hs.out]; simp [h1, h2]), rfl⟩
end Go.Proofs.Ytdolhljnbipmlaa
