/-
  The walk of the reference's l01LogWide.
-/
import Derived.Test.YtakaocddhaepmaaLog
import Derived.Test.YtakaocddhaepmaaFlo
namespace Go.Proofs.Ytakaocddhaepmaa
open Go.RowKit

theorem d_max : cn .f64 9218868437227405311 = some 9218868437227405311 := cn_num (by decide)
theorem d_ninf : cn .f64 18442240474082181120 = some 18442240474082181120 := cn_num (by decide)
set_option maxHeartbeats 400000 in
theorem IsInf1_any (b : Nat) (w : World) : Calls Try.prog 44 #[.float .f64 b, .int .i64 1] w fun e w' => e = .returned (.bool (ford .f64 (cn .f64 b) (some 9218868437227405311) == some Ordering.gt)) ∧ w = w' := by
  have ho := fun a b => order_cn .f64 a b
  have c1 := d_max
  go_enter Try.func44, Try.ntmps44
  go_wp2
  go_ret
  exact ⟨rfl, rfl⟩
theorem eq_self {k : FloatKind} {b : Nat} (h : rg k b ≤ k.format.infRung) : (ford k (some b) (some b) != some Ordering.eq) = false := by
  rw [ford_cmp h h, o_ne]; simp
theorem lt_zero {k : FloatKind} {b : Nat} (h : rg k b ≤ k.format.infRung) : (ford k (some b) (some 0) == some Ordering.lt) = decide (sg k b = true ∧ 0 < rg k b) := by
  rw [ford_cmp h (rg0 k), o_lt, key0]
  unfold key
  rw [Bool.eq_iff_iff]; cases sg k b <;> simp <;> omega
theorem eq_zero {k : FloatKind} {b : Nat} (h : rg k b ≤ k.format.infRung) : (ford k (some b) (some 0) == some Ordering.eq) = decide (rg k b = 0) := by
  rw [ford_cmp h (rg0 k), o_eq, key0]
  unfold key
  rw [Bool.eq_iff_iff]; cases sg k b <;> simp
theorem gt_max {b : Nat} (h : rg .f64 b ≤ FloatKind.f64.format.infRung) : (ford .f64 (some b) (some 9218868437227405311) == some Ordering.gt) = decide (sg .f64 b = false ∧ rg .f64 b = FloatKind.f64.format.infRung) := by
  have hk : key .f64 9218868437227405311 = 9218868437227405311 := by decide
  rw [ford_cmp h (by decide), o_gt, hk]
  rw [D_inf] at *
  unfold key
  rw [Bool.eq_iff_iff]; cases sg .f64 b <;> simp <;> omega
theorem log_wrap : ∀ j : Fin 13, wrap64 (25 - 2 * (j.val : Int) - 2) = 25 - 2 * ((j.val + 1 : Nat) : Int) := by
  unfold wrap64; decide
end Go.Proofs.Ytakaocddhaepmaa
