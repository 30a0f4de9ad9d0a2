/-
  Contracts of the float functions whose results are plain functions of canonical forms: sameFloat, IsFinite, BitsOf, FromBits and their twins.
-/
import Derived.Test.YtakaocddhaepmaaRows
import Derived.Test.YtakaocddhaepmaaFl
import Derived.Laws.Externs
namespace Go.Proofs.Ytakaocddhaepmaa
open Go.RowKit

theorem retBool {v v' : Bool} (h1 : v = v') : Ending.returned (.bool v) = .returned (.bool v') := by rw [h1]
theorem retInt {k : IntKind} {v v' : Int} (h1 : v = v') : Ending.returned (.int k v) = .returned (.int k v') := by rw [h1]

theorem call_f32bits (b : Nat) (w : World) : (callFunc 46 #[.float .f32 b]).run Try.prog w = .ok (.value (.int .u32 b)) w := by
  rw [run_callFunc_extern (e := Extern.MathFloatBits.float32bits) Try.func46 (by kernel_rfl) (by kernel_rfl) (by kernel_rfl) (by kernel_rfl)]; rfl
theorem call_f32from (n : Int) (w : World) : (callFunc 41 #[.int .u32 n]).run Try.prog w = .ok (.value (.float .f32 n.toNat)) w := by
  rw [run_callFunc_extern (e := Extern.MathFloatBits.float32frombits) Try.func41 (by kernel_rfl) (by kernel_rfl) (by kernel_rfl) (by kernel_rfl)]; rfl
theorem call_f64bits (b : Nat) (w : World) : (callFunc 36 #[.float .f64 b]).run Try.prog w = .ok (.value (.int .u64 b)) w := by
  rw [run_callFunc_extern (e := Extern.MathFloatBits.float64bits) Try.func36 (by kernel_rfl) (by kernel_rfl) (by kernel_rfl) (by kernel_rfl)]; rfl
theorem call_f64from (n : Int) (w : World) : (callFunc 35 #[.int .u64 n]).run Try.prog w = .ok (.value (.float .f64 n.toNat)) w := by
  rw [run_callFunc_extern (e := Extern.MathFloatBits.float64frombits) Try.func35 (by kernel_rfl) (by kernel_rfl) (by kernel_rfl) (by kernel_rfl)]; rfl

/-! ### sameFloat at two floats of one canonical form -/
theorem ford_self {k : FloatKind} {x : Nat} (h : (k.format.read x).isNaN = false) : ford k (some x) (some x) = some .eq := by
  rw [ford_some]
  unfold Ieee.Format.order
  cases hd : k.format.read x with
  | number s m e => simp [Ieee.Datum.order]
  | infinity s => simp [Ieee.Datum.order]
  | nan s t => rw [hd] at h; simp [Ieee.Datum.isNaN] at h
theorem cn_own (k : FloatKind) (b : Nat) : cn k b = none ∨ cn k b = some b := by
  cases h : cn k b with
  | none => exact .inl rfl
  | some x => exact .inr (by rw [(cn_some h).1])

/-- '1 / a > 0' for a zero: no draw. -/
theorem recip_some {b : Nat} (h : (FloatKind.f64.format.order b 0 == some Ordering.eq) = true) : ∃ r, floatBits .quo .f64 4607182418800017408 b = some r := by
  unfold floatBits
  simp only
  unfold Ieee.Format.order at h
  unfold Ieee.Format.div
  have h1 : FloatKind.f64.format.read 4607182418800017408 = .number false 4503599627370496 (-52) := by decide
  have h0 : FloatKind.f64.format.read 0 = .number false 0 (-1074) := by decide
  rw [h0] at h
  rw [h1]
  cases hd : FloatKind.f64.format.read b with
  | number s m e =>
    simp only [Ieee.Datum.quotient]
    split
    · exact ⟨_, rfl⟩
    · exact ⟨_, rfl⟩
  | infinity s => exact ⟨_, rfl⟩
  | nan s t => rw [hd] at h; simp [Ieee.Datum.order] at h

set_option maxHeartbeats 1000000 in
theorem sameFloat_eq (a b : Nat) (w : World) (h : cn .f64 a = cn .f64 b) :
    Calls Try.prog 23 #[.float .f64 a, .float .f64 b] w fun e w' => ∃ n, e = .returned (.bool true) ∧ w' = w.drewN n := by
  have ho := fun a b => order_cn .f64 a b
  have c0 : cn .f64 0 = some 0 := cn_num (by decide)
  rcases cn_own .f64 a with ha | ha
  · have hb : cn .f64 b = none := by rw [← h, ha]
    have f1 : ford .f64 none none = none := ford_none_l _ _
    clear h
    go_enter Try.func23, Try.ntmps23
    go_wp2_with (refine wpList_fop rfl _ _ _ _ _ rfl (by decide) _ _ _ rfl rfl ?_; intro r n hr hrb)
    go_ret
    exact ⟨0, rfl, rfl⟩
  · have hb : cn .f64 b = some a := by rw [← h, ha]
    have hba : b = a := (cn_some hb).1
    subst hba
    have f1 : ford .f64 (some b) (some b) = some .eq := ford_self (cn_some ha).2
    clear h hb
    by_cases hz : (ford .f64 (some b) (some 0) == some .eq) = true
    · obtain ⟨r, hr⟩ := recip_some (b := b) (by rw [ho, ha, c0]; exact hz)
      have hrun := fun w => run_float_arith (P := Try.prog) w .quo 22 .f64 _ _ _ hr
      clear hr
      go_enter Try.func23, Try.ntmps23
      go_wp2
      go_ret
      exact ⟨0, by simp, rfl⟩
    · have hz' : (ford .f64 (some b) (some 0) == some .eq) = false := by simpa using hz
      clear hz
      go_enter Try.func23, Try.ntmps23
      go_wp2
      go_ret
      exact ⟨0, by simp, rfl⟩

/-! ### IsFinite -/
@[irreducible] def isFin (k : FloatKind) (x : Option Nat) : Bool := ford k (fop .sub k x x) (some 0) == some .eq
set_option maxHeartbeats 400000 in
theorem IsFinite_any (b : Nat) (w : World) :
    Calls Try.prog 28 #[.float .f32 b] w fun e w' => ∃ n, e = .returned (.bool (isFin .f32 (cn .f32 b))) ∧ w' = w.drewN n := by
  have ho := fun a b => order_cn .f32 a b
  have c0 : cn .f32 0 = some 0 := cn_num (by decide)
  go_enter Try.func28, Try.ntmps28
  go_wp2_with (refine wpList_fop rfl _ _ _ _ _ rfl (by decide) _ _ _ rfl rfl ?_; intro r n hr hrb)
  go_ret
  exact ⟨_, by unfold isFin; rfl, rfl⟩

/-! ### The bits of a number -/
@[irreducible] def bitsV (x : Option Nat) : Int := match x with | none => 2143289344 | some b => b
theorem bitsV_none : bitsV none = 2143289344 := by unfold bitsV; rfl
theorem bitsV_some (b : Nat) : bitsV (some b) = b := by unfold bitsV; rfl
set_option maxHeartbeats 400000 in
theorem l01Bits_any (b : Nat) (w : World) (hb : b < 4294967296) :
    Calls Try.prog 40 #[.float .f32 b] w fun e w' => e = .returned (.int .i64 (bitsV (cn .f32 b))) ∧ w = w' := by
  have ho := fun a b => order_cn .f32 a b
  have hbits := call_f32bits
  rcases cn_own .f32 b with ha | ha
  · have f1 : ford .f32 none none = none := ford_none_l _ _
    go_enter Try.func40, Try.ntmps40
    go_wp2
    go_ret
    exact ⟨retInt (by rw [ha, bitsV_none]), rfl⟩
  · have f1 : ford .f32 (some b) (some b) = some .eq := ford_self (cn_some ha).2
    go_enter Try.func40, Try.ntmps40
    go_wp2
    go_ret
    exact ⟨retInt (by rw [ha, bitsV_some]), rfl⟩
end Go.Proofs.Ytakaocddhaepmaa
