/-
  Floats that are finite: what takes itself from itself, what lies beyond 2 ^ 52, and the fraction of a number.
-/
import Derived.Test.YtakaocddhaepmaaInt
import Derived.Test.YtakaocddhaepmaaNum
import Derived.Deep.LoopGhost
namespace Go.Proofs.Ytakaocddhaepmaa
open Go.RowKit

/-! ### The other sign -/
theorem negFloat_rg (b : Nat) (h : b < 2 ^ FloatKind.f64.format.width) : rg .f64 (Op.negFloat .f64 b) = rg .f64 b ∧ Op.negFloat .f64 b < 2 ^ FloatKind.f64.format.width := by
  have e : Op.negFloat .f64 b = b ^^^ 2 ^ 63 := rfl
  have hw : (2 : Nat) ^ FloatKind.f64.format.width = 2 ^ 64 := rfl
  have h63 : (2 : Nat) ^ 63 = 9223372036854775808 := by decide
  rw [hw] at *
  refine ⟨?_, by rw [e]; exact Nat.xor_lt_two_pow h (by decide)⟩
  unfold rg
  rw [e, D_sw, ← h63]
  refine Nat.eq_of_testBit_eq fun j => ?_
  rw [Nat.testBit_mod_two_pow, Nat.testBit_mod_two_pow, Nat.testBit_xor, Nat.testBit_two_pow]
  by_cases h1 : j < 63
  · have : ¬ 63 = j := by omega
    simp [h1, this]
  · simp [h1]
@[irreducible] def fneg (x : Option Nat) : Option Nat := x.map (Op.negFloat .f64)
theorem cn_neg (b : Nat) (h : b < 2 ^ FloatKind.f64.format.width) : cn .f64 (Op.negFloat .f64 b) = fneg (cn .f64 b) := by
  have hr := (negFloat_rg b h).1
  unfold fneg
  rcases cn_own .f64 b with ha | ha
  · rw [ha]
    refine cn_nan ?_
    by_cases d : (FloatKind.f64.format.read (Op.negFloat .f64 b)).isNaN = true
    · exact d
    · exfalso
      have h1 := rg_le .f64 _ (show (FloatKind.f64.format.read (Op.negFloat .f64 b)).isNaN = false by simpa using d)
      rw [hr] at h1
      have h2 := cn_of_rg .f64 b h1
      rw [ha] at h2; cases h2
  · rw [ha]
    exact cn_of_rg _ _ (by rw [hr]; exact cn_rg ha)
section
variable {P : Program} {ops : Array Oper} {rest : List Oper} {o : Oper} {a : Act} {w : World} {Q : Exit → Act → World → Prop}
theorem wpList_neg (hgd : Region.wanted o (yielded ops a.tmps) = true) (t : TypeId) (x : Operand) (ho : o.op = .unOp .neg t x) (b : Nat) (hx : a.eval x = .float .f64 b) (hb : b < 2 ^ FloatKind.f64.format.width)
    (h : ∀ r, cn .f64 r = fneg (cn .f64 b) → r < 2 ^ FloatKind.f64.format.width → wpList P ops Q rest (a.put o.dst (.float .f64 r)) w) : wpList P ops Q (o :: rest) a w := by
  refine wpList_wanted hgd fun K hK => ?_
  have he : (execOp a.eval o).run P w = .ok (.value (.float .f64 (Op.negFloat .f64 b))) w := by
    unfold execOp
    simp [ho, hx, Op.unary]
  unfold Oper.wp
  rw [he]
  exact hK _ _ (h _ (cn_neg b hb) (negFloat_rg b hb).2)
end
theorem le2_neg {x : Option Nat} {p : Int} (h : le2 x p) (hx : ∀ b, x = some b → b < 2 ^ FloatKind.f64.format.width) : le2 (fneg x) p := by
  unfold fneg
  cases x with
  | none => exact le2_none _
  | some b => rw [Option.map_some, le2_some, (negFloat_rg b (hx b rfl)).1]; exact le2_some.1 h
theorem fop_lt {op : BinOp} {k : FloatKind} {x y : Option Nat} {b : Nat} (h : fop op k x y = some b) : b < 2 ^ k.format.width := by
  cases x with
  | none => rw [fop_none_l] at h; cases h
  | some a =>
    cases y with
    | none => rw [fop_none_r] at h; cases h
    | some c => rw [fop_some] at h; exact floatBits_lt h

/-! ### x - x -/
theorem own_diff {k : FloatKind} {b : Nat} (h : fin k b) : ∃ r, floatBits .sub k b b = some r ∧ rg k r = 0 := by
  obtain ⟨m, e, hr, _, _⟩ := read_fin h
  unfold floatBits
  simp only [Ieee.Format.sub, hr, Ieee.Datum.opposite, Ieee.Datum.sum, Option.map_some]
  have e0 : Ieee.signed (sg k b) m (e - min e e).toNat + Ieee.signed (!sg k b) m (e - min e e).toNat = 0 := by
    rw [signed_mul, signed_mul]; cases sg k b <;> simp <;> omega
  rw [e0]
  refine ⟨_, rfl, ?_⟩
  show rg k (k.format.write (.number _ _ _)) = 0
  rw [(write_rg k _ _ _).2]
  unfold nr; simp
theorem inf_diff {k : FloatKind} {b : Nat} (h : rg k b = k.format.infRung) : floatBits .sub k b b = none := by
  unfold floatBits
  simp only [Ieee.Format.sub, read_inf k b h (binade_inf k), Ieee.Datum.opposite, Ieee.Datum.sum]
  cases sg k b <;> rfl
theorem key_zero {k : FloatKind} {r : Nat} (h : rg k r = 0) : key k r = 0 := by unfold key; rw [h]; split <;> rfl
theorem isFin_some {k : FloatKind} {b : Nat} (h : cn k b = some b) : isFin k (some b) = decide (rg k b < k.format.infRung) := by
  unfold isFin
  rw [fop_some]
  have hle := cn_rg h
  by_cases hf : rg k b < k.format.infRung
  · obtain ⟨r, hr, h0⟩ := own_diff hf
    rw [hr, ford_cmp (by rw [h0]; exact Nat.zero_le _) (rg0 k), o_eq, key0, key_zero h0]
    simp [hf]
  · rw [inf_diff (by omega), ford_none_l]; simp [hf]
theorem isFin_none {k : FloatKind} : isFin k none = false := by unfold isFin; rw [fop_none_l, ford_none_l]; rfl

/-! ### Beyond 2 ^ 52 -/
theorem c52 : cn .f64 4841369599423283200 = some 4841369599423283200 := cn_num (by decide)
theorem cm52 : cn .f64 14064741636278059008 = some 14064741636278059008 := cn_num (by decide)
theorem RD52 : RD 52 = 4841369599423283200 := by decide
theorem key52 : key .f64 4841369599423283200 = 4841369599423283200 ∧ rg .f64 4841369599423283200 ≤ FloatKind.f64.format.infRung ∧ key .f64 14064741636278059008 = -4841369599423283200 ∧ rg .f64 14064741636278059008 ≤ FloatKind.f64.format.infRung := by
  refine ⟨by decide, by decide, by decide, by decide⟩
@[irreducible] def big52 (r : Nat) : Bool := decide (4841369599423283200 ≤ rg .f64 r)
theorem big_abs {r : Nat} (h : rg .f64 r ≤ FloatKind.f64.format.infRung) : (ford .f64 (absC (some r)) (some 4841369599423283200) == some Ordering.gt || ford .f64 (absC (some r)) (some 4841369599423283200) == some Ordering.eq) = big52 r := by
  rw [absC_some, ford_cmp (by rw [rg_rg]; exact h) key52.2.1, o_gt, o_eq, key52.1, key_rg]
  unfold big52
  rw [Bool.eq_iff_iff]; simp; omega
theorem big_two {r : Nat} (h : rg .f64 r ≤ FloatKind.f64.format.infRung) : ((ford .f64 (some r) (some 4841369599423283200) == some Ordering.gt || ford .f64 (some r) (some 4841369599423283200) == some Ordering.eq) || (ford .f64 (some r) (some 14064741636278059008) == some Ordering.lt || ford .f64 (some r) (some 14064741636278059008) == some Ordering.eq)) = big52 r := by
  rw [ford_cmp h key52.2.1, ford_cmp h key52.2.2.2, o_gt, o_eq, o_lt, o_eq, key52.1, key52.2.2.1]
  unfold big52 key
  rw [Bool.eq_iff_iff]; cases sg .f64 r <;> simp <;> omega
theorem small_of {r : Nat} (h : big52 r = false) : rg .f64 r ≤ RD 52 ∧ fin .f64 r := by
  unfold big52 at h
  have h1 : ¬ 4841369599423283200 ≤ rg .f64 r := by simpa using h
  refine ⟨by rw [RD52]; omega, ?_⟩
  unfold fin; rw [D_inf]; omega

/-! ### The fraction -/
def trunc (b : Nat) : Int := if sg .f64 b then -((sz .f64 b / U : Nat) : Int) else ((sz .f64 b / U : Nat) : Int)
@[irreducible] def fracA (b : Nat) : Option Nat := fop .sub .f64 (some b) (cn .f64 (floatOfInt .f64 (trunc b)))
@[irreducible] def fracN (b : Nat) : Bool := ford .f64 (fracA b) (some 0) == some .lt
@[irreducible] def fracC (b : Nat) : Option Nat := if fracN b then fop .add .f64 (fracA b) (some 4607182418800017408) else fracA b
theorem c_one : cn .f64 4607182418800017408 = some 4607182418800017408 := cn_num (by decide)
theorem pow52 {b : Nat} (h : rg .f64 b ≤ RD 52) : sz .f64 b / U ≤ 4503599627370496 := by
  have ip : inP 52 := by unfold inP; omega
  rw [sz_le ip] at h
  have e : 2 ^ ((52 : Int) + 1074).toNat = 4503599627370496 * U := by
    unfold U
    have : (4503599627370496 : Nat) = 2 ^ 52 := by decide
    rw [this, ← pow_split]
    exact congrArg (fun n => 2 ^ n) (by rw [c1074_eq]; decide)
  rw [e] at h
  exact Nat.div_le_of_le_mul (by rw [Nat.mul_comm]; exact h)
theorem frac_int {b : Nat} (hf : fin .f64 b) (h : rg .f64 b ≤ RD 52) : floatToIntVal .f64 b .i64 = some (trunc b) := by
  have h1 := pow52 h
  rw [toIntVal_fin hf (by omega)]; rfl
theorem fracA_le {b : Nat} (hf : fin .f64 b) (h : rg .f64 b ≤ RD 52) : le2 (fracA b) 0 := by
  have h1 := pow52 h
  have ip : inP 0 := by unfold inP; omega
  have ht : (trunc b).natAbs = sz .f64 b / U := by
    unfold trunc; generalize sz .f64 b / U = q; split <;> omega
  obtain ⟨f2, s2, z2⟩ := int_fin (trunc b) (by rw [ht]; omega)
  unfold fracA
  rw [cn_of_rg _ _ (Nat.le_of_lt f2), fop_some]
  obtain ⟨r, hr, hle, _⟩ := sub_add hf f2
  rw [hr, le2_some]
  refine hle 0 ip ?_
  have e0 : 2 ^ ((0 : Int) + 1074).toNat = U := by
    unfold U; exact congrArg (fun n => 2 ^ n) (by rw [c1074_eq]; decide)
  rw [e0]
  have hV : V .f64 b - V .f64 (floatOfInt .f64 (trunc b)) = if sg .f64 b then -((sz .f64 b % U : Nat) : Int) else ((sz .f64 b % U : Nat) : Int) := by
    have hd := Nat.div_add_mod (sz .f64 b) U
    have hV2 : V .f64 (floatOfInt .f64 (trunc b)) = if sg .f64 b then -((sz .f64 b / U * U : Nat) : Int) else ((sz .f64 b / U * U : Nat) : Int) := by
      unfold V
      rw [s2, z2, ht]
      unfold trunc
      generalize sz .f64 b / U = q
      cases sg .f64 b
      · have : ¬ ((q : Int) < 0) := by omega
        simp [this]
      · by_cases hq : q = 0
        · subst hq; simp
        · simp; intro h; exact absurd h hq
    rw [hV2]
    unfold V
    rw [Nat.mul_comm] at hd
    generalize sz .f64 b / U * U = q at *
    generalize sz .f64 b % U = t at *
    cases sg .f64 b <;> simp <;> omega
  rw [hV]
  have hm := Nat.mod_lt (sz .f64 b) U_pos
  generalize sz .f64 b % U = t at *
  split <;> omega
theorem fracC_le {b : Nat} (hf : fin .f64 b) (h : rg .f64 b ≤ RD 52) : le2 (fracC b) 1 := by
  have h0 := fracA_le hf h
  unfold fracC
  split
  · exact le2_add (p := 0) h0 (by rw [le2_some]; decide) (by unfold inP; omega) (by unfold inP; omega)
  · exact le2_mono h0 (by omega)
set_option maxHeartbeats 1000000 in
theorem fraction_any (b : Nat) (w : World) (hf : fin .f64 b) (h : rg .f64 b ≤ RD 52) : Calls Try.prog 21 #[.float .f64 b] w fun e w' => ∃ r n, e = .returned (.float .f64 r) ∧ w' = w.drewN n ∧ cn .f64 r = fracC b ∧ r < 2 ^ FloatKind.f64.format.width := by
  have ho := fun a b => order_cn .f64 a b
  have c0 : cn .f64 0 = some 0 := cn_num (by decide)
  have c1 := c_one
  have hb : cn .f64 b = some b := cn_of_rg _ _ (Nat.le_of_lt hf)
  have hA : fop .sub .f64 (some b) (cn .f64 (floatOfInt .f64 (trunc b))) = fracA b := by unfold fracA; rfl
  have r3 := fun w => run_convert_float_int (P := Try.prog) w 22 2 .f64 .i64 _ _ (by rw [Try.underlying22]; rfl) Try.underlying2 (frac_int hf h)
  have HC : Hid (fracC b = if fracN b then fop .add .f64 (fracA b) (some 4607182418800017408) else fracA b) := Lib.hid (by unfold fracC; rfl)
  clear h hf
  rcases hN : fracN b
  all_goals
    have hN2 : (ford .f64 (fracA b) (some 0) == some Ordering.lt) = fracN b := by unfold fracN; rfl
    rw [hN] at hN2
    go_enter Try.func21, Try.ntmps21
    go_wp2_with (refine wpList_fop rfl _ _ _ _ _ rfl (by decide) _ _ _ rfl rfl ?_; intro r n hr hrb)
    go_ret
    exact ⟨_, _, rfl, rfl, by rw [HC.out, hN]; simp only [*]; rfl, by assumption⟩
end Go.Proofs.Ytakaocddhaepmaa
