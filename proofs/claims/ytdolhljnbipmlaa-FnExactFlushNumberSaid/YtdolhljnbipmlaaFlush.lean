/-
  Contracts of FlushNumber and its twin: both give words of one canonical form.
-/
import Derived.Test.YtdolhljnbipmlaaSame
namespace Go.Proofs.Ytdolhljnbipmlaa
open Go.RowKit

/-- A zero of a sign. -/
def zr32 (s : Bool) : Nat := if s then 2147483648 else 0
def zr64 (s : Bool) : Nat := if s then 9223372036854775808 else 0
theorem cn_zr (s : Bool) : cn .f32 (zr32 s) = some (zr32 s) := by cases s <;> exact cn_num (by decide)
theorem cn_zr64 (s : Bool) : cn .f64 (zr64 s) = some (zr64 s) := by cases s <;> exact cn_num (by decide)
theorem cv_zr (s : Bool) : cvF .f64 .f32 (some (zr64 s)) = some (zr32 s) := by cases s <;> (rw [cvF_some]; decide)
theorem fits_zr (s : Bool) : fits .f64 .f32 (some (zr64 s)) := by unfold fits; refine .inr ?_; rw [cv_zr]; rfl
@[irreducible] def flC (x : Option Nat) : Option Nat := match x with | none => none | some b => if rg .f32 b < 8388608 then some (zr32 (sg .f32 b)) else some b
theorem flC_none : flC none = none := by unfold flC; rfl
theorem flC_small {b : Nat} (h : rg .f32 b < 8388608) : flC (some b) = some (zr32 (sg .f32 b)) := by unfold flC; simp [h]
theorem flC_big {b : Nat} (h : ¬ rg .f32 b < 8388608) : flC (some b) = some b := by unfold flC; simp [h]
theorem or_sign (s : Bool) : bits BinOp.or IntKind.u64 (bits BinOp.andNot IntKind.u64 0 9223372036854775808) (if s then 9223372036854775808 else 0) = (zr64 s : Int) := by cases s <;> decide
theorem retFf {k : FloatKind} {v v' : Nat} (h1 : v = v') : Ending.returned (.float k v) = .returned (.float k v') := by rw [h1]
set_option maxHeartbeats 400000 in
theorem Copysign0_any (b : Nat) (w : World) (hb : b < 18446744073709551616) : Calls Try.prog 49 #[.float .f64 0, .float .f64 b] w fun e w' => e = .returned (.float .f64 (zr64 (sg .f64 b))) ∧ w = w' := by
  have h1 := call_f64bits
  have h2 := call_f64from
  have HS := Lib.hid (and_sign hb)
  clear hb
  go_enter Try.func49, Try.ntmps49
  go_wp2
  go_ret
  exact ⟨retFf (by rw [HS.out, or_sign]; exact Int.toNat_natCast _), rfl⟩
theorem and_sign32 {b : Nat} (h : b < 4294967296) : bits BinOp.and IntKind.i64 b 2147483648 = (zr32 (sg .f32 b) : Int) := by
  have e1 : bits BinOp.and IntKind.i64 b 2147483648 = IntKind.i64.wrap (((BitVec.ofNat 64 b &&& BitVec.ofNat 64 2147483648).toNat : Nat) : Int) := rfl
  have e2 : (BitVec.ofNat 64 b &&& BitVec.ofNat 64 2147483648).toNat = zr32 (sg .f32 b) := by
    rw [BitVec.toNat_and, BitVec.toNat_ofNat, Nat.mod_eq_of_lt (show b < 2 ^ 64 by omega)]
    have : (BitVec.ofNat 64 2147483648).toNat = 2 ^ 31 := by decide
    rw [this, and_pow2]
    unfold sg zr32
    rw [S_sw, Nat.testBit_eq_decide_div_mod_eq]
    have h31 : (2 : Nat) ^ 31 = 2147483648 := by decide
    rw [h31]
    by_cases h2 : b / 2147483648 % 2 = 1
    · simp [h2]
    · simp [h2]
  rw [e1, e2]
  unfold zr32
  cases sg .f32 b <;> rfl
set_option maxHeartbeats 1000000 in
theorem FlushNumber_any (b : Nat) (w : World) (hb : b < 4294967296) : Calls Try.prog 28 #[.float .f32 b] w fun e w' => ∃ r n, e = .returned (.float .f32 r) ∧ w' = w.drewN n ∧ cn .f32 r = flC (cn .f32 b) := by
  rcases cn_own .f32 b with ha | ha
  · have hs := subC_none
    have HF : Hid (cn .f32 b = flC (cn .f32 b)) := Lib.hid (by rw [ha, flC_none])
    go_enter Try.func28, Try.ntmps28
    go_wp2_with (go_at_call 22; refine (IsSubnormal_any _ _).mono ?_; rintro e w' ⟨n, rfl, rfl⟩)
    go_ret
    exact ⟨_, _, rfl, rfl, HF.out⟩
  · have HA := Lib.hid ha
    by_cases h1 : rg .f32 b < 8388608
    · by_cases h2 : 0 < rg .f32 b
      · have hs : subC (some b) = true := by rw [subC_some]; simp [h1, h2]
        have HF : Hid (flC (cn .f32 b) = some (zr32 (sg .f32 b))) := Lib.hid (by rw [ha, flC_small h1])
        clear h1 h2
        go_enter Try.func28, Try.ntmps28
        go_wp2_with (first
          | (go_at_call 22; refine (IsSubnormal_any _ _).mono ?_; rintro e w' ⟨n, rfl, rfl⟩)
          | (refine wpList_up rfl _ _ _ rfl _ rfl Try.underlying23 Try.underlying25 ?_; intro r n hr hrb; simp only [HA.out] at hr; have hs := sg_up HA.out hr)
          | (go_at_call 49; refine (Copysign0_any _ _ (by assumption)).mono ?_; rintro e w' ⟨rfl, rfl⟩)
          | (refine wpList_down rfl _ _ _ rfl _ rfl Try.underlying25 Try.underlying23 (by rw [cn_zr64]; exact fits_zr _) ?_; intro r2 n2 hr2 hrb2))
        go_ret
        exact ⟨_, _, rfl, rfl, by rw [HF.out]; simp only [*]; rw [cn_zr64, cv_zr]⟩
      · have hs : subC (some b) = false := by rw [subC_some]; simp [h2]
        have hz : b = zr32 (sg .f32 b) := by
          have hw := word_split32 hb
          have h0 : rg .f32 b = 0 := by omega
          rw [h0, Nat.add_zero] at hw
          exact hw
        have HF : Hid (cn .f32 b = flC (cn .f32 b)) := Lib.hid (by rw [ha, flC_small h1, ← hz])
        clear hz
        go_enter Try.func28, Try.ntmps28
        go_wp2_with (go_at_call 22; refine (IsSubnormal_any _ _).mono ?_; rintro e w' ⟨n, rfl, rfl⟩)
        go_ret
        exact ⟨_, _, rfl, rfl, HF.out⟩
    · have hs : subC (some b) = false := by rw [subC_some]; simp [h1]
      have HF : Hid (cn .f32 b = flC (cn .f32 b)) := Lib.hid (by rw [ha, flC_big h1])
      go_enter Try.func28, Try.ntmps28
      go_wp2_with (go_at_call 22; refine (IsSubnormal_any _ _).mono ?_; rintro e w' ⟨n, rfl, rfl⟩)
      go_ret
      exact ⟨_, _, rfl, rfl, HF.out⟩
set_option maxHeartbeats 1000000 in
theorem l01Flush_any (b : Nat) (w : World) (hb : b < 4294967296) : Calls Try.prog 48 #[.float .f32 b] w fun e w' => ∃ r, e = .returned (.float .f32 r) ∧ w = w' ∧ cn .f32 r = flC (cn .f32 b) := by
  rcases cn_own .f32 b with ha | ha
  · have f2 := bitsV_none
    have f3 : (bits BinOp.and IntKind.i64 2143289344 2139095040 == 0) = false := by decide
    have HF : Hid (cn .f32 b = flC (cn .f32 b)) := Lib.hid (by rw [ha, flC_none])
    go_enter Try.func48, Try.ntmps48
    go_wp2_with (go_at_call 39; refine (l01Bits_any _ _ hb).mono ?_; rintro e w' ⟨rfl, rfl⟩)
    go_ret
    exact ⟨_, rfl, rfl, HF.out⟩
  · have t2 := exp_test hb
    have t3 := bitsV_some b
    have t4 := and_sign32 hb
    have HA := Lib.hid ha
    have hz : zr32 (sg .f32 b) ≤ 2147483648 := by unfold zr32; split <;> omega
    by_cases h1 : rg .f32 b < 8388608
    · have HF : Hid (flC (cn .f32 b) = some (zr32 (sg .f32 b))) := Lib.hid (by rw [ha, flC_small h1])
      simp only [h1, decide_true] at t2
      go_enter Try.func48, Try.ntmps48
      go_wp2_with (first
        | (go_at_call 39; refine (l01Bits_any _ _ hb).mono ?_; rintro e w' ⟨rfl, rfl⟩)
        | (go_at_call 45; refine (l01From_any _ _ (by omega) (by omega)).mono ?_; rintro e w' ⟨rfl, rfl⟩))
      go_ret
      exact ⟨_, rfl, rfl, by rw [HF.out]; first | exact cn_zr _ | (simp only [Int.toNat_natCast]; exact cn_zr _)⟩
    · have HF : Hid (cn .f32 b = flC (cn .f32 b)) := Lib.hid (by rw [ha, flC_big h1])
      simp only [h1, decide_false] at t2
      go_enter Try.func48, Try.ntmps48
      go_wp2_with (first
        | (go_at_call 39; refine (l01Bits_any _ _ hb).mono ?_; rintro e w' ⟨rfl, rfl⟩))
      go_ret
      exact ⟨_, rfl, rfl, HF.out⟩
set_option maxHeartbeats 400000 in
theorem sFlushNumber_any (b : Nat) (w : World) (hb : b < 4294967296) : Calls Try.prog 27 #[.float .f32 b] w fun e w' => ∃ r, e = .returned (.float .f32 r) ∧ w = w' ∧ cn .f32 r = flC (cn .f32 b) := by
  go_enter Try.func27, Try.ntmps27
  go_wp2_with (go_at_call 48; refine (l01Flush_any _ _ hb).mono ?_; rintro e w' ⟨r, rfl, rfl, hr⟩)
  go_ret
  exact ⟨_, rfl, rfl, by assumption⟩
end Go.Proofs.Ytdolhljnbipmlaa
