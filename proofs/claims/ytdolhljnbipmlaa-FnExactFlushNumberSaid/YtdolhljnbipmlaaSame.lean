/-
  Contracts of SameNumber and FlushNumber and their twins.
-/
import Derived.Test.YtdolhljnbipmlaaNum
import Derived.Test.YtdolhljnbipmlaaFromB
namespace Go.Proofs.Ytdolhljnbipmlaa
open Go.RowKit

theorem sg_up {a r : Nat} (ha : cn .f32 a = some a) (hr : cn .f64 r = cvF .f32 .f64 (some a)) : sg .f64 r = sg .f32 a := by
  have hle := cn_rg ha
  by_cases hf : rg .f32 a < FloatKind.f32.format.infRung
  · obtain ⟨r', hr', _, hs, _⟩ := up_fin hf
    rw [hr'] at hr
    rw [(cn_some hr).1]; exact hs
  · obtain ⟨r', hr', hs, _⟩ := up_inf (b := a) (by omega)
    rw [hr'] at hr
    rw [(cn_some hr).1]; exact hs
theorem sign_test {b : Nat} (h : b < 18446744073709551616) : decide (wrap64 (b : Int) < 0) = sg .f64 b := by
  unfold sg wrap64
  rw [D_sw]
  have h1 : b / 9223372036854775808 = 0 ∨ b / 9223372036854775808 = 1 := by omega
  rw [Bool.eq_iff_iff]
  simp only [decide_eq_true_eq, beq_iff_eq]
  omega
set_option maxHeartbeats 400000 in
theorem Signbit_any (b : Nat) (w : World) (hb : b < 18446744073709551616) : Calls Try.prog 43 #[.float .f64 b] w fun e w' => e = .returned (.bool (sg .f64 b)) ∧ w = w' := by
  have h1 := call_f64bits
  have HS := Lib.hid (sign_test hb)
  clear hb
  go_enter Try.func43, Try.ntmps43
  go_wp2
  go_ret
  exact ⟨retBool HS.out, rfl⟩
@[irreducible] def sameV (a b : Nat) : Bool := bitsV (cn .f32 a) == bitsV (cn .f32 b)
theorem nan_bits : cn .f32 2143289344 = none := cn_nan (by decide)
theorem bits_ne_nan {b : Nat} (h : cn .f32 b = some b) : bitsV (some b) ≠ bitsV none := by
  rw [bitsV_some, bitsV_none]
  intro e
  have : b = 2143289344 := by omega
  rw [this, nan_bits] at h; cases h
theorem key_bits {a b : Nat} (ha : a < 4294967296) (hb : b < 4294967296) : (decide (key .f32 a = key .f32 b) && (sg .f32 a == sg .f32 b)) = (bitsV (some a) == bitsV (some b)) := by
  rw [bitsV_some, bitsV_some, Bool.eq_iff_iff]
  simp only [Bool.and_eq_true, decide_eq_true_eq, beq_iff_eq]
  have h1 := word_split32 ha
  have h2 := word_split32 hb
  constructor
  · rintro ⟨h3, h4⟩
    unfold key at h3
    rw [h4] at h3 h1
    have h5 : (rg .f32 a : Int) = rg .f32 b := by
      cases hs : sg .f32 b <;> rw [hs] at h3 <;> simp at h3 <;> omega
    omega
  · intro h
    have : a = b := by omega
    rw [this]; exact ⟨rfl, rfl⟩
set_option maxHeartbeats 1000000 in
theorem SameNumber_any (a b : Nat) (w : World) (ha : a < 4294967296) (hb : b < 4294967296) :
    Calls Try.prog 24 #[.float .f32 a, .float .f32 b] w fun e w' => ∃ n, e = .returned (.bool (sameV a b)) ∧ w' = w.drewN n := by
  have ho := fun a b => order_cn .f32 a b
  have f1 : ford .f32 none none = none := ford_none_l _ _
  rcases cn_own .f32 a with ca | ca
  · rcases cn_own .f32 b with cb | cb
    · have HV : Hid (sameV a b = true) := by unfold sameV; rw [ca, cb]; exact beq_self_eq_true _
      go_enter Try.func24, Try.ntmps24
      go_wp2
      go_ret
      exact ⟨0, retBool HV.out.symm, rfl⟩
    · have HV : Hid (sameV a b = false) := by unfold sameV; rw [ca, cb, beq_eq_false_iff_ne]; exact (bits_ne_nan cb).symm
      have f2 : ford .f32 (some b) (some b) = some .eq := ford_self (cn_some cb).2
      go_enter Try.func24, Try.ntmps24
      go_wp2
      go_ret
      exact ⟨0, retBool HV.out.symm, rfl⟩
  · have f2 : ford .f32 (some a) (some a) = some .eq := ford_self (cn_some ca).2
    rcases cn_own .f32 b with cb | cb
    · have HV : Hid (sameV a b = false) := by unfold sameV; rw [ca, cb, beq_eq_false_iff_ne]; exact bits_ne_nan ca
      go_enter Try.func24, Try.ntmps24
      go_wp2
      go_ret
      exact ⟨0, retBool HV.out.symm, rfl⟩
    · have f3 : ford .f32 (some b) (some b) = some .eq := ford_self (cn_some cb).2
      have HV : Hid (sameV a b = (decide (key .f32 a = key .f32 b) && (sg .f32 a == sg .f32 b))) := by unfold sameV; rw [ca, cb]; exact (key_bits ha hb).symm
      have t1 : (ford .f32 (some a) (some b) == some Ordering.eq) = decide (key .f32 a = key .f32 b) := by rw [ford_cmp (cn_rg ca) (cn_rg cb), o_eq]
      by_cases hk : key .f32 a = key .f32 b
      · rw [decide_eq_true hk] at t1
        have HV2 : Hid (sameV a b = (sg .f32 a == sg .f32 b)) := by rw [HV.out, decide_eq_true hk]; rfl
        have HK := Lib.hid hk
        clear hk
        have HCA := Lib.hid ca
        have HCB := Lib.hid cb
        go_enter Try.func24, Try.ntmps24
        go_wp2_with (first
          | (refine wpList_up rfl _ _ _ rfl _ rfl Try.underlying23 Try.underlying25 ?_; intro r n hr hrb; simp only [HCA.out, HCB.out] at hr; first | have hs := sg_up HCA.out hr | have hs := sg_up HCB.out hr)
          | (go_at_call 43; refine (Signbit_any _ _ (by assumption)).mono ?_; rintro e w' ⟨rfl, rfl⟩))
        go_ret
        exact ⟨_, retBool (by rw [HV2.out]), rfl⟩
      · rw [decide_eq_false hk] at t1
        have HV2 : Hid (sameV a b = false) := by rw [HV.out, decide_eq_false hk]; rfl
        clear hk
        go_enter Try.func24, Try.ntmps24
        go_wp2
        go_ret
        exact ⟨0, retBool HV2.out.symm, rfl⟩
set_option maxHeartbeats 400000 in
theorem l01Same_any (a b : Nat) (w : World) (ha : a < 4294967296) (hb : b < 4294967296) :
    Calls Try.prog 42 #[.float .f32 a, .float .f32 b] w fun e w' => e = .returned (.bool (sameV a b)) ∧ w = w' := by
  go_enter Try.func42, Try.ntmps42
  go_wp2_with (go_at_call 39; refine (l01Bits_any _ _ (by assumption)).mono ?_; rintro e w' ⟨rfl, rfl⟩)
  go_ret
  exact ⟨retBool (by unfold sameV; rfl), rfl⟩
set_option maxHeartbeats 400000 in
theorem sSameNumber_any (a b : Nat) (w : World) (ha : a < 4294967296) (hb : b < 4294967296) :
    Calls Try.prog 23 #[.float .f32 a, .float .f32 b] w fun e w' => e = .returned (.bool (sameV a b)) ∧ w = w' := by
  go_enter Try.func23, Try.ntmps23
  go_wp2_with (go_at_call 42; refine (l01Same_any _ _ _ ha hb).mono ?_; rintro e w' ⟨rfl, rfl⟩)
  go_ret
  exact ⟨rfl, rfl⟩
end Go.Proofs.Ytdolhljnbipmlaa
