/-
  The conversion from float32 to float64 keeps the value; the bits of a word: its sign, its rung.
-/
import Derived.Test.YtakaocddhaepmaaVal3
namespace Go.Proofs.Ytakaocddhaepmaa
open Ieee

/-- How many places lie between the least of the two kinds. -/
@[irreducible] def c925 : Nat := 925
theorem c925_eq : c925 = 925 := by unfold c925; rfl
theorem up_fin {b : Nat} (h : fin .f32 b) : ∃ r, cvF .f32 .f64 (some b) = some r ∧ fin .f64 r ∧ sg .f64 r = sg .f32 b ∧ sz .f64 r = sz .f32 b * 2 ^ c925 := by
  obtain ⟨m, e, hr, he, hm⟩ := read_fin h
  have he' : -149 ≤ e := by unfold LP at he; rw [S_lp] at he; exact he
  have hL : (e - LP .f32).toNat = (e + 149).toNat := by unfold LP; rw [S_lp]; rfl
  rw [hL] at hm
  have hinf : sz .f32 b < 2 ^ (128 - -149 : Int).toNat := by
    have h1 := mg_lt FloatKind.f32.format h
    have h2 := mg_R FloatKind.f32.format 128 (by rw [S_lp, S_fb]; decide)
    have h3 : R FloatKind.f32.format 128 = FloatKind.f32.format.infRung := by decide
    rw [h3, S_lp] at h2
    rw [h2] at h1
    exact h1
  have hm24 : m < 2 ^ 24 := by
    have hd := hr
    unfold Format.read at hd
    simp only [← show rg .f32 b = b % FloatKind.f32.format.signWeight from rfl] at hd
    have hi := S_inf
    have hb := S_bin
    unfold fin at h
    rw [hb, hi] at hd
    rw [hi] at h
    split at hd
    · cases hd; omega
    · cases hd; omega
  have hnr1 : mg FloatKind.f64.format (nr FloatKind.f64.format m e) = m * 2 ^ (e + 1074).toNat := by
    have := nr_exact FloatKind.f64.format m e (Nat.lt_of_lt_of_le hm24 (by decide)) (by rw [D_lp]; omega)
    rw [this, D_lp]; rfl
  have hnr2 : m * 2 ^ (e + 1074).toNat = sz .f32 b * 2 ^ c925 := by
    rw [← hm, Nat.mul_assoc, ← pow_split]
    exact congrArg (fun n => m * 2 ^ n) (by rw [c925_eq]; omega)
  have hp : inP 128 := by unfold inP; omega
  have hnr3 : nr FloatKind.f64.format m e < FloatKind.f64.format.infRung := by
    have h4 : mg FloatKind.f64.format (nr FloatKind.f64.format m e) < mg FloatKind.f64.format (R FloatKind.f64.format 128) := by
      rw [hnr1, hnr2, mg_R _ _ (ok_of hp), D_lp]
      have : (2 : Nat) ^ ((128 : Int) - -1074).toNat = 2 ^ (128 - -149 : Int).toNat * 2 ^ c925 := by
        rw [← pow_split]
        exact congrArg (fun n => 2 ^ n) (by rw [c925_eq]; decide : ((128 : Int) - -1074).toNat = (128 - -149 : Int).toNat + c925)
      rw [this]
      exact Nat.mul_lt_mul_of_pos_right hinf (Nat.two_pow_pos _)
    have h5 := (mg_lt_iff _ _ _).1 h4
    rw [RD_eq] at h5
    exact Nat.lt_trans h5 (RD_lt hp)
  have hw := write_rg .f64 (sg .f32 b) m e
  rw [Nat.min_eq_left (Nat.le_of_lt hnr3)] at hw
  have hfin : fin .f64 (FloatKind.f64.format.write (.number (sg .f32 b) m e)) := by unfold fin; rw [hw.2]; exact hnr3
  refine ⟨FloatKind.f64.format.write (.number (sg .f32 b) m e), ?_, hfin, hw.1, ?_⟩
  · rw [cvF_some]
    unfold floatToFloatBits
    rw [if_neg (by decide)]
    have hd : FloatKind.f32.decode b = .number (sg .f32 b) m e := hr
    rw [hd]
    simp only
    obtain ⟨m', e', hr', _, _⟩ := read_fin hfin
    have hni : (FloatKind.f64.decode (FloatKind.f64.encode (.number (sg .f32 b) m e))).isInfinity = false := by
      show ((FloatKind.f64.format).read (FloatKind.f64.format.write (.number (sg .f32 b) m e))).isInfinity = false
      rw [hr']; rfl
    simp only [hni]
    rfl
  · unfold sz
    rw [hw.2, hnr1, hnr2]; rfl
theorem up_inf {b : Nat} (h : rg .f32 b = FloatKind.f32.format.infRung) : ∃ r, cvF .f32 .f64 (some b) = some r ∧ sg .f64 r = sg .f32 b ∧ rg .f64 r = FloatKind.f64.format.infRung := by
  have hr := read_inf .f32 b h (binade_inf _)
  refine ⟨FloatKind.f64.format.word (sg .f32 b) FloatKind.f64.format.infRung, ?_, sg_word .f64 _ _ (Nat.le_refl _), rg_word .f64 _ _ (Nat.le_refl _)⟩
  rw [cvF_some]
  unfold floatToFloatBits
  rw [if_neg (by decide)]
  have hd : FloatKind.f32.decode b = .infinity (sg .f32 b) := hr
  rw [hd]
  rfl

/-! ### The bits of a word -/
theorem word_split64 {b : Nat} (h : b < 18446744073709551616) : b = (if sg .f64 b then 9223372036854775808 else 0) + rg .f64 b := by
  unfold sg rg
  rw [D_sw]
  have h1 : b / 9223372036854775808 = 0 ∨ b / 9223372036854775808 = 1 := by omega
  rcases h1 with h1 | h1 <;> rw [h1] <;> simp <;> omega
theorem word_split32 {b : Nat} (h : b < 4294967296) : b = (if sg .f32 b then 2147483648 else 0) + rg .f32 b := by
  unfold sg rg
  rw [S_sw]
  have h1 : b / 2147483648 = 0 ∨ b / 2147483648 = 1 := by omega
  rcases h1 with h1 | h1 <;> rw [h1] <;> simp <;> omega
theorem rg_small (b : Nat) : rg .f64 b < 9223372036854775808 := by unfold rg; rw [D_sw]; omega
theorem rg_small32 (b : Nat) : rg .f32 b < 2147483648 := by unfold rg; rw [S_sw]; omega
theorem rg_self {b : Nat} (h : b < 9223372036854775808) : rg .f64 b = b ∧ sg .f64 b = false := by
  unfold rg sg; rw [D_sw]; exact ⟨Nat.mod_eq_of_lt h, by rw [Nat.div_eq_of_lt h]; rfl⟩
theorem rg_self32 {b : Nat} (h : b < 2147483648) : rg .f32 b = b ∧ sg .f32 b = false := by
  unfold rg sg; rw [S_sw]; exact ⟨Nat.mod_eq_of_lt h, by rw [Nat.div_eq_of_lt h]; rfl⟩
theorem isum (n : Nat) (h : n < 18446744073709551616) : IntKind.u64.wrap (n : Int) = n := by rw [IntWalk.u64_in _ (by omega)]
theorem and_pow2 (b i : Nat) : b &&& 2 ^ i = if b.testBit i then 2 ^ i else 0 := by
  refine Nat.eq_of_testBit_eq fun j => ?_
  rw [Nat.testBit_and, Nat.testBit_two_pow]
  by_cases h : b.testBit i
  · rw [if_pos h, Nat.testBit_two_pow]
    by_cases h2 : i = j
    · subst h2; simp [h]
    · simp [h2]
  · rw [if_neg h]
    by_cases h2 : i = j
    · subst h2; simp [h]
    · simp [h2]
/-- x &^ (1 << 63): the rung. -/
theorem andNot_sign (b : Nat) : bits BinOp.andNot IntKind.u64 b 9223372036854775808 = (rg .f64 b : Int) := by
  have e1 : bits BinOp.andNot IntKind.u64 b 9223372036854775808 = IntKind.u64.wrap (((BitVec.ofNat 64 b &&& ~~~ (BitVec.ofNat 64 9223372036854775808)).toNat : Nat) : Int) := rfl
  have e2 : (BitVec.ofNat 64 b &&& ~~~ (BitVec.ofNat 64 9223372036854775808)).toNat = b % 9223372036854775808 := by
    rw [BitVec.toNat_and]
    have : (~~~ (BitVec.ofNat 64 9223372036854775808)).toNat = 2 ^ 63 - 1 := by decide
    rw [this, Nat.and_two_pow_sub_one_eq_mod, BitVec.toNat_ofNat]
    omega
  rw [e1, e2, isum _ (by omega)]
  unfold rg; rw [D_sw]
/-- x & (1 << 63): the sign. -/
theorem and_sign {b : Nat} (h : b < 18446744073709551616) : bits BinOp.and IntKind.u64 b 9223372036854775808 = if sg .f64 b then 9223372036854775808 else 0 := by
  have e1 : bits BinOp.and IntKind.u64 b 9223372036854775808 = IntKind.u64.wrap (((BitVec.ofNat 64 b &&& BitVec.ofNat 64 9223372036854775808).toNat : Nat) : Int) := rfl
  have e2 : (BitVec.ofNat 64 b &&& BitVec.ofNat 64 9223372036854775808).toNat = if sg .f64 b then 9223372036854775808 else 0 := by
    rw [BitVec.toNat_and, BitVec.toNat_ofNat, Nat.mod_eq_of_lt (show b < 2 ^ 64 from h)]
    have : (BitVec.ofNat 64 9223372036854775808).toNat = 2 ^ 63 := by decide
    rw [this, and_pow2]
    unfold sg
    rw [D_sw, Nat.testBit_eq_decide_div_mod_eq]
    have h63 : (2 : Nat) ^ 63 = 9223372036854775808 := by decide
    rw [h63]
    by_cases h2 : b / 9223372036854775808 % 2 = 1
    · simp [h2]
    · simp [h2]
  rw [e1, e2]
  split
  · rfl
  · rfl
end Go.Proofs.Ytakaocddhaepmaa
