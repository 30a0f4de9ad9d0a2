/-
  Floats up to the choice of a NaN: the canonical form of a float's bits (none for a NaN), the operations on canonical forms, and the walk's laws for them: an operation gives SOME bits of the canonical form that the plain operation gives, in the world after at most one draw.
-/
import Derived.WalkKit
import Derived.WalkSpells
import Derived.WalkLawsBesides
import Derived.Laws.FloatArith
import Derived.Laws.ComplexArith
import Derived.Deep.Draws
import Derived.Lib.Hide
namespace Go.Proofs.Ytakaocddhaepmaa
open Go.RowKit

/-! ### What is written is no NaN -/
section
open Ieee
theorem word_read (f : Format) (neg : Bool) (rung : Nat) (h : rung ≤ f.infRung) : (f.read (f.word neg rung)).isNaN = false := by
  have hs : f.infRung < f.signWeight := f.infRung_lt
  have e : (f.word neg rung) % f.signWeight = rung := by
    unfold Format.word
    split
    · rw [Nat.add_mod_left, Nat.mod_eq_of_lt (by omega)]
    · exact Nat.mod_eq_of_lt (by omega)
  unfold Format.read
  simp only [e]
  split
  · rfl
  · split
    · rfl
    · split
      · rfl
      · omega
theorem word_fin (f : Format) (neg : Bool) (rung : Nat) (h : rung < f.infRung) : (f.read (f.word neg rung)).isInfinity = false := by
  have hs : f.infRung < f.signWeight := f.infRung_lt
  have e : (f.word neg rung) % f.signWeight = rung := by
    unfold Format.word
    split
    · rw [Nat.add_mod_left, Nat.mod_eq_of_lt (by omega)]
    · exact Nat.mod_eq_of_lt (by omega)
  unfold Format.read
  simp only [e]
  split
  · rfl
  · first | rfl | (rw [if_pos h]; rfl) | (split; rfl; omega)
theorem cut_zero (neg : Bool) (n : Nat) : Toward.even.cut neg n 0 = n := by
  unfold Toward.cut
  simp [Nat.mod_one]
theorem fin_bound (q K : Nat) (h : q ≤ 1149) (hK : K < 2 ^ 53) : q * Ieee.double.binade + K < Ieee.double.infRung := by
  have ei : Ieee.double.infRung = 9218868437227405312 := by decide
  have eb : Ieee.double.binade = 4503599627370496 := by decide
  have e3 : (2 : Nat) ^ 53 = 9007199254740992 := by decide
  rw [ei, eb]; rw [e3] at hK; omega
theorem shift_bound (m : Nat) (hl : m.log2 < 24) : m <<< (52 - m.log2) < 2 ^ 53 := by
  rw [Nat.shiftLeft_eq]
  have a1 : m < 2 ^ (m.log2 + 1) := Nat.lt_log2_self
  have a2 : 2 ^ (m.log2 + 1) * 2 ^ (52 - m.log2) = 2 ^ 53 := by rw [← Nat.pow_add]; congr 1; omega
  have a3 : 0 < 2 ^ (52 - m.log2) := Nat.two_pow_pos _
  rw [← a2]
  exact Nat.mul_lt_mul_of_pos_right a1 a3
theorem nearest_num (f : Format) (neg : Bool) (mag : Nat) (place : Int) : (f.read (f.nearest neg mag place)).isNaN = false := by
  unfold Format.nearest
  dsimp only
  split
  · exact word_read f neg 0 (Nat.zero_le _)
  · exact word_read f neg _ (Nat.min_le_right ..)
theorem write_num (f : Format) (d : Datum) (h : d.isNaN = false) : (f.read (f.write d)).isNaN = false := by
  cases d with
  | number neg mag place => exact nearest_num f neg mag place
  | infinity neg => exact word_read f neg _ (Nat.le_refl _)
  | nan neg fr => simp [Datum.isNaN] at h
theorem sum_num {x y d : Datum} (h : x.sum y = some d) : d.isNaN = false := by
  cases x <;> cases y <;> simp only [Datum.sum] at h <;> first | (cases h; done) | (cases h; rfl) | (split at h <;> cases h; rfl)
theorem product_num {x y d : Datum} (h : x.product y = some d) : d.isNaN = false := by
  cases x <;> cases y <;> simp only [Datum.product] at h <;> first | (cases h; done) | (cases h; rfl) | (split at h <;> cases h; rfl)
theorem quotient_num {n : Nat} {x y d : Datum} (h : x.quotient n y = some d) : d.isNaN = false := by
  cases x <;> cases y <;> simp only [Datum.quotient] at h <;> first | (cases h; done) | (cases h; rfl) | skip
  split at h
  · split at h <;> cases h; rfl
  · cases h; rfl
theorem root_num {n : Nat} {x d : Datum} (h : x.root n = some d) : d.isNaN = false := by
  cases x <;> simp only [Datum.root] at h
  · split at h
    · cases h; rfl
    · split at h <;> cases h; rfl
  · split at h <;> cases h; rfl
  · cases h
theorem sum_nan {x y : Datum} (h : x.isNaN = true ∨ y.isNaN = true) : x.sum y = none := by
  cases x <;> cases y <;> simp [Datum.isNaN] at h <;> rfl
theorem product_nan {x y : Datum} (h : x.isNaN = true ∨ y.isNaN = true) : x.product y = none := by
  cases x <;> cases y <;> simp [Datum.isNaN] at h <;> rfl
theorem quotient_nan {n : Nat} {x y : Datum} (h : x.isNaN = true ∨ y.isNaN = true) : x.quotient n y = none := by
  cases x <;> cases y <;> simp [Datum.isNaN] at h <;> rfl
theorem root_nan {n : Nat} {x : Datum} (h : x.isNaN = true) : x.root n = none := by
  cases x <;> simp [Datum.isNaN] at h; rfl
theorem order_nan {x y : Datum} (h : x.isNaN = true ∨ y.isNaN = true) : x.order y = none := by
  cases x <;> cases y <;> simp [Datum.isNaN] at h <;> rfl
theorem opposite_nan (x : Datum) : x.opposite.isNaN = x.isNaN := by cases x <;> rfl
theorem map_num {f : Format} {o : Option Datum} {r : Nat} (ho : ∀ d, o = some d → d.isNaN = false) (h : o.map f.write = some r) : (f.read r).isNaN = false := by
  cases o with
  | none => cases h
  | some d => cases h; exact write_num f d (ho d rfl)
end

/-! ### The canonical form -/
/-- none: a NaN, whatever its bits; else the bits. -/
@[irreducible] def cn (k : FloatKind) (b : Nat) : Option Nat := if (k.format.read b).isNaN then none else some b
theorem cn_num {k : FloatKind} {b : Nat} (h : (k.format.read b).isNaN = false) : cn k b = some b := by unfold cn; simp [h]
theorem cn_nan {k : FloatKind} {b : Nat} (h : (k.format.read b).isNaN = true) : cn k b = none := by unfold cn; simp [h]
theorem cn_some {k : FloatKind} {b r : Nat} (h : cn k b = some r) : b = r ∧ (k.format.read b).isNaN = false := by
  unfold cn at h; split at h
  · cases h
  · rename_i hn; cases h; exact ⟨rfl, by simpa using hn⟩
theorem cn_none {k : FloatKind} {b : Nat} (h : cn k b = none) : (k.format.read b).isNaN = true := by
  unfold cn at h; split at h
  · assumption
  · cases h

/-- '+', '-', '*', '/' on canonical forms. -/
@[irreducible] def fop (op : BinOp) (k : FloatKind) (x y : Option Nat) : Option Nat := x.bind fun a => y.bind fun b => floatBits op k a b
/-- How two stand to each other. -/
@[irreducible] def ford (k : FloatKind) (x y : Option Nat) : Option Ordering := x.bind fun a => y.bind fun b => k.format.order a b
theorem fop_none_l (op : BinOp) (k : FloatKind) (y : Option Nat) : fop op k none y = none := by unfold fop; rfl
theorem fop_none_r (op : BinOp) (k : FloatKind) (x : Option Nat) : fop op k x none = none := by unfold fop; cases x <;> rfl
theorem fop_some (op : BinOp) (k : FloatKind) (a b : Nat) : fop op k (some a) (some b) = floatBits op k a b := by unfold fop; rfl
theorem ford_none_l (k : FloatKind) (y : Option Nat) : ford k none y = none := by unfold ford; rfl
theorem ford_none_r (k : FloatKind) (x : Option Nat) : ford k x none = none := by unfold ford; cases x <;> rfl
theorem ford_some (k : FloatKind) (a b : Nat) : ford k (some a) (some b) = k.format.order a b := by unfold ford; rfl

theorem floatBits_num {op : BinOp} {k : FloatKind} {x y r : Nat} (h : floatBits op k x y = some r) : (k.format.read r).isNaN = false := by
  unfold floatBits at h
  split at h
  · exact map_num (fun d hd => sum_num hd) h
  · exact map_num (fun d hd => sum_num hd) h
  · exact map_num (fun d hd => product_num hd) h
  · exact map_num (fun d hd => quotient_num hd) h
  · cases h
theorem floatBits_nan {op : BinOp} {k : FloatKind} {x y : Nat} (h : (k.format.read x).isNaN = true ∨ (k.format.read y).isNaN = true) : floatBits op k x y = none := by
  unfold floatBits
  split
  · simp [Ieee.Format.add, sum_nan h]
  · simp [Ieee.Format.sub, sum_nan (x := k.format.read x) (y := (k.format.read y).opposite) (by rw [opposite_nan]; exact h)]
  · simp [Ieee.Format.mul, product_nan h]
  · simp [Ieee.Format.div, quotient_nan h]
  · rfl
theorem floatBits_lt {op : BinOp} {k : FloatKind} {x y r : Nat} (h : floatBits op k x y = some r) : r < 2 ^ k.format.width := by
  unfold floatBits at h
  split at h
  · exact k.format.add_lt h
  · exact k.format.sub_lt h
  · exact k.format.mul_lt h
  · exact k.format.div_lt h
  · cases h

theorem order_cn (k : FloatKind) (a b : Nat) : k.format.order a b = ford k (cn k a) (cn k b) := by
  cases ha : cn k a with
  | none => rw [ford_none_l]; exact order_nan (.inl (cn_none ha))
  | some x =>
    cases hb : cn k b with
    | none => rw [ford_none_r]; exact order_nan (.inr (cn_none hb))
    | some y => rw [ford_some, ← (cn_some ha).1, ← (cn_some hb).1]
theorem floatBits_cn (op : BinOp) (k : FloatKind) (a b : Nat) : floatBits op k a b = fop op k (cn k a) (cn k b) := by
  cases ha : cn k a with
  | none => rw [fop_none_l]; exact floatBits_nan (.inl (cn_none ha))
  | some x =>
    cases hb : cn k b with
    | none => rw [fop_none_r]; exact floatBits_nan (.inr (cn_none hb))
    | some y => rw [fop_some, ← (cn_some ha).1, ← (cn_some hb).1]

/-! ### The NaN that the tape gives is a NaN -/
theorem read_nan (f : Ieee.Format) (s r : Nat) (hb : f.binade ≤ f.infRung) (h1 : f.infRung < r) (h2 : r < f.signWeight) : (f.read (s * f.signWeight + r)).isNaN = true := by
  have e : (s * f.signWeight + r) % f.signWeight = r := by rw [Nat.mul_comm, Nat.mul_add_mod, Nat.mod_eq_of_lt h2]
  unfold Ieee.Format.read
  simp only [e]
  rw [if_neg (by omega), if_neg (by omega), if_neg (by omega)]
  rfl
theorem cut_nan (k : FloatKind) (x y t : Nat) : cn k ((Question.nanBits k x y).cut t) = none ∧ (Question.nanBits k x y).cut t < 2 ^ k.format.width := by
  cases k
  · have h1 : (t / 2) % (2 ^ 23 - 1) < 2 ^ 23 - 1 := Nat.mod_lt _ (by decide)
    have h2 : t % 2 < 2 := Nat.mod_lt _ (by decide)
    have e : (Question.nanBits .f32 x y).cut t = (t % 2) * FloatKind.f32.format.signWeight + (2139095040 + 1 + (t / 2) % (2 ^ 23 - 1)) := by
      show (t % 2) * 2 ^ 31 + 0x7f800000 + 1 + (t / 2) % (2 ^ 23 - 1) = (t % 2) * 2 ^ 31 + _
      omega
    have ew : (2 : Nat) ^ FloatKind.f32.format.width = 4294967296 := by decide
    have es : FloatKind.f32.format.signWeight = 2147483648 := by decide
    have ei : FloatKind.f32.format.infRung = 2139095040 := by decide
    rw [e]
    generalize (t / 2) % (2 ^ 23 - 1) = m at *
    generalize t % 2 = s at *
    have h1' : m < 8388607 := h1
    refine ⟨cn_nan (read_nan _ _ _ (by decide) (by rw [ei]; omega) (by rw [es]; omega)), ?_⟩
    rw [ew, es]; omega
  · have h1 : (t / 2) % (2 ^ 52 - 1) < 2 ^ 52 - 1 := Nat.mod_lt _ (by decide)
    have h2 : t % 2 < 2 := Nat.mod_lt _ (by decide)
    have e : (Question.nanBits .f64 x y).cut t = (t % 2) * FloatKind.f64.format.signWeight + (9218868437227405312 + 1 + (t / 2) % (2 ^ 52 - 1)) := by
      show (t % 2) * 2 ^ 63 + 0x7ff0000000000000 + 1 + (t / 2) % (2 ^ 52 - 1) = (t % 2) * 2 ^ 63 + _
      omega
    have ew : (2 : Nat) ^ FloatKind.f64.format.width = 18446744073709551616 := by decide
    have es : FloatKind.f64.format.signWeight = 9223372036854775808 := by decide
    have ei : FloatKind.f64.format.infRung = 9218868437227405312 := by decide
    rw [e]
    generalize (t / 2) % (2 ^ 52 - 1) = m at *
    generalize t % 2 = s at *
    have h1' : m < 4503599627370495 := h1
    refine ⟨cn_nan (read_nan _ _ _ (by decide) (by rw [ei]; omega) (by rw [es]; omega)), ?_⟩
    rw [ew, es]; omega
theorem cut_nanConv (k : FloatKind) (x t : Nat) : cn k ((Question.nanConv k x).cut t) = none ∧ (Question.nanConv k x).cut t < 2 ^ k.format.width := by
  have := cut_nan k 0 0 t
  cases k <;> exact this

def isArith (op : BinOp) : Bool := op matches .add | .sub | .mul | .quo

section
variable {P : Program}
/-- AN OPERATION ON FLOATS: some bits of the canonical form of the plain operation; at most one draw. -/
theorem run_fop (w : World) (op : BinOp) (hop : isArith op = true) (t : TypeId) (k : FloatKind) (x y : Nat) :
    ∃ r n, (binOp op t (.float k x) (.float k y)).run P w = .ok (.float k r) (w.drewN n) ∧ cn k r = fop op k (cn k x) (cn k y) ∧ r < 2 ^ k.format.width := by
  cases h : floatBits op k x y with
  | some r => exact ⟨r, 0, run_float_arith w op t k x y r h, by rw [← floatBits_cn, h, cn_num (floatBits_num h)], floatBits_lt h⟩
  | none =>
    refine ⟨(Question.nanBits k x y).cut (w.tape w.drawn (.nanBits k x y)), 1, ?_, ?_, (cut_nan k x y _).2⟩
    · unfold floatBits at h
      cases op <;> simp [isArith] at hop <;> simp only at h <;> simp [binOp, Op.floatArith, h, Question.forced] <;> rfl
    · rw [← floatBits_cn, h]; exact (cut_nan k x y _).1

variable {ops : Array Oper} {rest : List Oper} {o : Oper} {a : Act} {w : World} {Q : Exit → Act → World → Prop}
theorem wpList_wanted (hw : Region.wanted o (yielded ops a.tmps) = true)
    (h : ∀ K : Act → World → Prop, (∀ a w, wpList P ops Q rest a w → K a w) → o.wp P a w K Q) : wpList P ops Q (o :: rest) a w :=
  wpList_step fun K hK => by rw [if_pos hw]; exact h K hK
/-- ONE OPERATION OF THE WALK. -/
theorem wpList_fop (hgd : Region.wanted o (yielded ops a.tmps) = true) (op : BinOp) (t : TypeId) (x y : Operand) (ty : TypeId) (ho : o.op = .binOp op t x y ty) (hop : isArith op = true)
    (k : FloatKind) (bx bY : Nat) (hx : a.eval x = .float k bx) (hy : a.eval y = .float k bY)
    (h : ∀ r n, cn k r = fop op k (cn k bx) (cn k bY) → r < 2 ^ k.format.width → wpList P ops Q rest (a.put o.dst (.float k r)) (w.drewN n)) : wpList P ops Q (o :: rest) a w := by
  refine wpList_wanted hgd fun K hK => ?_
  obtain ⟨r, n, hr, h1, h2⟩ := run_fop (P := P) w op hop t k bx bY
  have he : (execOp a.eval o).run P w = .ok (.value (.float k r)) (w.drewN n) := by
    unfold execOp
    have hg : eqGuard op t x y (.float k bx) (.float k bY) = pure () := by cases op <;> simp [isArith] at hop <;> rfl
    simp [ho, hx, hy, hg, hr]
  unfold Oper.wp
  rw [he]
  exact hK _ _ (h r n h1 h2)

/-! ### Conversions between the two kinds, and to integers -/
theorem conv_num {s d : FloatKind} {b r : Nat} (hb : (s.format.read b).isNaN = false) (h : floatToFloatBits s b d = some r) : (d.format.read r).isNaN = false := by
  unfold floatToFloatBits at h
  split at h
  · rename_i e; cases h; subst e; exact hb
  · split at h
    · cases h
    · cases h; exact write_num d.format (.infinity _) rfl
    · split at h
      · cases h
      · cases h; exact write_num d.format (.number ..) rfl
theorem conv_nan {s d : FloatKind} {b : Nat} (hne : s ≠ d) (hb : (s.format.read b).isNaN = true) : floatToFloatBits s b d = none := by
  unfold floatToFloatBits
  rw [if_neg hne]
  have : (s.decode b).isNaN = true := hb
  generalize s.decode b = x at this
  cases x <;> simp [Ieee.Datum.isNaN] at this
  rfl
theorem conv_lt {s d : FloatKind} {b r : Nat} (hne : s ≠ d) (h : floatToFloatBits s b d = some r) : r < 2 ^ d.format.width := by
  unfold floatToFloatBits at h
  rw [if_neg hne] at h
  split at h
  · cases h
  · cases h; exact d.format.write_lt _
  · split at h
    · cases h
    · cases h; exact d.format.write_lt _
/-- The conversion on canonical forms; none also where a finite number is too great. -/
@[irreducible] def cvF (s d : FloatKind) (x : Option Nat) : Option Nat := x.bind fun b => floatToFloatBits s b d
theorem cvF_none (s d : FloatKind) : cvF s d none = none := by unfold cvF; rfl
theorem cvF_some (s d : FloatKind) (b : Nat) : cvF s d (some b) = floatToFloatBits s b d := by unfold cvF; rfl
/-- A NaN, or a number that the other kind has. -/
@[irreducible] def fits (s d : FloatKind) (x : Option Nat) : Prop := x = none ∨ (cvF s d x).isSome = true
theorem run_cvF (w : World) (src dst : TypeId) (s d : FloatKind) (hne : s ≠ d) (b : Nat) (hs : (P.underlying src).isSome = true) (hd : P.underlying dst = some (.float d)) (hok : fits s d (cn s b)) :
    ∃ r n, (convert src dst (.float s b)).run P w = .ok (.float d r) (w.drewN n) ∧ cn d r = cvF s d (cn s b) ∧ r < 2 ^ d.format.width := by
  cases hc : cn s b with
  | none =>
    have hnan := cn_none hc
    obtain ⟨u, hs'⟩ := Option.isSome_iff_exists.1 hs
    have hx : (s.decode b).isNaN = true := hnan
    refine ⟨(Question.nanConv d b).cut (w.tape w.drawn (.nanConv d b)), 1, ?_, ?_, (cut_nanConv d b _).2⟩
    · cases hq : s.decode b with
      | number a1 a2 a3 => rw [hq] at hx; simp [Ieee.Datum.isNaN] at hx
      | infinity a1 => rw [hq] at hx; simp [Ieee.Datum.isNaN] at hx
      | nan a1 a2 => cases u <;> simp [convert, run_underlying hs', run_underlying hd, Conv.floatToFloat, hne, hq, Question.forced] <;> rfl
    · rw [cvF_none]; exact (cut_nanConv d b _).1
  | some x =>
    obtain ⟨hbx, hnum⟩ := cn_some hc
    rw [hc] at hok
    unfold fits at hok
    rcases hok with h | h
    · cases h
    · obtain ⟨r, hr⟩ := Option.isSome_iff_exists.1 h
      rw [cvF_some] at hr
      refine ⟨r, 0, run_convert_float_float w src dst s d b r hs hd (by rw [hbx]; exact hr), ?_, conv_lt hne hr⟩
      rw [cvF_some, hr, cn_num (conv_num (by rw [← hbx]; exact hnum) hr)]
theorem wpList_cvF (hgd : Region.wanted o (yielded ops a.tmps) = true) (src dst : TypeId) (x : Operand) (ho : o.op = .convert src dst x) (s d : FloatKind) (hne : s ≠ d) (b : Nat) (hx : a.eval x = .float s b)
    (hs : (P.underlying src).isSome = true) (hd : P.underlying dst = some (.float d)) (hok : fits s d (cn s b))
    (h : ∀ r n, cn d r = cvF s d (cn s b) → r < 2 ^ d.format.width → wpList P ops Q rest (a.put o.dst (.float d r)) (w.drewN n)) : wpList P ops Q (o :: rest) a w := by
  refine wpList_wanted hgd fun K hK => ?_
  obtain ⟨r, n, hr, h1, h2⟩ := run_cvF (P := P) w src dst s d hne b hs hd hok
  have he : (execOp a.eval o).run P w = .ok (.value (.float d r)) (w.drewN n) := by
    unfold execOp
    simp [ho, hx, hr]
  unfold Oper.wp
  rw [he]
  exact hK _ _ (h r n h1 h2)

/-- A float32's number is a float64's. -/
theorem fits_up (x : Nat) : fits .f32 .f64 (cn .f32 x) := by
  unfold fits
  cases hc : cn .f32 x with
  | none => exact .inl rfl
  | some b =>
    refine .inr ?_
    rw [cvF_some]
    unfold floatToFloatBits
    rw [if_neg (by decide)]
    obtain ⟨hbx, hnum⟩ := cn_some hc
    subst hbx
    have hnum' : (FloatKind.f32.decode x).isNaN = false := hnum
    split
    · rename_i h; rw [h] at hnum'; simp [Ieee.Datum.isNaN] at hnum'
    · rfl
    · rename_i s m e hd
      have hfin : (FloatKind.f64.decode (FloatKind.f64.encode (.number s m e))).isInfinity = false := by
        have hb : m < 2 ^ 24 ∧ -149 ≤ e ∧ e ≤ 104 := by
          unfold FloatKind.decode Ieee.Format.read at hd
          have es : FloatKind.f32.format.signWeight = 2147483648 := by decide
          have ei : FloatKind.f32.format.infRung = 2139095040 := by decide
          have eb : FloatKind.f32.format.binade = 8388608 := by decide
          have el : FloatKind.f32.format.leastPlace = -149 := by decide
          simp only [es, ei, eb, el] at hd
          split at hd
          · cases hd; omega
          · split at hd
            · cases hd
              rename_i h1 h2
              refine ⟨?_, ?_, ?_⟩ <;> omega
            · split at hd <;> cases hd
        obtain ⟨h1, h2, h3⟩ := hb
        show ((Ieee.double).read ((Ieee.double).nearest s m e)).isInfinity = false
        unfold Ieee.Format.nearest
        dsimp only
        split
        · cases s <;> decide
        · rename_i hm
          have hl : m.log2 < 24 := (Nat.log2_lt hm).2 h1
          have hlast : max (e + m.log2 - (Ieee.double.fractionBits : Nat)) Ieee.double.leastPlace = e + m.log2 - 52 := by
            show max (e + m.log2 - (52 : Nat)) (-1074) = _
            omega
          rw [hlast]
          have h4 : (e + ↑m.log2 - 52 - e).toNat = 0 := by omega
          have h5 : (e - (e + ↑m.log2 - 52)).toNat = 52 - m.log2 := by omega
          have el2 : Ieee.double.leastPlace = -1074 := by decide
          rw [h4, h5, cut_zero, el2]
          have h7 : (e + ↑m.log2 - 52 - -1074).toNat ≤ 1149 := by omega
          exact word_fin _ _ _ (Nat.lt_of_le_of_lt (Nat.min_le_left ..) (fin_bound _ _ h7 (shift_bound m hl)))
      simp [hfin]
/-- float32 to float64. -/
theorem wpList_up (hgd : Region.wanted o (yielded ops a.tmps) = true) (src dst : TypeId) (x : Operand) (ho : o.op = .convert src dst x) (b : Nat) (hx : a.eval x = .float .f32 b)
    (hs : P.underlying src = some (.float .f32)) (hd : P.underlying dst = some (.float .f64))
    (h : ∀ r n, cn .f64 r = cvF .f32 .f64 (cn .f32 b) → r < 2 ^ FloatKind.f64.format.width → wpList P ops Q rest (a.put o.dst (.float .f64 r)) (w.drewN n)) : wpList P ops Q (o :: rest) a w :=
  wpList_cvF hgd src dst x ho .f32 .f64 (by decide) b hx (by rw [hs]; rfl) hd (fits_up b) h
/-- float64 to float32, of what float32 has. -/
theorem wpList_down (hgd : Region.wanted o (yielded ops a.tmps) = true) (src dst : TypeId) (x : Operand) (ho : o.op = .convert src dst x) (b : Nat) (hx : a.eval x = .float .f64 b)
    (hs : P.underlying src = some (.float .f64)) (hd : P.underlying dst = some (.float .f32)) (hok : fits .f64 .f32 (cn .f64 b))
    (h : ∀ r n, cn .f32 r = cvF .f64 .f32 (cn .f64 b) → r < 2 ^ FloatKind.f32.format.width → wpList P ops Q rest (a.put o.dst (.float .f32 r)) (w.drewN n)) : wpList P ops Q (o :: rest) a w :=
  wpList_cvF hgd src dst x ho .f64 .f32 (by decide) b hx (by rw [hs]; rfl) hd hok h
end
end Go.Proofs.Ytakaocddhaepmaa
