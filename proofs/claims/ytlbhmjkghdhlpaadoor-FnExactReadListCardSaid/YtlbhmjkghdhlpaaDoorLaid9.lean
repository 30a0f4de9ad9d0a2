/-
  What the listed variables hold: the powers of ten; the two errors of the readers of numbers.
-/
import Derived.Test.YtlbhmjkghdhlpaaDoorShelf
import Derived.Test.YtlbhmjkghdhlpaaDoorRows
import Derived.Stop.LaidErr
import Derived.LaidMore
import Derived.Lib.LaidTab
import Derived.Below
import Derived.MakeChecks
namespace Go.Proofs.YtlbhmjkghdhlpaaDoor
open Go.RowKit Go.ChangeShapes Go.WideShapes

theorem gPow10 : Tryd.prog.globalNamed "internal/strconv.uint64pow10" = some 1 := by kernel_rfl
/-- The powers of ten lie in their table. -/
def PowT (w : World) : Prop := Lib.TabIs Tryd.prog w "internal/strconv.uint64pow10" .u64 Lib.pow10Tab
theorem PowT.below {w w' : World} (h : PowT w) (hb : Below w.heap.size w w') : PowT w' := by
  unfold PowT Lib.TabIs World.var? at h ⊢
  rw [gPow10] at h ⊢
  simp only [Option.bind_some] at h ⊢
  have hlt : 1 < w.heap.size := by
    rcases Nat.lt_or_ge 1 w.heap.size with h' | h'
    · exact h'
    · rw [Array.getElem?_eq_none h'] at h; cases h
  rw [hb.block _ hlt]
  exact h
theorem PowT.more {w w' : World} {B : Nat} (h : PowT w) (hB : w.heap.size ≤ B) (hb : Below B w w') : PowT w' := h.below ⟨hb.os, hb.tape, hb.output, hb.size, fun k hk => hb.block k (by omega)⟩
theorem pow_of {rest : List (String × DataW Unit)} {W : World} (h : laidMet Tryd.prog (("internal/strconv.uint64pow10", Rows.laid_internal_strconv_uint64pow10) :: rest) W) : PowT W := by
  have h' : laidMet Tryd.prog (("internal/strconv.uint64pow10", Lib.tabData .u64 Lib.pow10Tab) :: rest) W := h
  exact Lib.tabIs_of_head gPow10 (t := 71) (e := 56) (by kernel_rfl) Tryd.underlying71 Tryd.underlying56 (by kernel_rfl) (by kernel_rfl) h'

theorem gErrS : Tryd.prog.globalNamed "strconv.ErrSyntax" = some 2 := by kernel_rfl
theorem gErrR : Tryd.prog.globalNamed "strconv.ErrRange" = some 3 := by kernel_rfl
theorem star : "*" ++ "errors.errorString" = "*errors.errorString" := by decide
theorem rowErr (u : TypeId) (h : Tryd.prog.typeName? 3 u = some "*errors.errorString") : u = 89 :=
  typeName_ptr_named (nm := "errors.errorString") (by rw [star]; kernel_rfl) (by kernel_rfl) (by decide) u (by rw [star]; exact h)
/-- Both errors lie in their variables. -/
def ErrT (w : World) : Prop := (∃ tp p, w.cell? ⟨2, 0, none⟩ = some (.iface tp p)) ∧ ∃ tp p, w.cell? ⟨3, 0, none⟩ = some (.iface tp p)
theorem cell_below' {w w' : World} {a : Addr} {v : Value} (hb : Below w.heap.size w w') (h : w.cell? a = some v) : w'.cell? a = some v := (hb.cell (World.block_lt_of_cell? _ _ h)).trans h
theorem ErrT.below {w w' : World} (h : ErrT w) (hb : Below w.heap.size w w') : ErrT w' := by
  obtain ⟨⟨t1, p1, h1⟩, t2, p2, h2⟩ := h
  exact ⟨⟨t1, p1, cell_below' hb h1⟩, t2, p2, cell_below' hb h2⟩
theorem errS_of {r : List (String × DataW Unit)} {w : World} (h : laidMet Tryd.prog (("strconv.ErrSyntax", Rows.laid_strconv_ErrSyntax) :: r) w) : ∃ tp p, w.cell? ⟨2, 0, none⟩ = some (.iface tp p) := by
  have h' : laidMet Tryd.prog (("strconv.ErrSyntax", .iface "*errors.errorString" (.ptr (.agg [.lit (.string [105, 110, 118, 97, 108, 105, 100, 32, 115, 121, 110, 116, 97, 120])]))) :: r) w := h
  obtain ⟨a0, s0, hv0, -, -, -⟩ := laid_sentinel h' gErrS (by kernel_rfl) Tryd.underlying42 rowErr Tryd.underlying89 Tryd.underlying91 rfl rfl Tryd.underlying9 (by kernel_rfl) (by kernel_rfl)
  exact ⟨_, _, by have h0 := World.var?_cell gErrS hv0 0; simpa using h0⟩
theorem errR_of {r : List (String × DataW Unit)} {w : World} (h : laidMet Tryd.prog (("strconv.ErrRange", Rows.laid_strconv_ErrRange) :: r) w) : ∃ tp p, w.cell? ⟨3, 0, none⟩ = some (.iface tp p) := by
  have h' : laidMet Tryd.prog (("strconv.ErrRange", .iface "*errors.errorString" (.ptr (.agg [.lit (.string [118, 97, 108, 117, 101, 32, 111, 117, 116, 32, 111, 102, 32, 114, 97, 110, 103, 101])]))) :: r) w := h
  obtain ⟨a0, s0, hv0, -, -, -⟩ := laid_sentinel h' gErrR (by kernel_rfl) Tryd.underlying42 rowErr Tryd.underlying89 Tryd.underlying91 rfl rfl Tryd.underlying9 (by kernel_rfl) (by kernel_rfl)
  exact ⟨_, _, by have h0 := World.var?_cell gErrR hv0 0; simpa using h0⟩
end Go.Proofs.YtlbhmjkghdhlpaaDoor
