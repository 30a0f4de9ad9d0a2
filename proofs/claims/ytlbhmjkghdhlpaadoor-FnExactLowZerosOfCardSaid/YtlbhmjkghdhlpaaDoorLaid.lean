/-
  What the listed variables hold: the tables, cell by cell.
-/
import Derived.Test.YtlbhmjkghdhlpaaDoorLow
import Derived.LaidMore
import Derived.Lib.LaidTab
import Derived.MakeChecks
namespace Go.Proofs.YtlbhmjkghdhlpaaDoor
open Go.ChangeShapes Go.WideShapes

theorem gTab32 : Tryd.prog.globalNamed "math/bits.deBruijn32tab" = some 0 := by kernel_rfl
def zs32 : List Int := Lib.deBruijn32tab.map fun (n : Nat) => (n : Int)
theorem tab32_of {rest : List (String × DataW Unit)} {W : World} (h : laidMet Tryd.prog (("math/bits.deBruijn32tab", Rows.laid_math_bits_deBruijn32tab) :: rest) W) : Tab32 W := by
  have h' : laidMet Tryd.prog (("math/bits.deBruijn32tab", Lib.tabData .u8 zs32) :: rest) W := h
  have hT := Lib.tabIs_of_head gTab32 (t := 47) (e := 5) (by kernel_rfl) Tryd.underlying47 Tryd.underlying5 (by kernel_rfl) (by kernel_rfl) h'
  intro j hj
  have := hT.cell gTab32 j (by show j < zs32.length; unfold zs32; rw [List.length_map]; exact hj)
  rw [this]
  unfold zs32
  have hl : j < Lib.deBruijn32tab.length := hj
  simp [List.getD, List.getElem?_eq_getElem hl]
end Go.Proofs.YtlbhmjkghdhlpaaDoor
