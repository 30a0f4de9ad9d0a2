/-
  Contract of Decimal: the library's numeral, and its twin's.
-/
import Derived.Test.YtlbhmjkghdhlpaaDoorLaid9
import Derived.Test.YtlbhmjkghdhlpaaDoorDecN
namespace Go.Proofs.YtlbhmjkghdhlpaaDoor
open Go.RowKit Go.Lib

theorem below_grew (w : World) (q : Nat) (os : Array Obj) : Below w.heap.size w (Sort.grow (w.drewN q) os) :=
  ⟨rfl, rfl, rfl, by first | (simp [Sort.grow]; done) | (simp [Sort.grow]; omega), fun i hi => by
    show ((w.drewN q).heap ++ os)[i]? = _
    rw [Array.getElem?_append_left (by show i < w.heap.size; omega)]
    rfl⟩
theorem FormatInt_any (n : Int) (w : World) (h : (Lit.int .i64 n).wf = true) (hT : PowT w) : Calls Tryd.prog 26 #[.int .i64 n, .int .i64 10] w fun e w' => e = .returned (.string ⟨(itoa n).toArray⟩) ∧ Below w.heap.size w w' := by
  have hw := i64_of_wf h
  refine (Tryd.strconv_FormatInt_10 n hw.1 hw.2 w hT).mono ?_
  rintro e w' ⟨rfl, k, os, rfl⟩
  exact ⟨rfl, below_grew w k os⟩
set_option maxHeartbeats 400000 in
theorem Decimal_any (n : Int) (w : World) (h : (Lit.int .i64 n).wf = true) (hT : PowT w) : Calls Tryd.prog 11 #[.int .i64 n] w fun e w' => e = .returned (.string ⟨(itoa n).toArray⟩) ∧ Below w.heap.size w w' := by
  have HT := Lib.hid hT
  have HW := Lib.hid h
  clear h hT
  go_enter Tryd.func11, Tryd.ntmps11
  go_wp2_with (go_at_call 26; refine (FormatInt_any _ _ HW.out HT.out).mono ?_; rintro e w' ⟨rfl, hb⟩)
  go_ret
  exact ⟨rfl, hb⟩
set_option maxHeartbeats 400000 in
theorem sDecimal_any (n : Int) (w : World) (h : (Lit.int .i64 n).wf = true) : Calls Tryd.prog 10 #[.int .i64 n] w fun e w' => e = .returned (.string ⟨(itoa n).toArray⟩) ∧ Below w.heap.size w w' := by
  have HW := Lib.hid h
  clear h
  go_enter Tryd.func10, Tryd.ntmps10
  go_wp2_with (go_at_call 25; refine (l01Dec_any _ _ HW.out).mono ?_; rintro e w' ⟨rfl, hb⟩)
  go_ret
  exact ⟨rfl, hb⟩
end Go.Proofs.YtlbhmjkghdhlpaaDoor
