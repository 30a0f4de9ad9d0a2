/- The walk of the law FnExactListText: it returns true, for all arguments, where the listed tables hold what is listed. -/
import Derived.Test.YtlbhmjkghdhlpaaDoorLText2
namespace Go.Proofs.YtlbhmjkghdhlpaaDoor.fnExactListText
open Go.RowKit Go.Lib
set_option maxHeartbeats 1000000 in
theorem walk (A : Option Addr) (n c : Nat) (zs : List Int) (w : World) (h0 : Arg .i64 w A n zs) (hL : laidMet Tryd.prog Rows.fnExactListTextRow.laid w) :
    Calls Tryd.prog 6 #[.slice A n c] w fun e w' => e = .returned (.bool true) ∧ Below w.heap.size w w' := by
  have HT := Lib.hid (show PowT w from pow_of (rest := []) hL.tail.tail)
  obtain ⟨h, _⟩ := h0
  clear hL
  by_cases hn : n ≤ 1048576
  · go_enter Tryd.func6, Tryd.ntmps6
    go_wp2_with fail
    refine (toS_any _ _ _ _ _ h hn).mono ?_
    rintro e w1 ⟨rfl, ho1, hg1⟩
    have b1 := below_of_grown hg1 (by simp)
    go_wp2_with fail
    refine (sListText_any _ _ _ _ _ (Lies.of_own ho1) hn).mono ?_
    rintro e w2 ⟨rfl, bb2⟩
    have b2 := b1.trans (bb2.mono b1.size)
    clear ho1 hg1
    go_wp2_with fail
    refine (toS_any _ _ _ _ _ ((h.below b2).more b2.size) hn).mono ?_
    rintro e w3 ⟨rfl, ownx, hg3⟩
    have bb3 := below_of_grown hg3 (by simp)
    have b3 := b2.trans (bb3.mono b2.size)
    have HT3 := Lib.hid (HT.out.below b3)
    clear hg3
    go_wp2_with fail
    refine (ListText_any _ _ _ _ _ (Lies.of_own ownx) hn HT3.out).mono ?_
    rintro e w4 ⟨rfl, bb4⟩
    have b4 := b3.trans (bb4.mono b3.size)
    have ownx := own_below ownx bb4
    go_wp2_with fail
    refine (toS_any _ _ _ _ _ ((h.below b4).more b4.size) hn).mono ?_
    rintro e w6 ⟨rfl, ho6, hg6⟩
    have bb6 := below_of_grown hg6 (by simp)
    have b6 := b4.trans (bb6.mono b4.size)
    have ownx := own_below ownx bb6
    go_wp2_with fail
    refine (eqS_any _ _ _ _ _ _ _ _ _ _ _ (Lies.of_own ownx) (Lies.of_own ho6) hn hn).mono ?_
    rintro e w' ⟨m, rfl, rfl⟩
    simp only [decide_true]
    have b6 := below_dn b6 m
    go_wp2
    go_ret
    exact ⟨rfl, b6⟩
  · go_enter Tryd.func6, Tryd.ntmps6
    go_wp2
    go_ret
    exact ⟨rfl, Below.refl _ _⟩
end Go.Proofs.YtlbhmjkghdhlpaaDoor.fnExactListText
