/- The walk of the law FnExactAreKeys: it returns true, for every list. -/
import Derived.Test.YtcimnklgkdnaaaaKeys
namespace Go.Proofs.Ytcimnklgkdnaaaa.fnExactAreKeys
open Go.RowKit
set_option maxHeartbeats 1000000 in
theorem walk (A : Option Addr) (n c : Nat) (zs : List Int) (w : World) (h0 : Arg .i64 w A n zs) :
    Calls Try.prog 3 #[.slice A n c] w fun e w' => e = .returned (.bool true) ∧ Below w.heap.size w w' := by
  obtain ⟨h, _⟩ := h0
  by_cases hn : n ≤ 1048576
  · go_enter Try.func3, Try.ntmps3
    go_wp2_with fail
    refine (toS_any _ _ _ _ _ h hn).mono ?_
    rintro e w1 ⟨rfl, ho1, hg1⟩
    have b1 := below_of_grown hg1 (by simp)
    go_wp2_with fail
    refine (sAreKeys_any _ _ _ _ _ _ (Lies.of_own ho1) hn).mono ?_
    rintro e w' ⟨rfl, rfl⟩
    go_wp2_with fail
    have h1 := (h.below b1).more b1.size
    refine (toS_any _ _ _ _ _ h1 hn).mono ?_
    rintro e w2 ⟨rfl, ho2, hg2⟩
    have b2 := b1.trans ((below_of_grown hg2 (by simp)).mono b1.size)
    go_wp2_with fail
    refine (AreKeys_any _ _ _ _ _ _ (Lies.of_own ho2) hn).mono ?_
    rintro e w' ⟨rfl, rfl⟩
    go_wp2_with fail
    have h2 := (h.below b2).more b2.size
    refine (toS_any _ _ _ _ _ h2 hn).mono ?_
    rintro e w3 ⟨rfl, ho3, hg3⟩
    have b23 := below_of_grown hg3 (by simp)
    have b3 := b2.trans (b23.mono b2.size)
    go_wp2_with fail
    refine (eqS_any _ _ _ _ _ _ _ _ _ _ _ (Lies.of_own (own_below ho2 b23)) (Lies.of_own ho3) hn hn).mono ?_
    rintro e w' ⟨m, rfl, rfl⟩
    simp only [decide_true]
    go_wp2
    go_ret
    exact ⟨rfl, below_dn b3 _⟩
  · go_enter Try.func3, Try.ntmps3
    go_wp2
    go_ret
    exact ⟨rfl, Below.refl _ _⟩
end Go.Proofs.Ytcimnklgkdnaaaa.fnExactAreKeys
