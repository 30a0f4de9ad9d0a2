/- The walk of the law FnExactHomeOf: it returns true, for all arguments. -/
import Derived.Test.YtcimnklgkdnaaaaHome
namespace Go.Proofs.Ytcimnklgkdnaaaa.fnExactHomeOf
open Go.RowKit
set_option maxHeartbeats 1000000 in
set_option maxRecDepth 100000 in
theorem walk (k : Int) (A : Option Addr) (n c : Nat) (zs : List Int) (w : World) (_wk : (Lit.int .i64 k).wf = true) (h0 : Arg .i64 w A n zs) :
    Calls Try.prog 4 #[.int .i64 k, .slice A n c] w fun e w' => e = .returned (.bool true) ∧ Below w.heap.size w w' := by
  obtain ⟨h, _⟩ := h0
  by_cases hn : n ≤ 1048576
  · go_enter Try.func4, Try.ntmps4
    go_wp2_with fail
    refine (toS_any _ _ _ _ _ h hn).mono ?_
    rintro e w1 ⟨rfl, ho1, hg1⟩
    have b1 := below_of_grown hg1 (by simp)
    go_wp2_with fail
    refine (sHomeOf_any _ _ _ _ _ _ _ (Lies.of_own ho1) hn).mono ?_
    rintro e w' ⟨m1, rfl, rfl⟩
    have b2 := below_dn b1 m1
    clear ho1 hg1
    generalize w1.drewN m1 = w2 at *
    go_wp2_with fail
    refine (toS_any _ _ _ _ _ ((h.below b2).more b2.size) hn).mono ?_
    rintro e w3 ⟨rfl, ho3, hg3⟩
    have b3 := b2.trans ((below_of_grown hg3 (by simp)).mono b2.size)
    go_wp2_with fail
    refine (HomeOf_any _ _ _ _ _ _ _ (Lies.of_own ho3) hn).mono ?_
    rintro e w' ⟨m3, rfl, rfl⟩
    have b4 := below_dn b3 m3
    have ho4 := own_dn ho3 m3
    clear ho3 hg3
    generalize w3.drewN m3 = w4 at *
    go_wp2_with fail
    refine (toS_any _ _ _ _ _ ((h.below b4).more b4.size) hn).mono ?_
    rintro e w5 ⟨rfl, ho5, hg5⟩
    have bb5 := below_of_grown hg5 (by simp)
    have b5 := b4.trans (bb5.mono b4.size)
    go_wp2_with fail
    refine (eqS_any _ _ _ _ _ _ _ _ _ _ _ (Lies.of_own (own_below ho4 bb5)) (Lies.of_own ho5) hn hn).mono ?_
    rintro e w' ⟨m5, rfl, rfl⟩
    simp only [decide_true]
    go_wp2
    go_ret
    exact ⟨rfl, below_dn b5 _⟩
  · go_enter Try.func4, Try.ntmps4
    go_wp2
    go_ret
    exact ⟨rfl, Below.refl _ _⟩
end Go.Proofs.Ytcimnklgkdnaaaa.fnExactHomeOf
