/- The walk of the law FnExactMeetingsOf: it returns true, for all arguments. -/
import Derived.Test.YtcimnklgkdnaaaaMeet
namespace Go.Proofs.Ytcimnklgkdnaaaa.fnExactMeetingsOf
open Go.RowKit
set_option maxHeartbeats 1000000 in
set_option maxRecDepth 100000 in
theorem walk (A : Option Addr) (n c : Nat) (zs : List Int) (s : Int) (m : Int) (w : World) (h0 : Arg .i64 w A n zs) (_ws : (Lit.int .i64 s).wf = true) (_wm : (Lit.int .i64 m).wf = true) :
    Calls Try.prog 5 #[.slice A n c, .int .i64 s, .int .i64 m] w fun e w' => e = .returned (.bool true) ∧ Below w.heap.size w w' := by
  obtain ⟨h, _⟩ := h0
  by_cases hn : n ≤ 1048576
  · go_enter Try.func5, Try.ntmps5
    go_wp2_with fail
    refine (toS_any _ _ _ _ _ h hn).mono ?_
    rintro e w1 ⟨rfl, ho1, hg1⟩
    have b1 := below_of_grown hg1 (by simp)
    go_wp2_with fail
    refine (sMeetingsOf_any _ _ _ _ _ _ _ (Lies.of_own ho1) hn).mono ?_
    rintro e w2 ⟨rfl, bb2⟩
    have b2 := b1.trans (bb2.mono b1.size)
    clear ho1 hg1
    go_wp2_with fail
    refine (toS_any _ _ _ _ _ ((h.below b2).more b2.size) hn).mono ?_
    rintro e w3 ⟨rfl, ho3, hg3⟩
    have b3 := b2.trans ((below_of_grown hg3 (by simp)).mono b2.size)
    go_wp2_with fail
    refine (MeetingsOf_any _ _ _ _ _ _ _ (Lies.of_own ho3) hn).mono ?_
    rintro e w4 ⟨rfl, bb4⟩
    have b4 := b3.trans (bb4.mono b3.size)
    have ho4 := own_below ho3 bb4
    clear ho3 hg3
    go_wp2_with fail
    refine (toS_any _ _ _ _ _ ((h.below b4).more b4.size) hn).mono ?_
    rintro e w5 ⟨rfl, ho5, hg5⟩
    have bb5 := below_of_grown hg5 (by simp)
    have b5 := b4.trans (bb5.mono b4.size)
    go_wp2_with fail
    refine (eqS_any _ _ _ _ _ _ _ _ _ _ _ (Lies.of_own (own_below ho4 bb5)) (Lies.of_own ho5) hn hn).mono ?_
    rintro e w' ⟨m5, rfl, rfl⟩
    simp only [decide_true]
    go_wp2
    go_ret
    exact ⟨rfl, below_dn b5 _⟩
  · go_enter Try.func5, Try.ntmps5
    go_wp2
    go_ret
    exact ⟨rfl, Below.refl _ _⟩
end Go.Proofs.Ytcimnklgkdnaaaa.fnExactMeetingsOf
