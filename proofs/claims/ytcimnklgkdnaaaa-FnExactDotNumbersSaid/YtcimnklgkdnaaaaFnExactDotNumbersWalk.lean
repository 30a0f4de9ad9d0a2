/- The walk of the law FnExactDotNumbers: it returns true, for all lists. -/
import Derived.Test.YtcimnklgkdnaaaaSums
namespace Go.Proofs.Ytcimnklgkdnaaaa.fnExactDotNumbers
open Go.RowKit
set_option maxHeartbeats 1600000 in
set_option maxRecDepth 100000 in
theorem walk (A : Option Addr) (n c : Nat) (zs : List Nat) (A' : Option Addr) (n' c' : Nat) (ys : List Nat) (w : World) (h0 : ArgF w A n zs) (h0' : ArgF w A' n' ys) :
    Calls Try.prog 11 #[.slice A n c, .slice A' n' c'] w fun e w' => e = .returned (.bool true) ∧ Below w.heap.size w w' := by
  obtain ⟨h, _⟩ := h0
  obtain ⟨h', _⟩ := h0'
  by_cases hn : n ≤ 1048576
  · by_cases hn' : n' ≤ 1048576
    · go_enter Try.func11, Try.ntmps11
      go_wp2_with fail
      refine (toF_any _ _ _ _ _ h hn).mono ?_
      rintro e w1 ⟨rfl, ho1, hg1⟩
      have bb1 := below_of_grown hg1 (by simp)
      have b1 := bb1
      clear hg1
      go_wp2_with fail
      refine (toF_any _ _ _ _ _ ((h'.below b1).more b1.size) hn').mono ?_
      rintro e w2 ⟨rfl, ho2, hg2⟩
      have bb2 := below_of_grown hg2 (by simp)
      have b2 := b1.trans (bb2.mono b1.size)
      have ho1 := own_below ho1 bb2
      clear hg2
      go_wp2_with fail
      refine (sDotNumbers_any _ _ _ _ _ _ _ _ _ _ _ (Lies.of_own ho1) (Lies.of_own ho2) hn hn').mono ?_
      rintro e w' ⟨r1, m1, rfl, hr1, rfl⟩
      have HR1 := Lib.hid hr1
      have b3 := below_dn b2 m1
      clear ho1 ho2 hr1
      generalize w2.drewN m1 = w3 at *
      go_wp2_with fail
      refine (toF_any _ _ _ _ _ ((h.below b3).more b3.size) hn).mono ?_
      rintro e w4 ⟨rfl, ho4, hg4⟩
      have b4 := b3.trans ((below_of_grown hg4 (by simp)).mono b3.size)
      clear hg4
      go_wp2_with fail
      refine (toF_any _ _ _ _ _ ((h'.below b4).more b4.size) hn').mono ?_
      rintro e w5 ⟨rfl, ho5, hg5⟩
      have bb5 := below_of_grown hg5 (by simp)
      have b5 := b4.trans (bb5.mono b4.size)
      have ho4 := own_below ho4 bb5
      clear hg5
      go_wp2_with fail
      refine (DotNumbers_any _ _ _ _ _ _ _ _ _ _ _ (Lies.of_own ho4) (Lies.of_own ho5) hn hn').mono ?_
      rintro e w' ⟨r2, m3, rfl, hr2, rfl⟩
      have HR2 := Lib.hid hr2
      have b6 := below_dn b5 m3
      have ho4 := own_dn ho4 m3
      have ho5 := own_dn ho5 m3
      clear hr2
      generalize w5.drewN m3 = w6 at *
      have t1 : True := trivial
      go_wp2_with (first
        | (have _t := t1; refine wpList_up rfl _ _ _ rfl _ rfl Try.underlying47 Try.underlying52 ?_; intro q1 n1 hq1 hqb1; have HQ1 := Lib.hid hq1; clear hq1 t1)
        | (refine wpList_up rfl _ _ _ rfl _ rfl Try.underlying47 Try.underlying52 ?_; intro q2 n2 hq2 hqb2; have HQ2 := Lib.hid hq2; clear hq2)
        | (go_at_call 39; refine (sameFloat_eq _ _ _ (by rw [HQ1.out, HQ2.out, HR1.out, HR2.out])).mono ?_; rintro e w' ⟨m, rfl, rfl⟩))
      refine (toF_any _ _ _ _ (w6.drewN _) ((h.below (below_dn b6 _)).more (below_dn b6 _).size) hn).mono ?_
      rintro e w7 ⟨rfl, ho7, hg7⟩
      have bb7 := below_of_grown hg7 (by simp)
      have b7 := (below_dn b6 _).trans (bb7.mono (below_dn b6 _).size)
      have ho4 := own_below (own_dn ho4 _) bb7
      have ho5 := own_below (own_dn ho5 _) bb7
      clear hg7
      go_wp2_with fail
      refine (eqF_any _ _ _ _ _ _ _ _ _ (Lies.of_own ho4) (Lies.of_own ho7) hn).mono ?_
      rintro e w' ⟨m5, rfl, rfl⟩
      have b8 := below_dn b7 m5
      have ho5 := own_dn ho5 m5
      clear ho4 ho7
      generalize w7.drewN m5 = w8 at *
      go_wp2_with fail
      refine (toF_any _ _ _ _ _ ((h'.below b8).more b8.size) hn').mono ?_
      rintro e w9 ⟨rfl, ho9, hg9⟩
      have bb9 := below_of_grown hg9 (by simp)
      have b9 := b8.trans (bb9.mono b8.size)
      have ho5 := own_below ho5 bb9
      clear hg9
      go_wp2_with fail
      refine (eqF_any _ _ _ _ _ _ _ _ _ (Lies.of_own ho5) (Lies.of_own ho9) hn').mono ?_
      rintro e w' ⟨m7, rfl, rfl⟩
      go_wp2
      go_ret
      exact ⟨rfl, below_dn b9 _⟩
    · go_enter Try.func11, Try.ntmps11
      go_wp2
      go_ret
      exact ⟨rfl, Below.refl _ _⟩
  · go_enter Try.func11, Try.ntmps11
    go_wp2
    go_ret
    exact ⟨rfl, Below.refl _ _⟩
end Go.Proofs.Ytcimnklgkdnaaaa.fnExactDotNumbers
