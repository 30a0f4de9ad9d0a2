/- The walk of the law FnExactSumNumbers: it returns true, for every list. -/
import Derived.Test.YtcimnklgkdnaaaaSums
namespace Go.Proofs.Ytcimnklgkdnaaaa.fnExactSumNumbers
open Go.RowKit
set_option maxHeartbeats 1600000 in
set_option maxRecDepth 100000 in
theorem walk (A : Option Addr) (n c : Nat) (zs : List Nat) (w : World) (h0 : ArgF w A n zs) :
    Calls Try.prog 12 #[.slice A n c] w fun e w' => e = .returned (.bool true) ∧ Below w.heap.size w w' := by
  obtain ⟨h, _⟩ := h0
  by_cases hn : n ≤ 1048576
  · go_enter Try.func12, Try.ntmps12
    go_wp2_with fail
    refine (toF_any _ _ _ _ _ h hn).mono ?_
    rintro e w1 ⟨rfl, ho1, hg1⟩
    have b1 := below_of_grown hg1 (by simp)
    go_wp2_with fail
    refine (sSumNumbers_any _ _ _ _ _ _ (Lies.of_own ho1) hn).mono ?_
    rintro e w' ⟨r1, m1, rfl, hr1, rfl⟩
    have HR1 := Lib.hid hr1
    have b2 := below_dn b1 m1
    clear ho1 hg1 hr1
    generalize w1.drewN m1 = w2 at *
    go_wp2_with fail
    refine (toF_any _ _ _ _ _ ((h.below b2).more b2.size) hn).mono ?_
    rintro e w3 ⟨rfl, ho3, hg3⟩
    have b3 := b2.trans ((below_of_grown hg3 (by simp)).mono b2.size)
    go_wp2_with fail
    refine (SumNumbers_any _ _ _ _ _ _ (Lies.of_own ho3) hn).mono ?_
    rintro e w' ⟨r2, m3, rfl, hr2, rfl⟩
    have HR2 := Lib.hid hr2
    have b4 := below_dn b3 m3
    have ho4 := own_dn ho3 m3
    clear ho3 hg3 hr2
    generalize w3.drewN m3 = w4 at *
    have t1 : True := trivial
    go_wp2_with (first
      | (have _t := t1; refine wpList_up rfl _ _ _ rfl _ rfl Try.underlying47 Try.underlying52 ?_; intro q1 n1 hq1 hqb1; have HQ1 := Lib.hid hq1; clear hq1 t1)
      | (refine wpList_up rfl _ _ _ rfl _ rfl Try.underlying47 Try.underlying52 ?_; intro q2 n2 hq2 hqb2; have HQ2 := Lib.hid hq2; clear hq2)
      | (go_at_call 39; refine (sameFloat_eq _ _ _ (by rw [HQ1.out, HQ2.out, HR1.out, HR2.out])).mono ?_; rintro e w' ⟨m, rfl, rfl⟩))
    refine (toF_any _ _ _ _ (w4.drewN _) ((h.below (below_dn b4 _)).more (below_dn b4 _).size) hn).mono ?_
    rintro e w5 ⟨rfl, ho5, hg5⟩
    have bb5 := below_of_grown hg5 (by simp)
    have b5 := (below_dn b4 _).trans (bb5.mono (below_dn b4 _).size)
    go_wp2_with fail
    refine (eqF_any _ _ _ _ _ _ _ _ _ (Lies.of_own (own_below (own_dn ho4 _) bb5)) (Lies.of_own ho5) hn).mono ?_
    rintro e w' ⟨m5, rfl, rfl⟩
    go_wp2
    go_ret
    exact ⟨rfl, below_dn b5 _⟩
  · go_enter Try.func12, Try.ntmps12
    go_wp2
    go_ret
    exact ⟨rfl, Below.refl _ _⟩
end Go.Proofs.Ytcimnklgkdnaaaa.fnExactSumNumbers
