/- The walk of the law FnExactPhasorOf: it returns true, for every number of turns. -/
import Derived.Test.YtakaocddhaepmaaPha5
import Derived.Below
namespace Go.Proofs.Ytakaocddhaepmaa.fnExactPhasorOf
open Go.RowKit
set_option maxHeartbeats 400000 in
theorem walk (a0 : Nat) (w : World) (_w0 : (Lit.float .f64 a0).wf = true) :
    Calls Try.prog 3 #[.float .f64 a0] w fun e w' => e = .returned (.bool true) ∧ Below w.heap.size w w' := by
  have t1 : True := trivial
  go_enter Try.func3, Try.ntmps3
  go_wp2_with (first
    | (go_at_call 5; refine (sPhasorOf_any _ _).mono ?_; rintro e w' ⟨r1, s1, n, rfl, rfl, hr1, hs1⟩; have HR1 := Lib.hid hr1; have HS1 := Lib.hid hs1; clear hr1 hs1)
    | (go_at_call 6; refine (PhasorOf_any _ _).mono ?_; rintro e w' ⟨r2, s2, n, rfl, rfl, hr2, hs2⟩; have HR2 := Lib.hid hr2; have HS2 := Lib.hid hs2; clear hr2 hs2)
    | (have _t := t1; refine wpList_upC rfl _ _ _ rfl _ _ rfl Try.underlying23 Try.underlying26 ?_; intro p1 p2 n hp1 hp2; rw [HR2.out] at hp1; rw [HS2.out] at hp2; have HP1 := Lib.hid hp1; have HP2 := Lib.hid hp2; clear t1 hp1 hp2)
    | (refine wpList_upC rfl _ _ _ rfl _ _ rfl Try.underlying23 Try.underlying26 ?_; intro q1 q2 n hq1 hq2; rw [HR1.out] at hq1; rw [HS1.out] at hq2; have HQ1 := Lib.hid hq1; have HQ2 := Lib.hid hq2; clear hq1 hq2)
    | (go_at_call 7; refine (sameComplex_eq _ _ _ _ _ (by rw [HP1.out, HQ1.out]) (by rw [HP2.out, HQ2.out])).mono ?_; rintro e w' ⟨m, rfl, rfl⟩))
  go_ret
  exact ⟨rfl, below_drewN (Below.refl _ _) _⟩
end Go.Proofs.Ytakaocddhaepmaa.fnExactPhasorOf
