/- The walk of the law FnExactCheckOf: it returns true, for every text. -/
import Derived.Test.YtebbplmpepbdaaaText
import Derived.Below
namespace Go.Proofs.Ytebbplmpepbdaaa.fnExactCheckOf
open Go.RowKit
set_option maxHeartbeats 400000 in
theorem walk (a0 : Int) (a1 : ByteArray) (w : World) (_w0 : (Lit.int .i64 a0).wf = true) (_w1 : a1.size ≤ maxLen) :
    Calls Try.prog 5 #[.int .i64 a0, .string a1] w fun e w' => e = .returned (.bool true) ∧ Below w.heap.size w w' := by
  by_cases hs : a1.size ≤ 1048576
  · go_enter Try.func5, Try.ntmps5
    go_wp2_with (first | (go_at_call 10; refine (sCheckOf_any _ _ _ hs).mono ?_; rintro e w' ⟨rfl, rfl⟩) | (go_at_call 11; refine (CheckOf_any _ _ _ hs).mono ?_; rintro e w' ⟨rfl, rfl⟩))
    go_ret
    exact ⟨rfl, Below.refl _ _⟩
  · go_enter Try.func5, Try.ntmps5
    go_wp2_with fail
    go_ret
    exact ⟨rfl, Below.refl _ _⟩
end Go.Proofs.Ytebbplmpepbdaaa.fnExactCheckOf
