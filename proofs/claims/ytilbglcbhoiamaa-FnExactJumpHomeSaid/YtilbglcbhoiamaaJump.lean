/-
  Contracts of JumpHome and its twin.
-/
import Derived.Test.YtilbglcbhoiamaaJump0
import Derived.Test.YtilbglcbhoiamaaFlo
import Derived.Deep.LoopGhost
namespace Go.Proofs.Ytilbglcbhoiamaa
open Go.RowKit

theorem call_floor (b : Nat) (hb : fin .f64 b) (w : World) : (callFunc 61 #[.float .f64 b]).run Try.prog w = .ok (.value (.float .f64 (flo b))) w := by
  rw [run_callFunc_extern (e := Extern.MathFloor.toIntegral Try.f61.name .down) Try.func61 (by kernel_rfl) (by kernel_rfl) (by kernel_rfl) (by kernel_rfl)]
  obtain ⟨m, e, hr, _, _⟩ := read_fin64 hb
  have hd : FloatKind.f64.decode b = .number (sg .f64 b) m e := hr
  change ((match FloatKind.f64.decode b with
    | .nan _ _ => _
    | d => pure (.float .f64 (FloatKind.f64.encode (d.integral .down))) : Sem Value).run _ w).andThen _ = _
  rw [hd]
  unfold flo
  rw [hd]
  rfl
set_option maxHeartbeats 400000 in
theorem Floor_any (b : Nat) (hb : fin .f64 b) (w : World) : Calls Try.prog 59 #[.float .f64 b] w fun e w' => e = .returned (.float .f64 (flo b)) ∧ w = w' := by
  have hf := call_floor b hb
  go_enter Try.func59, Try.ntmps59
  go_wp2
  go_ret
  exact ⟨rfl, rfl⟩

@[irreducible] def nx (x : Int) : Int := IntKind.u64.wrap (IntKind.u64.wrap (x * 2862933555777941757) + 1)
theorem nx_bd (x : Int) : 0 ≤ nx x ∧ nx x ≤ 18446744073709551615 := by
  unfold nx
  exact ⟨(wrap_within .u64 _).1, (wrap_within .u64 _).2⟩
@[irreducible] def dv (x : Int) : Int := x / 8589934592 + 1
theorem dv_bd {x : Int} (h : 0 ≤ x ∧ x ≤ 18446744073709551615) : 1 ≤ dv x ∧ dv x ≤ 2147483648 := by unfold dv; omega
def runJ (n : Int) : Nat → Int → Int → Int → Option Int
  | 0, _, _, _ => none
  | f + 1, x, b, j => if j < n then runJ n f (nx x) j (jn j (dv (nx x))) else some b
theorem runJ_ends (n : Int) (hn : n ≤ 1000000) : ∀ (f : Nat) (x b j : Int), 0 ≤ j → n - j < f → 1 ≤ f → ∃ V, runJ n f x b j = some V
  | 0, _, _, _, _, _, h => absurd h (by omega)
  | f + 1, x, b, j, hj, h, _ => by
    unfold runJ
    by_cases c : j < n
    · rw [if_pos c]
      have hf := jump_facts j (dv (nx x)) hj (by omega) (dv_bd (nx_bd x)).1 (dv_bd (nx_bd x)).2
      obtain ⟨_, _, _, _, _, h1, _⟩ := hf
      exact runJ_ends n hn f _ _ _ (by omega) (by omega) (by omega)
    · rw [if_neg c]; exact ⟨b, rfl⟩
theorem runJ_det {n : Int} : ∀ {f f' : Nat} {x b j V V' : Int}, runJ n f x b j = some V → runJ n f' x b j = some V' → V = V'
  | 0, _, _, _, _, _, _, h, _ => by cases h
  | _ + 1, 0, _, _, _, _, _, _, h => by cases h
  | f + 1, f' + 1, x, b, j, V, V', h, h' => by
    unfold runJ at h h'
    by_cases c : j < n
    · rw [if_pos c] at h h'; exact runJ_det h h'
    · rw [if_neg c] at h h'; cases h; cases h'; rfl
@[irreducible] def jmB (k n : Int) : Bool := isK k && inB n 1 1000000
@[irreducible] def jmV (k n : Int) : Int := if jmB k n then (runJ n (n.toNat + 1) k (-1) 0).getD 0 else 0
theorem jmB_t {k n : Int} (h1 : isK k = true) (h2 : inB n 1 1000000 = true) : jmB k n = true := by unfold jmB; simp [h1, h2]
theorem jmB_f1 {k n : Int} (h1 : isK k = false) : jmB k n = false := by unfold jmB; simp [h1]
theorem jmB_f2 {k n : Int} (h1 : inB n 1 1000000 = false) : jmB k n = false := by unfold jmB; simp [h1]
theorem jmV_f {k n : Int} (h : jmB k n = false) : jmV k n = 0 := by unfold jmV; simp [h]
theorem jmV_t {k n : Int} (h : jmB k n = true) (hn : 1 ≤ n ∧ n ≤ 1000000) : ∃ f, runJ n f k (-1) 0 = some (jmV k n) := by
  obtain ⟨V, hV⟩ := runJ_ends n hn.2 (n.toNat + 1) k (-1) 0 (by omega) (by omega) (by omega)
  refine ⟨n.toNat + 1, ?_⟩
  unfold jmV
  rw [if_pos h, hV]; rfl
set_option maxHeartbeats 2000000 in
theorem JumpHome_t (k n : Int) (w : World) (hk : isK k = true) (hn : inB n 1 1000000 = true) : Calls Try.prog 39 #[.int .i64 k, .int .i64 n] w fun e w' => e = .returned (.tuple #[.int .i64 (jmV k n), .bool true]) ∧ w = w' := by
  obtain ⟨f, hf⟩ := jmV_t (jmB_t hk hn) (inB_of hn)
  have HF := Lib.hid hf
  obtain ⟨hk1, hk2⟩ := isK_of hk
  obtain ⟨hn1, hn2⟩ := inB_of hn
  clear hf
  go_enter Try.func39, Try.ntmps39
  go_wp2_with (first | (go_at_call 15; refine (IsKey_any _ _).mono ?_; rintro e w' ⟨rfl, rfl⟩) | (go_at_call 41; refine (within_any _ _ _ _).mono ?_; rintro e w' ⟨rfl, rfl⟩))
  go_loopg [6, 7, 8] f (fun g x b j wr => ∃ X B J : Int, x = .int .u64 X ∧ b = .int .i64 B ∧ j = .int .i64 J ∧ 0 ≤ J ∧ runJ n g X B J = some (jmV k n) ∧ wr = w)
  case atStart => exact ⟨k, -1, 0, rfl, rfl, rfl, by omega, HF.out, rfl⟩
  case round =>
    obtain ⟨X, B, J, rfl, rfl, rfl, hJ, hrun, hwr⟩ := hrel
    subst hwr
    by_cases hlt : J < n
    · obtain ⟨g, hg, HR⟩ : ∃ g, g < gk ∧ Hid (runJ n g (nx X) J (jn J (dv (nx X))) = some (jmV k n)) := by
        cases gk with
        | zero => cases hrun
        | succ g =>
          unfold runJ at hrun
          rw [if_pos hlt] at hrun
          exact ⟨g, by omega, hrun⟩
      clear hrun
      have hb := nx_bd X
      have hd := dv_bd hb
      obtain ⟨q1, q2, q3, q4, q5, q6, q7⟩ := jump_facts J (dv (nx X)) hJ (by omega) hd.1 hd.2
      have r1 := fun w => run_float_arith (P := Try.prog) w .quo 35 .f64 _ _ _ q1
      have r2 := fun w => run_float_arith (P := Try.prog) w .mul 35 .f64 _ _ _ q2
      have r3 := fun w => run_convert_float_int (P := Try.prog) w 35 2 .f64 .i64 _ _ (by rw [Try.underlying35]; rfl) Try.underlying2 q5
      have Q4 := Lib.hid q4
      clear q1 q2 q3 q4 q5
      have D1 : nx X / 8589934592 + 1 = dv (nx X) := by unfold dv; rfl
      have N1 : IntKind.u64.wrap (IntKind.u64.wrap (X * 2862933555777941757) + 1) = nx X := by unfold nx; rfl
      go_wp2_with (first | (go_at_call 59; refine (Floor_any _ Q4.out _).mono ?_; rintro e w' ⟨rfl, rfl⟩))
      go_roundg g
      case rel => exact ⟨nx X, J, jn J (dv (nx X)), rfl, rfl, rfl, by omega, HR.out, rfl⟩
      case measure => exact hg
    · have HB : Hid (jmV k n = B) := by
        cases gk with
        | zero => cases hrun
        | succ g =>
          unfold runJ at hrun
          rw [if_neg hlt] at hrun
          cases hrun; rfl
      clear hrun
      go_wp2
      go_ret2
      exact ⟨ret2 HB.out.symm rfl, rfl⟩
set_option maxHeartbeats 400000 in
theorem JumpHome_any (k n : Int) (w : World) : Calls Try.prog 39 #[.int .i64 k, .int .i64 n] w fun e w' => e = .returned (.tuple #[.int .i64 (jmV k n), .bool (jmB k n)]) ∧ w = w' := by
  rcases h1 : isK k
  · have HB := Lib.hid (jmB_f1 (n := n) h1)
    go_enter Try.func39, Try.ntmps39
    go_wp2_with (first | (go_at_call 15; refine (IsKey_any _ _).mono ?_; rintro e w' ⟨rfl, rfl⟩) | (go_at_call 41; refine (within_any _ _ _ _).mono ?_; rintro e w' ⟨rfl, rfl⟩))
    go_ret2
    exact ⟨ret2 (jmV_f HB.out).symm HB.out.symm, rfl⟩
  · rcases h2 : inB n 1 1000000
    · have HB := Lib.hid (jmB_f2 (k := k) h2)
      go_enter Try.func39, Try.ntmps39
      go_wp2_with (first | (go_at_call 15; refine (IsKey_any _ _).mono ?_; rintro e w' ⟨rfl, rfl⟩) | (go_at_call 41; refine (within_any _ _ _ _).mono ?_; rintro e w' ⟨rfl, rfl⟩))
      go_ret2
      exact ⟨ret2 (jmV_f HB.out).symm HB.out.symm, rfl⟩
    · rw [jmB_t h1 h2]; exact JumpHome_t k n w h1 h2
set_option maxHeartbeats 2000000 in
theorem sJumpHome_t (k n : Int) (w : World) (hk : isK k = true) (hn : inB n 1 1000000 = true) : Calls Try.prog 38 #[.int .i64 k, .int .i64 n] w fun e w' => e = .returned (.tuple #[.int .i64 (jmV k n), .bool true]) ∧ w = w' := by
  obtain ⟨f, hf⟩ := jmV_t (jmB_t hk hn) (inB_of hn)
  have HF := Lib.hid hf
  obtain ⟨hk1, hk2⟩ := isK_of hk
  obtain ⟨hn1, hn2⟩ := inB_of hn
  clear hf
  go_enter Try.func38, Try.ntmps38
  go_wp2_with (first | (go_at_call 40; refine (l02Key_any _ _).mono ?_; rintro e w' ⟨rfl, rfl⟩) | (go_at_call 46; refine (l00In_any _ _ _ _).mono ?_; rintro e w' ⟨rfl, rfl⟩))
  go_loopg [6, 7, 8] f (fun g x b j wr => ∃ X B J : Int, x = .int .u64 X ∧ b = .int .i64 B ∧ j = .int .i64 J ∧ 0 ≤ J ∧ runJ n g X B J = some (jmV k n) ∧ wr = w)
  case atStart => exact ⟨k, -1, 0, rfl, rfl, rfl, by omega, HF.out, rfl⟩
  case round =>
    obtain ⟨X, B, J, rfl, rfl, rfl, hJ, hrun, hwr⟩ := hrel
    subst hwr
    by_cases hlt : J < n
    · obtain ⟨g, hg, HR⟩ : ∃ g, g < gk ∧ Hid (runJ n g (nx X) J (jn J (dv (nx X))) = some (jmV k n)) := by
        cases gk with
        | zero => cases hrun
        | succ g =>
          unfold runJ at hrun
          rw [if_pos hlt] at hrun
          exact ⟨g, by omega, hrun⟩
      clear hrun
      have hb := nx_bd X
      have hd := dv_bd hb
      obtain ⟨q1, q2, q3, q4, q5, q6, q7⟩ := jump_facts J (dv (nx X)) hJ (by omega) hd.1 hd.2
      have r1 := fun w => run_float_arith (P := Try.prog) w .quo 35 .f64 _ _ _ q1
      have r2 := fun w => run_float_arith (P := Try.prog) w .mul 35 .f64 _ _ _ q2
      have r3 := fun w => run_convert_float_int (P := Try.prog) w 35 2 .f64 .i64 _ _ (by rw [Try.underlying35]; rfl) Try.underlying2 q5
      have Q4 := Lib.hid q4
      clear q1 q2 q3 q4 q5
      have D1 : nx X / 8589934592 + 1 = dv (nx X) := by unfold dv; rfl
      have N1 : IntKind.u64.wrap (IntKind.u64.wrap (2862933555777941757 * X) + 1) = nx X := by unfold nx; rw [Int.mul_comm]
      go_wp2_with (first | (go_at_call 59; refine (Floor_any _ Q4.out _).mono ?_; rintro e w' ⟨rfl, rfl⟩))
      go_roundg g
      case rel => exact ⟨nx X, J, jn J (dv (nx X)), rfl, rfl, rfl, by omega, HR.out, rfl⟩
      case measure => exact hg
    · have HB : Hid (jmV k n = B) := by
        cases gk with
        | zero => cases hrun
        | succ g =>
          unfold runJ at hrun
          rw [if_neg hlt] at hrun
          cases hrun; rfl
      clear hrun
      go_wp2
      go_ret2
      exact ⟨ret2 HB.out.symm rfl, rfl⟩
set_option maxHeartbeats 400000 in
theorem sJumpHome_any (k n : Int) (w : World) : Calls Try.prog 38 #[.int .i64 k, .int .i64 n] w fun e w' => e = .returned (.tuple #[.int .i64 (jmV k n), .bool (jmB k n)]) ∧ w = w' := by
  rcases h1 : isK k
  · have HB := Lib.hid (jmB_f1 (n := n) h1)
    go_enter Try.func38, Try.ntmps38
    go_wp2_with (first | (go_at_call 40; refine (l02Key_any _ _).mono ?_; rintro e w' ⟨rfl, rfl⟩) | (go_at_call 46; refine (l00In_any _ _ _ _).mono ?_; rintro e w' ⟨rfl, rfl⟩))
    go_ret2
    exact ⟨ret2 (jmV_f HB.out).symm HB.out.symm, rfl⟩
  · rcases h2 : inB n 1 1000000
    · have HB := Lib.hid (jmB_f2 (k := k) h2)
      go_enter Try.func38, Try.ntmps38
      go_wp2_with (first | (go_at_call 40; refine (l02Key_any _ _).mono ?_; rintro e w' ⟨rfl, rfl⟩) | (go_at_call 46; refine (l00In_any _ _ _ _).mono ?_; rintro e w' ⟨rfl, rfl⟩))
      go_ret2
      exact ⟨ret2 (jmV_f HB.out).symm HB.out.symm, rfl⟩
    · rw [jmB_t h1 h2]; exact sJumpHome_t k n w h1 h2
end Go.Proofs.Ytilbglcbhoiamaa
