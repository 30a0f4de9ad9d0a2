/-
  Lists of float32: words, and the laws' own helpers on them.
-/
import Derived.Test.YtcimnklgkdnaaaaList
import Derived.Test.YtcimnklgkdnaaaaFlo
import Derived.Deep.RegionWith
namespace Go.Proofs.Ytcimnklgkdnaaaa
open Go.RowKit

/-- An argument: a list of float32. -/
def ArgF (w : World) (A : Option Addr) (n : Nat) (zs : List Nat) : Prop := Lies w w.heap.size A n (zs.map (Value.float .f32)) ∧ ∀ z ∈ zs, (Lit.float .f32 z).wf = true
theorem flo_getD (zs : List Nat) {j : Nat} (h : j < zs.length) : (zs.map (Value.float .f32)).getD j undef = .float .f32 (zs.getD j 0) := by
  simp [List.getD, List.getElem?_eq_getElem h]
theorem flo_take_snoc (zs : List Nat) {j : Nat} (h : j < zs.length) : zs.take (j + 1) = zs.take j ++ [zs.getD j 0] := by
  rw [List.take_add_one, List.getElem?_eq_getElem h]; simp [List.getD, List.getElem?_eq_getElem h]
/-- The sum, from left to right, up to the choice of a NaN. -/
@[irreducible] def fsm (zs : List Nat) : Option Nat := zs.foldl (fun s z => fop .add .f32 s (cn .f32 z)) (some 0)
theorem fsm_zero (zs : List Nat) : fsm (zs.take 0) = some 0 := by unfold fsm; simp
theorem fsm_snoc {zs : List Nat} {k : Nat} (h : k < zs.length) : fsm (zs.take (k + 1)) = fop .add .f32 (fsm (zs.take k)) (cn .f32 (zs.getD k 0)) := by
  unfold fsm; rw [flo_take_snoc zs h]; simp
/-- The sum of products. -/
@[irreducible] def fdt (xs ys : List Nat) (k : Nat) : Option Nat := k.rec (some 0) fun i s => fop .add .f32 s (fop .mul .f32 (cn .f32 (xs.getD i 0)) (cn .f32 (ys.getD i 0)))
theorem fdt_zero (xs ys : List Nat) : fdt xs ys 0 = some 0 := by unfold fdt; rfl
theorem fdt_succ (xs ys : List Nat) (k : Nat) : fdt xs ys (k + 1) = fop .add .f32 (fdt xs ys k) (fop .mul .f32 (cn .f32 (xs.getD k 0)) (cn .f32 (ys.getD k 0))) := by unfold fdt; rfl

theorem upon_fop {P : Program} {o : Oper} {a : Act} {K : Act → World → Prop} {Q : Exit → Act → World → Prop} {w : World} (op : BinOp) (hop : isArith op = true) (t : TypeId) (k : FloatKind) (x y : Nat)
    (h : ∀ r n, cn k r = fop op k (cn k x) (cn k y) → r < 2 ^ k.format.width → K (a.put o.dst (.float k r)) (w.drewN n)) :
    Oper.upon P o a K Q (((binOp op t (.float k x) (.float k y)).run P w).andThen fun v w' => Result.ok (Next.value v) w') := by
  obtain ⟨r, n, hr, h1, h2⟩ := run_fop (P := P) w op hop t k x y
  rw [hr]
  exact h r n h1 h2
set_option maxHeartbeats 800000 in
theorem l01Sum_any (A : Option Addr) (n c B : Nat) (zs : List Nat) (w : World) (h : Lies w B A n (zs.map (Value.float .f32))) (hn : n ≤ 1048576) :
    Calls Try.prog 63 #[.slice A n c] w fun e w' => ∃ r m, e = .returned (.float .f32 r) ∧ cn .f32 r = fsm zs ∧ w' = w.drewN m := by
  have hzl : zs.length = n := by have := h.1; simpa using this
  have HZ := Lib.hid hzl
  clear hzl
  go_enter Try.func63, Try.ntmps63
  go_wp2
  go_loopw [3, 4] (fun v i wr => ∃ k m r : Nat, k ≤ n ∧ i = .int .i64 k ∧ v = .float .f32 r ∧ Hid (cn .f32 r = fsm (zs.take k)) ∧ wr = w.drewN m) (fun _ i _ => n - (intOf i).toNat)
  case atStart => exact ⟨0, 0, _, Nat.zero_le _, rfl, rfl, Lib.hid (by rw [fsm_zero]; exact cn_num (by decide)), rfl⟩
  case round =>
    obtain ⟨k, m, r, hk, rfl, rfl, hr, rfl⟩ := hrel
    by_cases hlt : k < n
    · obtain ⟨ad, rfl, hab, hc⟩ := h.at_ hlt
      rw [flo_getD zs (by have := HZ.out; omega)] at hc
      have HS := Lib.hid (fsm_snoc (zs := zs) (k := k) (by have := HZ.out; omega))
      generalize zs.getD k 0 = x at *
      go_wp2_with (refine wpList_fop rfl _ _ _ _ _ rfl (by decide) _ _ _ rfl rfl ?_; intro r1 n1 hr1 hrb1; have HR := Lib.hid hr1; clear hr1)
      go_roundw
      case rel => exact ⟨k + 1, _, _, by omega, by go_num, rfl, Lib.hid (by rw [HS.out, HR.out, hr.out]), rfl⟩
      case measure => simp [intOf]; omega
    · go_wp2
      go_ret
      have h1 := hr.out
      rw [List.take_of_length_le (by have := HZ.out; omega)] at h1
      exact ⟨_, _, rfl, h1, rfl⟩
set_option maxHeartbeats 800000 in
theorem l01Dot_any (A A' : Option Addr) (n c c' B B' : Nat) (xs ys : List Nat) (w : World) (h : Lies w B A n (xs.map (Value.float .f32))) (h' : Lies w B' A' n (ys.map (Value.float .f32))) (hn : n ≤ 1048576) :
    Calls Try.prog 62 #[.slice A n c, .slice A' n c'] w fun e w' => ∃ r m, e = .returned (.float .f32 r) ∧ cn .f32 r = fdt xs ys n ∧ w' = w.drewN m := by
  have hxl : xs.length = n := by have := h.1; simpa using this
  have hyl : ys.length = n := by have := h'.1; simpa using this
  have HX := Lib.hid hxl
  have HY := Lib.hid hyl
  clear hxl hyl
  go_enter Try.func62, Try.ntmps62
  go_wp2
  go_loopw [5, 6] (fun v i wr => ∃ k m r : Nat, k ≤ n ∧ i = .int .i64 k ∧ v = .float .f32 r ∧ Hid (cn .f32 r = fdt xs ys k) ∧ wr = w.drewN m) (fun _ i _ => n - (intOf i).toNat)
  case atStart => exact ⟨0, 0, _, Nat.zero_le _, rfl, rfl, Lib.hid (by rw [fdt_zero]; exact cn_num (by decide)), rfl⟩
  case round =>
    obtain ⟨k, m, r, hk, rfl, rfl, hr, rfl⟩ := hrel
    by_cases hlt : k < n
    · obtain ⟨ad, rfl, hab, hc⟩ := h.at_ hlt
      obtain ⟨ad', rfl, hab', hc'⟩ := h'.at_ hlt
      rw [flo_getD xs (by have := HX.out; omega)] at hc
      rw [flo_getD ys (by have := HY.out; omega)] at hc'
      have HS := Lib.hid (fdt_succ xs ys k)
      generalize xs.getD k 0 = x at *
      generalize ys.getD k 0 = y at *
      have t1 : True := trivial
      go_wp2
      go_region_with (first | (have _t := t1; refine upon_fop .mul rfl _ _ _ _ ?_; intro r1 n1 hr1 hrb1; have HM := Lib.hid hr1; clear hr1 t1) | (refine upon_fop .add rfl _ _ _ _ ?_; intro r2 n2 hr2 hrb2; have HR := Lib.hid hr2; clear hr2))
      all_goals
        go_wp2
        go_roundw
        case rel => exact ⟨k + 1, _, _, by omega, by go_num, rfl, Lib.hid (by rw [HS.out, HR.out, HM.out, hr.out]), rfl⟩
        case measure => simp [intOf]; omega
    · go_wp2
      go_ret
      obtain rfl : k = n := by omega
      exact ⟨_, _, rfl, hr.out, rfl⟩
end Go.Proofs.Ytcimnklgkdnaaaa
