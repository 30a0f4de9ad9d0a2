/-
  The laws' own helpers on lists of bools: two lists are compared, a list is marked, the marks are looked at.
-/
import Derived.Test.YtcimnklgkdnaaaaRow
namespace Go.Proofs.Ytcimnklgkdnaaaa
open Go.RowKit

theorem info_bool : (Try.prog.info? 4).map (fun i => (i.zero, i.size, i.bytes)) = some (some (.bool false), 1, 1) := by kernel_rfl
theorem bools_getD (zs : List Bool) {j : Nat} (h : j < zs.length) : (zs.map Value.bool).getD j undef = .bool (zs.getD j false) := by
  simp [List.getD, List.getElem?_eq_getElem h]
theorem bools_take_snoc (zs : List Bool) {j : Nat} (h : j < zs.length) : zs.take (j + 1) = zs.take j ++ [zs.getD j false] := by
  rw [List.take_add_one, List.getElem?_eq_getElem h]; simp [List.getD, List.getElem?_eq_getElem h]
@[irreducible] def mkB (i : Nat) : Value := .bool (((i : Nat) : Int) % 3 == 0)
theorem mkB_eq (k j : Nat) : mkB (k + j) = .bool (((k : Int) + (j : Int)) % 3 == 0) := by unfold mkB; rw [Int.natCast_add]
@[irreducible] def marksB (k n : Nat) : List Value := (List.range n).map fun (i : Nat) => mkB (k + i)
@[irreducible] def markedB (xs : List Value) (k j : Nat) : List Value := marksB k j ++ xs.drop j
theorem markedB_zero (xs : List Value) (k : Nat) : markedB xs k 0 = xs := by unfold markedB marksB; simp
theorem markedB_full (xs : List Value) (k : Nat) : markedB xs k xs.length = marksB k xs.length := by unfold markedB; simp
theorem marksB_len (k n : Nat) : (marksB k n).length = n := by unfold marksB; simp
theorem marksB_at {k n j : Nat} (h : j < n) : (marksB k n).getD j undef = mkB (k + j) := by unfold marksB; simp [List.getD, h]
theorem markedB_set (xs : List Value) (k : Nat) {j : Nat} (h : j < xs.length) : (markedB xs k j).set j (mkB (k + j)) = markedB xs k (j + 1) := by
  unfold markedB
  have e : xs.drop j = xs[j] :: xs.drop (j + 1) := (List.getElem_cons_drop h).symm
  rw [e, List.set_append_right _ _ (by rw [marksB_len]; omega), marksB_len, Nat.sub_self]
  have e2 : marksB k (j + 1) = marksB k j ++ [mkB (k + j)] := by unfold marksB; simp [List.range_succ]
  rw [e2, List.append_assoc]; rfl
theorem markedB_cell (xs : List Value) (k : Nat) {j : Nat} (h : j < xs.length) : (markedB xs k j)[j]? = some xs[j] := by
  unfold markedB
  rw [List.getElem?_append_right (by rw [marksB_len]; omega), marksB_len, Nat.sub_self]
  simp [h]
theorem getD_of_takeB {xs ys : List Bool} {k : Nat} (hx : k < xs.length) (hy : k < ys.length) (h : xs.take k = ys.take k) (he : xs.getD k false = ys.getD k false) : xs.take (k + 1) = ys.take (k + 1) := by
  rw [bools_take_snoc xs hx, bools_take_snoc ys hy, h, he]
theorem ne_of_getDB {xs ys : List Bool} {k : Nat} (h : xs.getD k false ≠ ys.getD k false) : decide (xs = ys) = false := by
  refine decide_eq_false fun e => h (by rw [e])
set_option maxHeartbeats 800000 in
theorem eqB_any (A A' : Option Addr) (n c n' c' B B' : Nat) (xs ys : List Bool) (w : World) (h : Lies w B A n (xs.map (Value.bool))) (h' : Lies w B' A' n' (ys.map (Value.bool))) (hn : n ≤ 1048576) (hn' : n' ≤ 1048576) :
    Calls Try.prog 33 #[.slice A n c, .slice A' n' c'] w fun e w' => ∃ m, e = .returned (.bool (decide (xs = ys))) ∧ w' = w.drewN m := by
  have hxl : xs.length = n := by have := h.1; simpa using this
  have hyl : ys.length = n' := by have := h'.1; simpa using this
  have HX := Lib.hid hxl
  have HY := Lib.hid hyl
  clear hxl hyl
  by_cases hnn : n = n'
  · obtain rfl := hnn
    go_enter Try.func33, Try.ntmps33
    go_wp2
    go_loopw [5] (fun i wr => ∃ k m : Nat, k ≤ n ∧ i = .int .i64 k ∧ wr = w.drewN m ∧ Hid (xs.take k = ys.take k)) (fun i _ => n - (intOf i).toNat)
    case atStart => exact ⟨0, 0, Nat.zero_le _, rfl, rfl, Lib.hid (by simp)⟩
    case round =>
      obtain ⟨k, m, hk, rfl, rfl, ht⟩ := hrel
      by_cases hlt : k < n
      · obtain ⟨ad, rfl, hab, hc⟩ := h.at_ hlt
        obtain ⟨ad', rfl, hab', hc'⟩ := h'.at_ hlt
        rw [bools_getD xs (by have := HX.out; omega)] at hc
        rw [bools_getD ys (by have := HY.out; omega)] at hc'
        by_cases he : xs.getD k false = ys.getD k false
        · have HE := Lib.hid he
          rw [he] at hc
          clear he
          go_wp2
          go_quiet (fail)
          go_wp2
          go_roundw
          case rel => exact ⟨k + 1, _, by omega, by go_num, rfl, Lib.hid (getD_of_takeB (by have := HX.out; omega) (by have := HY.out; omega) ht.out HE.out)⟩
          case measure => simp [intOf]; omega
        · have HN := Lib.hid (ne_of_getDB he)
          generalize xs.getD k false = x at hc he
          generalize ys.getD k false = y at hc' he
          obtain rfl : y = !x := by revert he; cases x <;> cases y <;> simp
          clear he
          rcases x
          all_goals
            go_wp2
            go_quiet (fail)
            go_wp2
            go_ret
            exact ⟨_, retB HN.out.symm, World.drewN_drewN _ _ _⟩
      · go_wp2
        go_ret
        have hx := HX.out
        have hy := HY.out
        have h1 := ht.out
        rw [List.take_of_length_le (by omega), List.take_of_length_le (by omega)] at h1
        exact ⟨_, by simp [h1], rfl⟩
  · have hN : Hid (decide (xs = ys) = false) := Lib.hid (decide_eq_false fun e => hnn (by rw [← HX.out, ← HY.out, e]))
    go_enter Try.func33, Try.ntmps33
    go_wp2
    go_ret
    exact ⟨0, retB hN.out.symm, rfl⟩
set_option maxHeartbeats 800000 in
theorem markB_any (A : Option Addr) (n c base k : Nat) (xs : List Value) (w : World) (h : w.ownsRow base 4 1 (.slice A n c) n xs) (hn : n ≤ 1048576) (hk : k ≤ 1048576) :
    Calls Try.prog 34 #[.slice A n c, .int .i64 k] w fun e w' => e = .returned (.int .i64 ((k + n : Nat) : Int)) ∧
      w'.ownsRow base 4 1 (.slice A n c) n (marksB k n) ∧ w.grownBy w' (Value.slice A n c).ownBlock := by
  have hxl : xs.length = n := by have := h.1; omega
  have HX := Lib.hid hxl
  clear hxl
  have HO : Hid (w.ownsRow base 4 1 (.slice A n c) n (markedB xs k 0)) := Lib.hid (by rw [markedB_zero]; exact h)
  rcases Nat.eq_zero_or_pos n with rfl | hpos
  · have hm : Hid (xs = marksB k 0) := Lib.hid (by unfold marksB; exact List.eq_nil_of_length_eq_zero HX.out)
    go_enter Try.func34, Try.ntmps34
    go_wp2
    refine wp_loop_rounds 1 ?_
    rw [rounds_succ]
    go_wp2
    go_ret
    exact ⟨rfl, by rw [← hm.out]; exact h, World.grownBy.refl _ _⟩
  · obtain ⟨g, rfl, hbg, hg⟩ := own_addr h hpos
    clear h
    go_enter Try.func34, Try.ntmps34
    go_wp2
    go_loopw [5, 1] (fun i q wr => ∃ j : Nat, j ≤ n ∧ i = .int .i64 j ∧ q = .int .i64 ((k + j : Nat) : Int) ∧ Hid (wr.ownsRow base 4 1 (.slice (some ⟨g, 0, none⟩) n c) n (markedB xs k j)) ∧ Hid (w.grownBy wr (some g))) (fun i _ _ => n - (intOf i).toNat)
    case atStart => exact ⟨0, Nat.zero_le _, rfl, rfl, HO, Lib.hid (World.grownBy.refl _ _)⟩
    case round =>
      clear HO
      obtain ⟨j, hj, rfl, rfl, hO, hG⟩ := hrel
      by_cases hlt : j < n
      · have hc2 : wr.cell? ⟨g, j, none⟩ = some (xs[j]'(by have := HX.out; omega)) := by rw [hO.out.cellAt j (by omega)]; exact markedB_cell xs k _
        have hf := hO.out.frozenAt j
        go_wp2
        go_roundw
        case rel => exact ⟨j + 1, by omega, by go_num, by go_num, by have := (hO.out.stored j (mkB (k + j))).1; rw [markedB_set xs k (by have := HX.out; omega), mkB_eq] at this; exact Lib.hid this, Lib.hid (grown_set2 hG.out rfl _)⟩
        case measure => simp [intOf]; omega
      · go_wp2
        go_ret
        obtain rfl : j = n := by omega
        have hO2 := hO.out
        have e := markedB_full xs k
        rw [HX.out] at e
        rw [e] at hO2
        exact ⟨rfl, hO2, hG.out⟩
set_option maxHeartbeats 800000 in
theorem heldB_any (A : Option Addr) (n c B k : Nat) (w : World) (h : Lies w B A n (marksB k n)) (hn : n ≤ 1048576) (hk : k ≤ 1048576) :
    Calls Try.prog 35 #[.slice A n c, .int .i64 k] w fun e w' => ∃ m, e = .returned (.int .i64 ((k + n : Nat) : Int)) ∧ w' = w.drewN m := by
  go_enter Try.func35, Try.ntmps35
  go_wp2
  go_loopw [5, 1] (fun i q wr => ∃ j m : Nat, j ≤ n ∧ i = .int .i64 j ∧ q = .int .i64 ((k + j : Nat) : Int) ∧ wr = w.drewN m) (fun i _ _ => n - (intOf i).toNat)
  case atStart => exact ⟨0, 0, Nat.zero_le _, rfl, rfl, rfl⟩
  case round =>
    obtain ⟨j, m, hj, rfl, rfl, rfl⟩ := hrel
    by_cases hlt : j < n
    · obtain ⟨ad, rfl, hab, hc⟩ := h.at_ hlt
      rw [marksB_at hlt, mkB_eq] at hc
      go_wp2
      go_roundw
      case rel => exact ⟨j + 1, _, by omega, by go_num, by go_num, rfl⟩
      case measure => simp [intOf]; omega
    · go_wp2
      go_ret
      obtain rfl : j = n := by omega
      exact ⟨_, rfl, rfl⟩
end Go.Proofs.Ytcimnklgkdnaaaa
