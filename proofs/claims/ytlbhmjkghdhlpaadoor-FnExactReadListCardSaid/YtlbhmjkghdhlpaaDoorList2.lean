/-
  The laws' own helpers on lists of int64: a copy is made, two lists are compared, a list is marked, the marks are looked at.
-/
import Derived.Test.YtlbhmjkghdhlpaaDoorList
namespace Go.Proofs.YtlbhmjkghdhlpaaDoor
open Go.RowKit

theorem info64 : (Tryd.prog.info? 2).map (fun i => (i.zero, i.size, i.bytes)) = some (some (.int .i64 0), 1, 8) := by kernel_rfl
/-- The first k copied, zeros behind. -/
@[irreducible] def half (zs : List Int) (k : Nat) : List Value := (zs.take k ++ List.replicate (zs.length - k) 0).map (Value.int .i64)
theorem half_zero (zs : List Int) : half zs 0 = (madeCells (Value.int .i64 0).cells (zs.length * 1)).toList := by
  unfold half
  show _ = (madeCells #[.int .i64 0] (zs.length * 1)).toList
  rw [toList_madeCells_one]; simp
theorem half_full (zs : List Int) {k : Nat} (h : zs.length ≤ k) : half zs k = zs.map (Value.int .i64) := by
  unfold half; rw [List.take_of_length_le h, Nat.sub_eq_zero_of_le h]; simp
theorem half_len (zs : List Int) {k : Nat} (h : k ≤ zs.length) : (half zs k).length = zs.length := by unfold half; simp; omega
theorem half_at (zs : List Int) {k : Nat} (h : k < zs.length) : (half zs k)[k]? = some (.int .i64 0) := by
  unfold half
  have e : zs.length - k = (zs.length - k - 1) + 1 := by omega
  rw [e, List.replicate_succ]
  rw [List.map_append, List.getElem?_append_right (by simp; omega)]
  have hl : k - ((zs.take k).map (Value.int .i64)).length = 0 := by simp; omega
  rw [hl]
  rfl
theorem half_set (zs : List Int) {k : Nat} (h : k < zs.length) : (half zs k).set k (.int .i64 (zs.getD k 0)) = half zs (k + 1) := by
  unfold half
  have e : zs.length - k = (zs.length - (k + 1)) + 1 := by omega
  rw [e, List.replicate_succ, ints_take_snoc zs h]
  simp only [List.map_append, List.map_cons, List.append_assoc, List.singleton_append]
  have hl : ((zs.take k).map (Value.int .i64)).length = k := by simp; omega
  rw [List.set_append_right _ _ (by omega), hl, Nat.sub_self]
  rfl

theorem grown_set {w wr : World} {p : Addr} (h : w.grownBy wr none) (hp : w.heap.size ≤ p.block) (u : Value) : w.grownBy (wr.setCell p u) none :=
  ⟨h.os, h.tape, h.output, by simpa [World.setCell] using h.size, fun i hi hne => (Below.heap_setCell wr p u i (by omega)).trans (h.block i hi hne)⟩
set_option maxHeartbeats 800000 in
theorem toS_any (A : Option Addr) (n c : Nat) (zs : List Int) (w : World) (h : Lies w w.heap.size A n (zs.map (Value.int .i64))) (hn : n ≤ 1048576) :
    Calls Tryd.prog 15 #[.slice A n c] w fun e w' => e = .returned (.slice (some ⟨w.heap.size, 0, none⟩) n n) ∧
      w'.ownsRow w.heap.size 2 1 (.slice (some ⟨w.heap.size, 0, none⟩) n n) n (zs.map (Value.int .i64)) ∧ w.grownBy w' none := by
  obtain ⟨i0, hi0, hz0, hz1, hz2⟩ := info_parts info64
  have hzl : zs.length = n := by have := h.1; simpa using this
  have HZ := Lib.hid hzl
  clear hzl
  obtain ⟨w1, hmk, hown, hgr⟩ := run_make_full (P := Tryd.prog) w w.heap.size 28 2 i0 (.int .i64 0) 1 Tryd.underlying28 hi0 hz0 hz1 .i64 .i64 n (by rw [hz2]; omega) (by unfold maxLen; omega) (Nat.le_refl _)
  go_enter Tryd.func15, Tryd.ntmps15
  go_wp2
  have HO : Hid (w1.ownsRow w.heap.size 2 1 (.slice (some ⟨w.heap.size, 0, none⟩) n n) n (half zs 0)) := Lib.hid (by rw [half_zero, HZ.out]; exact hown)

  have HG := Lib.hid hgr
  clear hown hgr
  go_loopw [4] (fun i wr => ∃ k : Nat, k ≤ n ∧ i = .int .i64 k ∧ Hid (wr.ownsRow w.heap.size 2 1 (.slice (some ⟨w.heap.size, 0, none⟩) n n) n (half zs k)) ∧ Hid (w.grownBy wr none)) (fun i _ => n - (intOf i).toNat)
  case atStart => exact ⟨0, Nat.zero_le _, rfl, HO, HG⟩
  case round =>
    clear HO HG
    obtain ⟨k, hk, rfl, hO, hG⟩ := hrel
    by_cases hlt : k < n
    · obtain ⟨ad, rfl, hab, hc⟩ := h.at_ hlt
      rw [ints_getD .i64 zs (by have := HZ.out; omega)] at hc
      have hc1 := (hG.out.cell hc (by simp))
      have hc2 : wr.cell? ⟨w.heap.size, k, none⟩ = some (.int .i64 0) := by rw [hO.out.cellAt k (by omega)]; exact half_at zs (by have := HZ.out; omega)
      have hf := hO.out.frozenAt k
      clear hc
      go_wp2
      go_roundw
      case rel => exact ⟨k + 1, by omega, by go_num, by have := (hO.out.stored k (.int .i64 (zs.getD k 0))).1; rw [half_set zs (by have := HZ.out; omega)] at this; exact Lib.hid this, Lib.hid (grown_set hG.out (Nat.le_refl _) _)⟩
      case measure => simp [intOf]; omega
    · go_wp2
      go_ret
      have hO2 := hO.out
      rw [half_full zs (by have := HZ.out; omega)] at hO2
      exact ⟨rfl, hO2, hG.out⟩
theorem getD_of_take {xs ys : List Int} {k : Nat} (hx : k < xs.length) (hy : k < ys.length) (h : xs.take k = ys.take k) (he : xs.getD k 0 = ys.getD k 0) : xs.take (k + 1) = ys.take (k + 1) := by
  rw [ints_take_snoc xs hx, ints_take_snoc ys hy, h, he]
theorem ne_of_getD {xs ys : List Int} {k : Nat} (h : xs.getD k 0 ≠ ys.getD k 0) : decide (xs = ys) = false := by
  refine decide_eq_false fun e => h (by rw [e])
set_option maxHeartbeats 800000 in
theorem eqS_any (A A' : Option Addr) (n c n' c' B B' : Nat) (xs ys : List Int) (w : World) (h : Lies w B A n (xs.map (Value.int .i64))) (h' : Lies w B' A' n' (ys.map (Value.int .i64))) (hn : n ≤ 1048576) (hn' : n' ≤ 1048576) :
    Calls Tryd.prog 17 #[.slice A n c, .slice A' n' c'] w fun e w' => ∃ m, e = .returned (.bool (decide (xs = ys))) ∧ w' = w.drewN m := by
  have hxl : xs.length = n := by have := h.1; simpa using this
  have hyl : ys.length = n' := by have := h'.1; simpa using this
  have HX := Lib.hid hxl
  have HY := Lib.hid hyl
  clear hxl hyl
  by_cases hnn : n = n'
  · obtain rfl := hnn
    go_enter Tryd.func17, Tryd.ntmps17
    go_wp2
    go_loopw [5] (fun i wr => ∃ k m : Nat, k ≤ n ∧ i = .int .i64 k ∧ wr = w.drewN m ∧ Hid (xs.take k = ys.take k)) (fun i _ => n - (intOf i).toNat)
    case atStart => exact ⟨0, 0, Nat.zero_le _, rfl, rfl, Lib.hid (by simp)⟩
    case round =>
      obtain ⟨k, m, hk, rfl, rfl, ht⟩ := hrel
      by_cases hlt : k < n
      · obtain ⟨ad, rfl, hab, hc⟩ := h.at_ hlt
        obtain ⟨ad', rfl, hab', hc'⟩ := h'.at_ hlt
        rw [ints_getD .i64 xs (by have := HX.out; omega)] at hc
        rw [ints_getD .i64 ys (by have := HY.out; omega)] at hc'
        by_cases he : xs.getD k 0 = ys.getD k 0
        · have HE := Lib.hid he
          rw [he] at hc
          clear he
          go_wp2
          go_quiet (fail)
          go_wp2
          go_roundw
          case rel => exact ⟨k + 1, _, by omega, by go_num, rfl, Lib.hid (getD_of_take (by have := HX.out; omega) (by have := HY.out; omega) ht.out HE.out)⟩
          case measure => simp [intOf]; omega
        · have HN := Lib.hid (ne_of_getD he)
          generalize xs.getD k 0 = x at hc he
          generalize ys.getD k 0 = y at hc' he
          have he' : (x != y) = true := by simpa using he
          clear he
          go_wp2
          go_quiet (fail)
          go_wp2
          go_ret
          exact ⟨_, retB HN.out.symm, World.drewN_drewN _ _ _⟩
      · go_wp2
        go_ret
        have hx := HX.out
        have hy := HY.out
        have h1 := ht.out
        rw [List.take_of_length_le (by omega), List.take_of_length_le (by omega)] at h1
        exact ⟨_, by simp [h1], rfl⟩
  · have hN : Hid (decide (xs = ys) = false) := Lib.hid (decide_eq_false fun e => hnn (by rw [← HX.out, ← HY.out, e]))
    go_enter Tryd.func17, Tryd.ntmps17
    go_wp2
    go_ret
    exact ⟨0, retB hN.out.symm, rfl⟩
/-- The marks: k, k + 1, .. -/
@[irreducible] def marks (k n : Nat) : List Value := (List.range n).map fun (i : Nat) => .int .i64 ((k + i : Nat) : Int)
/-- The first j marked. -/
@[irreducible] def marked (xs : List Value) (k j : Nat) : List Value := marks k j ++ xs.drop j
theorem marked_zero (xs : List Value) (k : Nat) : marked xs k 0 = xs := by unfold marked marks; simp
theorem marked_full (xs : List Value) (k : Nat) : marked xs k xs.length = marks k xs.length := by unfold marked; simp
theorem marks_len (k n : Nat) : (marks k n).length = n := by unfold marks; simp
theorem marks_at {k n j : Nat} (h : j < n) : (marks k n).getD j undef = .int .i64 ((k + j : Nat) : Int) := by unfold marks; simp [List.getD, h]
theorem marked_set (xs : List Value) (k : Nat) {j : Nat} (h : j < xs.length) : (marked xs k j).set j (.int .i64 ((k + j : Nat) : Int)) = marked xs k (j + 1) := by
  unfold marked
  have e : xs.drop j = xs[j] :: xs.drop (j + 1) := (List.getElem_cons_drop h).symm
  rw [e, List.set_append_right _ _ (by rw [marks_len]; omega), marks_len, Nat.sub_self]
  have e2 : marks k (j + 1) = marks k j ++ [.int .i64 ((k + j : Nat) : Int)] := by unfold marks; simp [List.range_succ]
  rw [e2, List.append_assoc]; rfl
theorem marked_cell (xs : List Value) (k : Nat) {j : Nat} (h : j < xs.length) : (marked xs k j)[j]? = some xs[j] := by
  unfold marked
  rw [List.getElem?_append_right (by rw [marks_len]; omega), marks_len, Nat.sub_self]
  simp [h]
theorem grown_set2 {w wr : World} {p : Addr} {g : Nat} (h : w.grownBy wr (some g)) (hp : p.block = g) (u : Value) : w.grownBy (wr.setCell p u) (some g) :=
  ⟨h.os, h.tape, h.output, by simpa [World.setCell] using h.size, fun i hi hne => (Below.heap_setCell wr p u i (by rintro rfl; exact hne (by rw [hp]))).trans (h.block i hi hne)⟩
set_option maxHeartbeats 800000 in
theorem markS_any (A : Option Addr) (n c base k : Nat) (xs : List Value) (w : World) (h : w.ownsRow base 2 1 (.slice A n c) n xs) (hn : n ≤ 1048576) (hk : k ≤ 1048576) :
    Calls Tryd.prog 20 #[.slice A n c, .int .i64 k] w fun e w' => e = .returned (.int .i64 ((k + n : Nat) : Int)) ∧
      w'.ownsRow base 2 1 (.slice A n c) n (marks k n) ∧ w.grownBy w' (Value.slice A n c).ownBlock := by
  have hxl : xs.length = n := by have := h.1; omega
  have HX := Lib.hid hxl
  clear hxl
  have HO : Hid (w.ownsRow base 2 1 (.slice A n c) n (marked xs k 0)) := Lib.hid (by rw [marked_zero]; exact h)
  rcases Nat.eq_zero_or_pos n with rfl | hpos
  · have hm : Hid (xs = marks k 0) := Lib.hid (by unfold marks; exact List.eq_nil_of_length_eq_zero HX.out)
    go_enter Tryd.func20, Tryd.ntmps20
    go_wp2
    refine wp_loop_rounds 1 ?_
    rw [rounds_succ]
    go_wp2
    go_ret
    exact ⟨rfl, by rw [← hm.out]; exact h, World.grownBy.refl _ _⟩
  · obtain ⟨g, rfl, hbg, hg⟩ := own_addr h hpos
    clear h
    go_enter Tryd.func20, Tryd.ntmps20
    go_wp2
    go_loopw [5, 1] (fun i q wr => ∃ j : Nat, j ≤ n ∧ i = .int .i64 j ∧ q = .int .i64 ((k + j : Nat) : Int) ∧ Hid (wr.ownsRow base 2 1 (.slice (some ⟨g, 0, none⟩) n c) n (marked xs k j)) ∧ Hid (w.grownBy wr (some g))) (fun i _ _ => n - (intOf i).toNat)
    case atStart => exact ⟨0, Nat.zero_le _, rfl, rfl, HO, Lib.hid (World.grownBy.refl _ _)⟩
    case round =>
      clear HO
      obtain ⟨j, hj, rfl, rfl, hO, hG⟩ := hrel
      by_cases hlt : j < n
      · have hc2 : wr.cell? ⟨g, j, none⟩ = some (xs[j]'(by have := HX.out; omega)) := by rw [hO.out.cellAt j (by omega)]; exact marked_cell xs k _
        have hf := hO.out.frozenAt j
        go_wp2
        go_roundw
        case rel => exact ⟨j + 1, by omega, by go_num, by go_num, by have := (hO.out.stored j (.int .i64 ((k + j : Nat) : Int))).1; rw [marked_set xs k (by have := HX.out; omega)] at this; exact Lib.hid this, Lib.hid (grown_set2 hG.out rfl _)⟩
        case measure => simp [intOf]; omega
      · go_wp2
        go_ret
        obtain rfl : j = n := by omega
        have hO2 := hO.out
        have e := marked_full xs k
        rw [HX.out] at e
        rw [e] at hO2
        exact ⟨rfl, hO2, hG.out⟩
set_option maxHeartbeats 800000 in
theorem heldS_any (A : Option Addr) (n c B k : Nat) (w : World) (h : Lies w B A n (marks k n)) (hn : n ≤ 1048576) (hk : k ≤ 1048576) :
    Calls Tryd.prog 21 #[.slice A n c, .int .i64 k] w fun e w' => ∃ m, e = .returned (.int .i64 ((k + n : Nat) : Int)) ∧ w' = w.drewN m := by
  go_enter Tryd.func21, Tryd.ntmps21
  go_wp2
  go_loopw [5, 1] (fun i q wr => ∃ j m : Nat, j ≤ n ∧ i = .int .i64 j ∧ q = .int .i64 ((k + j : Nat) : Int) ∧ wr = w.drewN m) (fun i _ _ => n - (intOf i).toNat)
  case atStart => exact ⟨0, 0, Nat.zero_le _, rfl, rfl, rfl⟩
  case round =>
    obtain ⟨j, m, hj, rfl, rfl, rfl⟩ := hrel
    by_cases hlt : j < n
    · obtain ⟨ad, rfl, hab, hc⟩ := h.at_ hlt
      rw [marks_at hlt] at hc
      go_wp2
      go_roundw
      case rel => exact ⟨j + 1, _, by omega, by go_num, by go_num, rfl⟩
      case measure => simp [intOf]; omega
    · go_wp2
      go_ret
      obtain rfl : j = n := by omega
      exact ⟨_, rfl, rfl⟩
end Go.Proofs.YtlbhmjkghdhlpaaDoor
