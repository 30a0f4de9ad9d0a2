/-
  Contracts of AreKeys and its twin, and of the library's functions that it calls.
-/
import Derived.Test.YtcimnklgkdnaaaaList2
import Derived.Test.YtcimnklgkdnaaaaHash2
namespace Go.Proofs.Ytcimnklgkdnaaaa
open Go.RowKit

@[irreducible] def allK (zs : List Int) : Bool := zs.all isK
@[irreducible] def keysB (zs : List Int) : Bool := decide (zs.length ≤ 256) && allK zs
theorem keysB_long {zs : List Int} (h : 256 < zs.length) : keysB zs = false := by unfold keysB; rw [decide_eq_false (by omega)]; rfl
theorem keysB_short {zs : List Int} (h : zs.length ≤ 256) : keysB zs = allK zs := by unfold keysB; rw [decide_eq_true h]; rfl
theorem allK_zero (zs : List Int) : allK (zs.take 0) = true := by unfold allK; simp
theorem allK_snoc {zs : List Int} {k : Nat} (h : k < zs.length) : allK (zs.take (k + 1)) = (allK (zs.take k) && isK (zs.getD k 0)) := by
  unfold allK; rw [ints_take_snoc zs h]; simp
theorem allK_full {zs : List Int} {k : Nat} (h : zs.length ≤ k) : allK (zs.take k) = allK zs := by rw [List.take_of_length_le h]
theorem allK_bad {zs : List Int} {k : Nat} (h : k < zs.length) (hb : isK (zs.getD k 0) = false) : allK zs = false := by
  unfold allK
  refine Bool.eq_false_iff.2 fun ha => ?_
  rw [List.all_eq_true] at ha
  have := ha (zs.getD k 0) (by simp [List.getD, h])
  rw [hb] at this; cases this
theorem allK_at {zs : List Int} (ha : allK zs = true) {k : Nat} (h : k < zs.length) : isK (zs.getD k 0) = true := by
  rcases hb : isK (zs.getD k 0)
  · rw [allK_bad h hb] at ha; cases ha
  · rfl
theorem keys_of {zs : List Int} (h : keysB zs = true) : zs.length ≤ 256 ∧ ∀ k, k < zs.length → 0 ≤ zs.getD k 0 ∧ zs.getD k 0 ≤ 4294967295 := by
  unfold keysB at h
  rw [Bool.and_eq_true, decide_eq_true_eq] at h
  exact ⟨h.1, fun k hk => isK_of (allK_at h.2 hk)⟩

set_option maxHeartbeats 800000 in
theorem l02Keys_any (A : Option Addr) (n c B : Nat) (zs : List Int) (w : World) (h : Lies w B A n (zs.map (Value.int .i64))) (hn : n ≤ 1048576) :
    Calls Try.prog 43 #[.slice A n c] w fun e w' => e = .returned (.bool (keysB zs)) ∧ w = w' := by
  have hzl : zs.length = n := by have := h.1; simpa using this
  have HZ := Lib.hid hzl
  by_cases hL : n ≤ 256
  · have HK := Lib.hid (keysB_short (zs := zs) (by omega))
    clear hzl
    go_enter Try.func43, Try.ntmps43
    go_wp2
    go_loop [3] (fun i => ∃ k : Nat, k ≤ n ∧ i = .int .i64 k ∧ Hid (allK (zs.take k) = true)) (fun i => n - (intOf i).toNat)
    case atStart => exact ⟨0, Nat.zero_le _, rfl, Lib.hid (allK_zero zs)⟩
    case round =>
      obtain ⟨k, hk, rfl, ha⟩ := hrel
      by_cases hlt : k < n
      · obtain ⟨ad, rfl, hab, hc⟩ := h.at_ hlt
        rw [ints_getD .i64 zs (by have := HZ.out; omega)] at hc
        have HS := Lib.hid (allK_snoc (zs := zs) (k := k) (by have := HZ.out; omega))
        have HB := Lib.hid (allK_bad (zs := zs) (k := k) (by have := HZ.out; omega))
        generalize zs.getD k 0 = x at *
        rcases hx : isK x
        · go_wp2_with (go_at_call 45; refine (l02Key_any _ _).mono ?_; rintro e w' ⟨rfl, rfl⟩)
          go_ret
          exact ⟨retB (by rw [HK.out, HB.out hx]), rfl⟩
        · go_wp2_with (go_at_call 45; refine (l02Key_any _ _).mono ?_; rintro e w' ⟨rfl, rfl⟩)
          go_round
          case rel => exact ⟨k + 1, by omega, by go_num, Lib.hid (by rw [HS.out, ha.out, hx]; rfl)⟩
          case measure => simp [intOf]; omega
      · go_wp2
        go_ret
        have ha2 := ha.out
        rw [allK_full (by have := HZ.out; omega)] at ha2
        exact ⟨retB (by rw [HK.out, ha2]; exact decide_eq_true (by omega)), rfl⟩
  · have HK := Lib.hid (keysB_long (zs := zs) (by omega))
    clear hzl
    go_enter Try.func43, Try.ntmps43
    go_wp2
    refine wp_loop_rounds 1 ?_
    rw [rounds_succ]
    go_wp2
    go_ret
    exact ⟨retB (by rw [HK.out]; exact decide_eq_false (by omega)), rfl⟩
set_option maxHeartbeats 400000 in
theorem sAreKeys_any (A : Option Addr) (n c B : Nat) (zs : List Int) (w : World) (h : Lies w B A n (zs.map (Value.int .i64))) (hn : n ≤ 1048576) :
    Calls Try.prog 13 #[.slice A n c] w fun e w' => e = .returned (.bool (keysB zs)) ∧ w = w' := by
  go_enter Try.func13, Try.ntmps13
  go_wp2_with (go_at_call 43; refine (l02Keys_any _ _ _ _ _ _ h hn).mono ?_; rintro e w' ⟨rfl, rfl⟩)
  go_ret
  exact ⟨rfl, rfl⟩
set_option maxHeartbeats 400000 in
theorem notKey_any (n : Int) (w : World) : Calls Try.prog 65 #[.int .i64 n] w fun e w' => e = .returned (.bool (!isK n)) ∧ w = w' := by
  go_enter Try.func65, Try.ntmps65
  go_wp2_with (go_at_call 47; refine (IsKey_any _ _).mono ?_; rintro e w' ⟨rfl, rfl⟩)
  go_ret
  exact ⟨rfl, rfl⟩
set_option maxHeartbeats 800000 in
theorem ixKeys_any (A : Option Addr) (n c B : Nat) (zs : List Int) (w : World) (h : Lies w B A n (zs.map (Value.int .i64))) (hn : n ≤ 1048576) :
    Calls Try.prog 55 #[.slice A n c, .func (.func 65) #[] #[]] w fun e w' => ∃ r : Int, e = .returned (.int .i64 r) ∧ decide (0 ≤ r) = !allK zs ∧ -1 ≤ r ∧ w = w' := by
  have hzl : zs.length = n := by have := h.1; simpa using this
  have HZ := Lib.hid hzl
  clear hzl
  go_enter Try.func55, Try.ntmps55
  go_wp2
  go_loop [8] (fun i => ∃ k : Nat, k ≤ n ∧ i = .int .i64 k ∧ Hid (allK (zs.take k) = true)) (fun i => n - (intOf i).toNat)
  case atStart => exact ⟨0, Nat.zero_le _, rfl, Lib.hid (allK_zero zs)⟩
  case round =>
    obtain ⟨k, hk, rfl, ha⟩ := hrel
    by_cases hlt : k < n
    · obtain ⟨ad, rfl, hab, hc⟩ := h.at_ hlt
      rw [ints_getD .i64 zs (by have := HZ.out; omega)] at hc
      have HS := Lib.hid (allK_snoc (zs := zs) (k := k) (by have := HZ.out; omega))
      have HB := Lib.hid (allK_bad (zs := zs) (k := k) (by have := HZ.out; omega))
      generalize zs.getD k 0 = x at *
      rcases hx : isK x
      · go_wp2_with (go_at_call 65; refine (notKey_any _ _).mono ?_; rintro e w' ⟨rfl, rfl⟩)
        go_ret
        exact ⟨_, rfl, by rw [HB.out hx]; simp, by omega, rfl⟩
      · go_wp2_with (go_at_call 65; refine (notKey_any _ _).mono ?_; rintro e w' ⟨rfl, rfl⟩)
        go_round
        case rel => exact ⟨k + 1, by omega, by go_num, Lib.hid (by rw [HS.out, ha.out, hx]; rfl)⟩
        case measure => simp [intOf]; omega
    · go_wp2
      go_ret
      have ha2 := ha.out
      rw [allK_full (by have := HZ.out; omega)] at ha2
      exact ⟨_, rfl, by rw [ha2]; rfl, by omega, rfl⟩
set_option maxHeartbeats 400000 in
theorem contains_any (A : Option Addr) (n c B : Nat) (zs : List Int) (w : World) (h : Lies w B A n (zs.map (Value.int .i64))) (hn : n ≤ 1048576) :
    Calls Try.prog 64 #[.slice A n c, .func (.func 65) #[] #[]] w fun e w' => e = .returned (.bool (!allK zs)) ∧ w = w' := by
  go_enter Try.func64, Try.ntmps64
  go_wp2_with (go_at_call 55; refine (ixKeys_any _ _ _ _ _ _ h hn).mono ?_; rintro e w' ⟨r, rfl, hr, hr1, rfl⟩; have HR := Lib.hid hr; clear hr)
  go_ret
  exact ⟨retB HR.out, rfl⟩
set_option maxHeartbeats 400000 in
theorem areAllKeys_any (A : Option Addr) (n c B : Nat) (zs : List Int) (w : World) (h : Lies w B A n (zs.map (Value.int .i64))) (hn : n ≤ 1048576) :
    Calls Try.prog 44 #[.slice A n c] w fun e w' => e = .returned (.bool (allK zs)) ∧ w = w' := by
  go_enter Try.func44, Try.ntmps44
  go_wp2_with (go_at_call 64; refine (contains_any _ _ _ _ _ _ h hn).mono ?_; rintro e w' ⟨rfl, rfl⟩)
  go_ret
  exact ⟨retB (by simp), rfl⟩
set_option maxHeartbeats 400000 in
theorem AreKeys_any (A : Option Addr) (n c B : Nat) (zs : List Int) (w : World) (h : Lies w B A n (zs.map (Value.int .i64))) (hn : n ≤ 1048576) :
    Calls Try.prog 15 #[.slice A n c] w fun e w' => e = .returned (.bool (keysB zs)) ∧ w = w' := by
  have hzl : zs.length = n := by have := h.1; simpa using this
  by_cases hL : n ≤ 256
  · have HK := Lib.hid (keysB_short (zs := zs) (by omega))
    clear hzl
    go_enter Try.func15, Try.ntmps15
    go_wp2_with (go_at_call 44; refine (areAllKeys_any _ _ _ _ _ _ h hn).mono ?_; rintro e w' ⟨rfl, rfl⟩)
    go_ret
    exact ⟨retB HK.out.symm, rfl⟩
  · have HK := Lib.hid (keysB_long (zs := zs) (by omega))
    clear hzl
    go_enter Try.func15, Try.ntmps15
    go_wp2
    go_ret
    exact ⟨retB HK.out.symm, rfl⟩
end Go.Proofs.Ytcimnklgkdnaaaa
