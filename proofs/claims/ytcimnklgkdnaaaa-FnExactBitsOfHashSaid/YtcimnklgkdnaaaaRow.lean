/-
  Contracts of HashRow and its twin: a list of hashes is appended to one by one.
-/
import Derived.Test.YtcimnklgkdnaaaaKeys
namespace Go.Proofs.Ytcimnklgkdnaaaa
open Go.RowKit

@[irreducible] def rowL (zs : List Int) (s : Int) : List Value := (zs.map fun z => hsh z s).map (Value.int .i64)
theorem rowL_zero (zs : List Int) (s : Int) : rowL (zs.take 0) s = [] := by unfold rowL; simp
theorem rowL_snoc {zs : List Int} {k : Nat} (h : k < zs.length) (s : Int) : rowL (zs.take (k + 1)) s = rowL (zs.take k) s ++ [.int .i64 (hsh (zs.getD k 0) s)] := by
  unfold rowL; rw [ints_take_snoc zs h]; simp
theorem rowL_len (zs : List Int) (s : Int) : (rowL zs s).length = zs.length := by unfold rowL; simp
/-- What a call leaves: a list of its own. -/
def Makes (w : World) (e : TypeId) (n : Nat) (xs : List Value) (en : Ending) (w' : World) : Prop :=
  ∃ A c, en = .returned (.slice A n c) ∧ w'.ownsRow w.heap.size e 1 (.slice A n c) n xs ∧ Below w.heap.size w w'
/-- .. beside a truth value. -/
def MakesB (w : World) (e : TypeId) (n : Nat) (xs : List Value) (b : Bool) (en : Ending) (w' : World) : Prop :=
  ∃ A c, en = .returned (.tuple #[.slice A n c, .bool b]) ∧ w'.ownsRow w.heap.size e 1 (.slice A n c) n xs ∧ Below w.heap.size w w'

set_option maxHeartbeats 800000 in
theorem l02Row_any (A : Option Addr) (n c : Nat) (zs : List Int) (s : Int) (w : World) (h : Lies w w.heap.size A n (zs.map (Value.int .i64))) (hn : n ≤ 1048576) (hz : ∀ k, k < zs.length → 0 ≤ zs.getD k 0 ∧ zs.getD k 0 ≤ 4294967295) (hs : 0 ≤ s ∧ s ≤ 4294967295) :
    Calls Try.prog 57 #[.slice A n c, .int .i64 s] w (Makes w 2 n (rowL zs s)) := by
  obtain ⟨i0, hi0, hz0, hz1, hz2⟩ := info_parts info64
  have hzl : zs.length = n := by have := h.1; simpa using this
  have HZ := Lib.hid hzl
  have HK := Lib.hid hz
  have HO : Hid ((w.alloc (.cells #[] 2)).ownsRow w.heap.size 2 1 (.slice (some ⟨w.heap.size, 0, none⟩) 0 0) 0 (rowL (zs.take 0) s)) := Lib.hid (by rw [rowL_zero]; exact own_lit w _)
  clear hzl hz
  go_enter Try.func57, Try.ntmps57
  go_wp2
  go_loopw [5, 6] (fun v i wr => ∃ k : Nat, k ≤ n ∧ i = .int .i64 k ∧ Hid (wr.ownsRow w.heap.size 2 1 v k (rowL (zs.take k) s)) ∧ Hid (Below w.heap.size w wr)) (fun _ i _ => n - (intOf i).toNat)
  case atStart => exact ⟨0, Nat.zero_le _, rfl, HO, Lib.hid ((Below.refl _ _).alloc (Nat.le_refl _) _)⟩
  case round =>
    clear HO
    obtain ⟨k, hk, rfl, hO, hG⟩ := hrel
    by_cases hlt : k < n
    · obtain ⟨ad, rfl, hab, hc⟩ := h.at_ hlt
      rw [ints_getD .i64 zs (by have := HZ.out; omega)] at hc
      have hc1 := (hG.out.cell (p := ad.add k) (by rw [addb]; exact hab)).trans hc
      have hx := HK.out k (by have := HZ.out; omega)
      have HS := Lib.hid (rowL_snoc (zs := zs) (k := k) (by have := HZ.out; omega) s)
      have hsz := hG.out.size
      clear hc
      generalize zs.getD k 0 = x at *
      go_wp2_with (first
        | (go_at_call 46; refine (l02Hash_any _ _ _ hx hs).mono ?_; rintro e w' ⟨rfl, rfl⟩)
        | (at_builtin; refine wpList_snoc rfl _ _ 22 rfl w.heap.size 2 i0 (.int .i64 0) 8 Try.underlying22 hi0 hz0 hz1 hz2 rfl (by decide) _ k _ rfl hO.out _ rfl rfl (by omega) hsz ?_; intro v' w1 ho1 hb1))
      have HO1 : Hid (w1.ownsRow w.heap.size 2 1 v' (k + 1) (rowL (zs.take (k + 1)) s)) := Lib.hid (by rw [HS.out]; exact ho1)
      have HB1 := Lib.hid (hG.out.trans hb1)
      clear ho1 hb1
      go_wp2
      go_roundw
      case rel => exact ⟨k + 1, by omega, by go_num, HO1, HB1⟩
      case measure => simp [intOf]; omega
    · go_wp2
      go_ret
      obtain rfl : k = n := by omega
      have h1 := hO.out
      rw [List.take_of_length_le (by have := HZ.out; omega)] at h1
      obtain ⟨A', c', e'⟩ := own_form h1
      subst e'
      exact ⟨_, _, rfl, h1, hG.out⟩
set_option maxHeartbeats 800000 in
theorem hashRow_any (A : Option Addr) (n c : Nat) (zs : List Int) (s : Int) (w : World) (h : Lies w w.heap.size A n (zs.map (Value.int .i64))) (hn : n ≤ 1048576) (hz : ∀ k, k < zs.length → 0 ≤ zs.getD k 0 ∧ zs.getD k 0 ≤ 4294967295) (hs : 0 ≤ s ∧ s ≤ 4294967295) :
    Calls Try.prog 58 #[.slice A n c, .int .i64 s] w (Makes w 2 n (rowL zs s)) := by
  obtain ⟨i0, hi0, hz0, hz1, hz2⟩ := info_parts info64
  have hzl : zs.length = n := by have := h.1; simpa using this
  have HZ := Lib.hid hzl
  have HK := Lib.hid hz
  have HO : Hid ((w.alloc (.cells #[] 2)).ownsRow w.heap.size 2 1 (.slice (some ⟨w.heap.size, 0, none⟩) 0 0) 0 (rowL (zs.take 0) s)) := Lib.hid (by rw [rowL_zero]; exact own_lit w _)
  clear hzl hz
  go_enter Try.func58, Try.ntmps58
  go_wp2
  go_loopw [5, 11] (fun v i wr => ∃ k : Nat, k ≤ n ∧ i = .int .i64 k ∧ Hid (wr.ownsRow w.heap.size 2 1 v k (rowL (zs.take k) s)) ∧ Hid (Below w.heap.size w wr)) (fun _ i _ => n - (intOf i).toNat)
  case atStart => exact ⟨0, Nat.zero_le _, rfl, HO, Lib.hid ((Below.refl _ _).alloc (Nat.le_refl _) _)⟩
  case round =>
    clear HO
    obtain ⟨k, hk, rfl, hO, hG⟩ := hrel
    by_cases hlt : k < n
    · obtain ⟨ad, rfl, hab, hc⟩ := h.at_ hlt
      rw [ints_getD .i64 zs (by have := HZ.out; omega)] at hc
      have hc1 := (hG.out.cell (p := ad.add k) (by rw [addb]; exact hab)).trans hc
      have hx := HK.out k (by have := HZ.out; omega)
      have HS := Lib.hid (rowL_snoc (zs := zs) (k := k) (by have := HZ.out; omega) s)
      have hsz := hG.out.size
      clear hc
      generalize zs.getD k 0 = x at *
      go_wp2_with (first
        | (go_at_call 48; refine (hash_any _ _ _ hx hs).mono ?_; rintro e w' ⟨rfl, rfl⟩)
        | (at_builtin; refine wpList_snoc rfl _ _ 22 rfl w.heap.size 2 i0 (.int .i64 0) 8 Try.underlying22 hi0 hz0 hz1 hz2 rfl (by decide) _ k _ rfl hO.out _ rfl rfl (by omega) hsz ?_; intro v' w1 ho1 hb1))
      have HO1 : Hid (w1.ownsRow w.heap.size 2 1 v' (k + 1) (rowL (zs.take (k + 1)) s)) := Lib.hid (by rw [HS.out]; exact ho1)
      have HB1 := Lib.hid (hG.out.trans hb1)
      clear ho1 hb1
      go_wp2
      go_roundw
      case rel => exact ⟨k + 1, by omega, by go_num, HO1, HB1⟩
      case measure => simp [intOf]; omega
    · go_wp2
      go_ret
      obtain rfl : k = n := by omega
      have h1 := hO.out
      rw [List.take_of_length_le (by have := HZ.out; omega)] at h1
      obtain ⟨A', c', e'⟩ := own_form h1
      subst e'
      exact ⟨_, _, rfl, h1, hG.out⟩
@[irreducible] def rowB (zs : List Int) (s : Int) : Bool := keysB zs && isK s
@[irreducible] def rowV (zs : List Int) (s : Int) : List Value := if rowB zs s then rowL zs s else []
theorem rowB_t {zs : List Int} {s : Int} (h1 : keysB zs = true) (h2 : isK s = true) : rowB zs s = true := by unfold rowB; rw [h1, h2]; rfl
theorem rowB_f1 {zs : List Int} {s : Int} (h1 : keysB zs = false) : rowB zs s = false := by unfold rowB; rw [h1]; rfl
theorem rowB_f2 {zs : List Int} {s : Int} (h2 : isK s = false) : rowB zs s = false := by unfold rowB; rw [h2, Bool.and_false]
theorem rowV_t {zs : List Int} {s : Int} (h : rowB zs s = true) : rowV zs s = rowL zs s := by unfold rowV; rw [if_pos h]
theorem rowV_f {zs : List Int} {s : Int} (h : rowB zs s = false) : rowV zs s = [] := by unfold rowV; rw [if_neg (by rw [h]; decide)]
theorem makes_no (w : World) (e : TypeId) {n : Nat} {xs : List Value} {b : Bool} (hn : n = 0) (hx : xs = []) (hb : b = false) : MakesB w e n xs b (.returned (.tuple #[.slice none 0 0, .bool false])) w := by
  subst hn; subst hx; subst hb
  exact ⟨_, _, rfl, World.ownsRow_nil _ _ _ _, Below.refl _ _⟩
theorem makes_yes {w w' : World} {e : TypeId} {n m : Nat} {xs ys : List Value} {b : Bool} {A : Option Addr} {c : Nat} (h : w'.ownsRow w.heap.size e 1 (.slice A n c) n xs) (hb : Below w.heap.size w w') (hm : m = n) (hx : ys = xs) (ht : b = true) :
    MakesB w e m ys b (.returned (.tuple #[.slice A n c, .bool true])) w' := by
  subst hm; subst hx; subst ht
  exact ⟨_, _, rfl, h, hb⟩
set_option maxHeartbeats 800000 in
theorem sHashRow_any (A : Option Addr) (n c : Nat) (zs : List Int) (s : Int) (w : World) (h : Lies w w.heap.size A n (zs.map (Value.int .i64))) (hn : n ≤ 1048576) :
    Calls Try.prog 27 #[.slice A n c, .int .i64 s] w (MakesB w 2 (rowV zs s).length (rowV zs s) (rowB zs s)) := by
  have hl : Hid ((rowL zs s).length = n) := Lib.hid (by rw [rowL_len]; have := h.1; simpa using this)
  rcases h1 : keysB zs
  · have hb := Lib.hid (rowB_f1 (s := s) h1)
    go_enter Try.func27, Try.ntmps27
    go_wp2_with (go_at_call 43; refine (l02Keys_any _ _ _ _ _ _ h hn).mono ?_; rintro e w' ⟨rfl, rfl⟩)
    go_ret2
    exact makes_no _ _ (by rw [rowV_f hb.out]; rfl) (rowV_f hb.out) hb.out
  · have hk := Lib.hid (keys_of h1)
    rcases h2 : isK s
    · have hb := Lib.hid (rowB_f2 (zs := zs) h2)
      go_enter Try.func27, Try.ntmps27
      go_wp2_with (first | (go_at_call 43; refine (l02Keys_any _ _ _ _ _ _ h hn).mono ?_; rintro e w' ⟨rfl, rfl⟩) | (go_at_call 45; refine (l02Key_any _ _).mono ?_; rintro e w' ⟨rfl, rfl⟩))
      go_ret2
      exact makes_no _ _ (by rw [rowV_f hb.out]; rfl) (rowV_f hb.out) hb.out
    · have hb := Lib.hid (rowB_t h1 h2)
      have hs := Lib.hid (isK_of h2)
      go_enter Try.func27, Try.ntmps27
      go_wp2_with (first | (go_at_call 43; refine (l02Keys_any _ _ _ _ _ _ h hn).mono ?_; rintro e w' ⟨rfl, rfl⟩) | (go_at_call 45; refine (l02Key_any _ _).mono ?_; rintro e w' ⟨rfl, rfl⟩) | (go_at_call 57; refine (l02Row_any _ _ _ _ _ _ h hn hk.out.2 hs.out).mono ?_; rintro e w' ⟨A', c', rfl, ho, hb1⟩))
      go_ret2
      exact makes_yes ho hb1 (by rw [rowV_t hb.out]; exact hl.out) (rowV_t hb.out) hb.out
set_option maxHeartbeats 800000 in
theorem HashRow_any (A : Option Addr) (n c : Nat) (zs : List Int) (s : Int) (w : World) (h : Lies w w.heap.size A n (zs.map (Value.int .i64))) (hn : n ≤ 1048576) :
    Calls Try.prog 28 #[.slice A n c, .int .i64 s] w (MakesB w 2 (rowV zs s).length (rowV zs s) (rowB zs s)) := by
  have hl : Hid ((rowL zs s).length = n) := Lib.hid (by rw [rowL_len]; have := h.1; simpa using this)
  rcases h1 : keysB zs
  · have hb := Lib.hid (rowB_f1 (s := s) h1)
    go_enter Try.func28, Try.ntmps28
    go_wp2_with (go_at_call 15; refine (AreKeys_any _ _ _ _ _ _ h hn).mono ?_; rintro e w' ⟨rfl, rfl⟩)
    go_ret2
    exact makes_no _ _ (by rw [rowV_f hb.out]; rfl) (rowV_f hb.out) hb.out
  · have hk := Lib.hid (keys_of h1)
    rcases h2 : isK s
    · have hb := Lib.hid (rowB_f2 (zs := zs) h2)
      go_enter Try.func28, Try.ntmps28
      go_wp2_with (first | (go_at_call 15; refine (AreKeys_any _ _ _ _ _ _ h hn).mono ?_; rintro e w' ⟨rfl, rfl⟩) | (go_at_call 47; refine (IsKey_any _ _).mono ?_; rintro e w' ⟨rfl, rfl⟩))
      go_ret2
      exact makes_no _ _ (by rw [rowV_f hb.out]; rfl) (rowV_f hb.out) hb.out
    · have hb := Lib.hid (rowB_t h1 h2)
      have hs := Lib.hid (isK_of h2)
      go_enter Try.func28, Try.ntmps28
      go_wp2_with (first | (go_at_call 15; refine (AreKeys_any _ _ _ _ _ _ h hn).mono ?_; rintro e w' ⟨rfl, rfl⟩) | (go_at_call 47; refine (IsKey_any _ _).mono ?_; rintro e w' ⟨rfl, rfl⟩) | (go_at_call 58; refine (hashRow_any _ _ _ _ _ _ h hn hk.out.2 hs.out).mono ?_; rintro e w' ⟨A', c', rfl, ho, hb1⟩))
      go_ret2
      exact makes_yes ho hb1 (by rw [rowV_t hb.out]; exact hl.out) (rowV_t hb.out) hb.out
end Go.Proofs.Ytcimnklgkdnaaaa
