/-
  Contracts of BitsOfHash and its twin: the first binary digits of a hash.
-/
import Derived.Test.YtcimnklgkdnaaaaBools
namespace Go.Proofs.Ytcimnklgkdnaaaa
open Go.RowKit

/-- Digit j of a hash, from the greatest one on. -/
@[irreducible] def bit (q : Int) (j : Nat) : Bool := bits BinOp.and IntKind.i64 (q / 2 ^ (31 - j)) 1 == 1
@[irreducible] def bts (q : Int) (n : Nat) : List Bool := (List.range n).map (bit q)
theorem bts_zero (q : Int) : bts q 0 = [] := by unfold bts; rfl
theorem bts_len (q : Int) (n : Nat) : (bts q n).length = n := by unfold bts; simp
theorem bts_snoc (q : Int) (j : Nat) : (bts q (j + 1)).map Value.bool = (bts q j).map Value.bool ++ [.bool (bits BinOp.and IntKind.i64 (q / 2 ^ (31 - j)) 1 == 1)] := by
  have e : bit q j = (bits BinOp.and IntKind.i64 (q / 2 ^ (31 - j)) 1 == 1) := by unfold bit; rfl
  rw [← e]; unfold bts; simp [List.range_succ]
@[irreducible] def btB (k s m : Int) : Bool := bothK k s && inB m 0 32
@[irreducible] def btV (k s m : Int) : List Bool := if btB k s m then bts (hsh k s) m.toNat else []
theorem btB_t {k s m : Int} (h1 : bothK k s = true) (h2 : inB m 0 32 = true) : btB k s m = true := by unfold btB; rw [h1, h2]; rfl
theorem btB_f1 {k s m : Int} (h1 : bothK k s = false) : btB k s m = false := by unfold btB; rw [h1]; rfl
theorem btB_f2 {k s m : Int} (h2 : inB m 0 32 = false) : btB k s m = false := by unfold btB; rw [h2]; simp
theorem btV_t {k s m : Int} (h : btB k s m = true) : btV k s m = bts (hsh k s) m.toNat := by unfold btV; rw [if_pos h]
theorem btV_f {k s m : Int} (h : btB k s m = false) : btV k s m = [] := by unfold btV; rw [if_neg (by rw [h]; decide)]
theorem btV_len (k s m : Int) : (btV k s m).length ≤ 32 := by
  rcases h : btB k s m
  · rw [btV_f h]; simp
  · rw [btV_t h, bts_len]
    unfold btB at h
    rw [Bool.and_eq_true] at h
    have := inB_of h.2
    omega

set_option maxHeartbeats 1600000 in
theorem sBitsOfHash_any (k s m : Int) (w : World) : Calls Try.prog 31 #[.int .i64 k, .int .i64 s, .int .i64 m] w (MakesB w 4 (btV k s m).length ((btV k s m).map Value.bool) (btB k s m)) := by
  rcases h1 : bothK k s
  · have hb := Lib.hid (btB_f1 (m := m) h1)
    go_enter Try.func31, Try.ntmps31
    go_wp2_with (first | (go_at_call 53; refine (l02Both_any _ _ _).mono ?_; rintro e w' ⟨rfl, rfl⟩) | (go_at_call 49; refine (l00In_any _ _ _ _).mono ?_; rintro e w' ⟨rfl, rfl⟩))
    go_ret2
    exact makes_no _ _ (by rw [btV_f hb.out]; rfl) (by rw [btV_f hb.out]; rfl) hb.out
  have hks : Hid ((0 ≤ k ∧ k ≤ 4294967295) ∧ 0 ≤ s ∧ s ≤ 4294967295) := Lib.hid (by unfold bothK at h1; rw [Bool.and_eq_true] at h1; exact ⟨isK_of h1.1, isK_of h1.2⟩)
  have HB1 : Hid (bothK k s = true) := Lib.hid h1
  rcases h2 : inB m 0 32
  · have hb := Lib.hid (btB_f2 (k := k) (s := s) h2)
    go_enter Try.func31, Try.ntmps31
    go_wp2_with (first | (go_at_call 53; refine (l02Both_any _ _ _).mono ?_; rintro e w' ⟨rfl, rfl⟩) | (go_at_call 49; refine (l00In_any _ _ _ _).mono ?_; rintro e w' ⟨rfl, rfl⟩))
    go_ret2
    exact makes_no _ _ (by rw [btV_f hb.out]; rfl) (by rw [btV_f hb.out]; rfl) hb.out
  have hb := Lib.hid (btB_t HB1.out h2)
  obtain ⟨m1, m2⟩ := inB_of h2
  obtain ⟨N, rfl⟩ : ∃ N : Nat, m = N := ⟨m.toNat, by omega⟩
  obtain ⟨i0, hi0, hz0, hz1, hz2⟩ := info_parts info_bool
  have HO : Hid ((w.alloc (.cells #[] 4)).ownsRow w.heap.size 4 1 (.slice (some ⟨w.heap.size, 0, none⟩) 0 0) 0 ((bts (hsh k s) 0).map Value.bool)) := Lib.hid (by rw [bts_zero]; exact own_lit w _)
  have HV := Lib.hid (btV_t hb.out)
  obtain ⟨g1, g2⟩ := hsh_bd k s
  go_enter Try.func31, Try.ntmps31
  go_wp2_with (first | (go_at_call 53; refine (l02Both_any _ _ _).mono ?_; rintro e w' ⟨rfl, rfl⟩) | (go_at_call 49; refine (l00In_any _ _ _ _).mono ?_; rintro e w' ⟨rfl, rfl⟩) | (go_at_call 46; refine (l02Hash_any _ _ _ hks.out.1 hks.out.2).mono ?_; rintro e w' ⟨rfl, rfl⟩))
  generalize hsh k s = q at *
  go_loopw [9, 10] (fun v i wr => ∃ j : Nat, j ≤ N ∧ i = .int .i64 j ∧ Hid (wr.ownsRow w.heap.size 4 1 v j ((bts q j).map Value.bool)) ∧ Hid (Below w.heap.size w wr)) (fun _ i _ => N - (intOf i).toNat)
  case atStart => exact ⟨0, Nat.zero_le _, rfl, HO, Lib.hid ((Below.refl _ _).alloc (Nat.le_refl _) _)⟩
  case round =>
    clear HO
    obtain ⟨j, hj, rfl, hO, hG⟩ := hrel
    by_cases hlt : j < N
    · have hsz := hG.out.size
      go_wp2_with (at_builtin; refine wpList_snoc rfl _ _ 40 rfl w.heap.size 4 i0 (.bool false) 1 Try.underlying40 hi0 hz0 hz1 hz2 rfl (by decide) _ j _ rfl hO.out _ rfl rfl (by omega) hsz ?_; intro v' w1 ho1 hb1)
      have HO1 : Hid (w1.ownsRow w.heap.size 4 1 v' (j + 1) ((bts q (j + 1)).map Value.bool)) := Lib.hid (by rw [bts_snoc]; exact ho1)
      have HB2 := Lib.hid (hG.out.trans hb1)
      clear ho1 hb1
      go_wp2
      go_roundw
      case rel => exact ⟨j + 1, by omega, by go_num, HO1, HB2⟩
      case measure => simp [intOf]; omega
    · go_wp2
      go_ret2
      obtain rfl : j = N := by omega
      have h4 := hO.out
      obtain ⟨A', c', e'⟩ := own_form h4
      subst e'
      exact makes_yes h4 hG.out (by rw [HV.out, Int.toNat_natCast, bts_len]) (by rw [HV.out, Int.toNat_natCast]) hb.out
set_option maxHeartbeats 1600000 in
theorem BitsOfHash_any (k s m : Int) (w : World) : Calls Try.prog 32 #[.int .i64 k, .int .i64 s, .int .i64 m] w (MakesB w 4 (btV k s m).length ((btV k s m).map Value.bool) (btB k s m)) := by
  rcases h1 : isK k
  · have hb := Lib.hid (btB_f1 (m := m) (bothK_f1 (s := s) h1))
    go_enter Try.func32, Try.ntmps32
    go_wp2_with (first | (go_at_call 47; refine (IsKey_any _ _).mono ?_; rintro e w' ⟨rfl, rfl⟩) | (go_at_call 51; refine (within_any _ _ _ _).mono ?_; rintro e w' ⟨rfl, rfl⟩))
    go_ret2
    exact makes_no _ _ (by rw [btV_f hb.out]; rfl) (by rw [btV_f hb.out]; rfl) hb.out
  rcases h1' : isK s
  · have hb := Lib.hid (btB_f1 (m := m) (bothK_f2 (k := k) h1'))
    go_enter Try.func32, Try.ntmps32
    go_wp2_with (first | (go_at_call 47; refine (IsKey_any _ _).mono ?_; rintro e w' ⟨rfl, rfl⟩) | (go_at_call 51; refine (within_any _ _ _ _).mono ?_; rintro e w' ⟨rfl, rfl⟩))
    go_ret2
    exact makes_no _ _ (by rw [btV_f hb.out]; rfl) (by rw [btV_f hb.out]; rfl) hb.out
  have hks : Hid ((0 ≤ k ∧ k ≤ 4294967295) ∧ 0 ≤ s ∧ s ≤ 4294967295) := Lib.hid ⟨isK_of h1, isK_of h1'⟩
  have HB1 : Hid (bothK k s = true) := Lib.hid (bothK_t h1 h1')
  rcases h2 : inB m 0 32
  · have hb := Lib.hid (btB_f2 (k := k) (s := s) h2)
    go_enter Try.func32, Try.ntmps32
    go_wp2_with (first | (go_at_call 47; refine (IsKey_any _ _).mono ?_; rintro e w' ⟨rfl, rfl⟩) | (go_at_call 51; refine (within_any _ _ _ _).mono ?_; rintro e w' ⟨rfl, rfl⟩))
    go_ret2
    exact makes_no _ _ (by rw [btV_f hb.out]; rfl) (by rw [btV_f hb.out]; rfl) hb.out
  have hb := Lib.hid (btB_t HB1.out h2)
  obtain ⟨m1, m2⟩ := inB_of h2
  obtain ⟨N, rfl⟩ : ∃ N : Nat, m = N := ⟨m.toNat, by omega⟩
  obtain ⟨i0, hi0, hz0, hz1, hz2⟩ := info_parts info_bool
  have HO : Hid ((w.alloc (.cells #[] 4)).ownsRow w.heap.size 4 1 (.slice (some ⟨w.heap.size, 0, none⟩) 0 0) 0 ((bts (hsh k s) 0).map Value.bool)) := Lib.hid (by rw [bts_zero]; exact own_lit w _)
  have HV := Lib.hid (btV_t hb.out)
  obtain ⟨g1, g2⟩ := hsh_bd k s
  go_enter Try.func32, Try.ntmps32
  go_wp2_with (first | (go_at_call 47; refine (IsKey_any _ _).mono ?_; rintro e w' ⟨rfl, rfl⟩) | (go_at_call 51; refine (within_any _ _ _ _).mono ?_; rintro e w' ⟨rfl, rfl⟩) | (go_at_call 48; refine (hash_any _ _ _ hks.out.1 hks.out.2).mono ?_; rintro e w' ⟨rfl, rfl⟩))
  generalize hsh k s = q at *
  go_loopw [9, 29] (fun v i wr => ∃ j : Nat, j ≤ N ∧ i = .int .i64 j ∧ Hid (wr.ownsRow w.heap.size 4 1 v j ((bts q j).map Value.bool)) ∧ Hid (Below w.heap.size w wr)) (fun _ i _ => N - (intOf i).toNat)
  case atStart => exact ⟨0, Nat.zero_le _, rfl, HO, Lib.hid ((Below.refl _ _).alloc (Nat.le_refl _) _)⟩
  case round =>
    clear HO
    obtain ⟨j, hj, rfl, hO, hG⟩ := hrel
    by_cases hlt : j < N
    · have hsz := hG.out.size
      go_wp2_with (at_builtin; refine wpList_snoc rfl _ _ 40 rfl w.heap.size 4 i0 (.bool false) 1 Try.underlying40 hi0 hz0 hz1 hz2 rfl (by decide) _ j _ rfl hO.out _ rfl rfl (by omega) hsz ?_; intro v' w1 ho1 hb1)
      have HO1 : Hid (w1.ownsRow w.heap.size 4 1 v' (j + 1) ((bts q (j + 1)).map Value.bool)) := Lib.hid (by rw [bts_snoc]; exact ho1)
      have HB2 := Lib.hid (hG.out.trans hb1)
      clear ho1 hb1
      go_wp2
      go_roundw
      case rel => exact ⟨j + 1, by omega, by go_num, HO1, HB2⟩
      case measure => simp [intOf]; omega
    · go_wp2
      go_ret2
      obtain rfl : j = N := by omega
      have h4 := hO.out
      obtain ⟨A', c', e'⟩ := own_form h4
      subst e'
      exact makes_yes h4 hG.out (by rw [HV.out, Int.toNat_natCast, bts_len]) (by rw [HV.out, Int.toNat_natCast]) hb.out
end Go.Proofs.Ytcimnklgkdnaaaa
