/-
  Contracts of SpreadOfKeys and its twin: how many keys fall on each number below n.
-/
import Derived.Test.YtcimnklgkdnaaaaRow
namespace Go.Proofs.Ytcimnklgkdnaaaa
open Go.RowKit

theorem bel_eq {k s n : Int} (hn : 0 ≤ n ∧ n ≤ 4294967296) : bel k s n = hsh k s * n / 4294967296 := by
  have h := hsh_bd k s
  have h0 : 0 ≤ hsh k s * n := Int.mul_nonneg h.1 hn.1
  have h1 : hsh k s * n ≤ 4294967295 * 4294967296 := Int.mul_le_mul h.2 hn.2 hn.1 (by decide)
  unfold bel
  rw [IntKind.wrap_u64]
  rw [Int.emod_eq_of_lt h0 (by omega)]
theorem bel_lt {k s n : Int} (hn : 1 ≤ n ∧ n ≤ 4294967296) : 0 ≤ bel k s n ∧ bel k s n < n := by
  have h := hsh_bd k s
  rw [bel_eq ⟨by omega, hn.2⟩]
  refine ⟨Int.ediv_nonneg (Int.mul_nonneg h.1 (by omega)) (by decide), Int.ediv_lt_of_lt_mul (by decide) ?_⟩
  rw [Int.mul_comm n]
  exact Int.mul_lt_mul_of_pos_right (by omega) (by omega)
/-- One key more. -/
@[irreducible] def bump (s n : Int) (l : List Int) (z : Int) : List Int := l.set (bel z s n).toNat (l.getD (bel z s n).toNat 0 + 1)
@[irreducible] def spr (s n : Int) (N : Nat) (zs : List Int) : List Int := zs.foldl (bump s n) (List.replicate N 0)
theorem spr_zero (s n : Int) (N : Nat) (zs : List Int) : spr s n N (zs.take 0) = List.replicate N 0 := by unfold spr; simp
theorem spr_snoc (s n : Int) (N : Nat) {zs : List Int} {k : Nat} (h : k < zs.length) : spr s n N (zs.take (k + 1)) = bump s n (spr s n N (zs.take k)) (zs.getD k 0) := by
  unfold spr; rw [ints_take_snoc zs h]; simp
theorem bump_len (s n : Int) (l : List Int) (z : Int) : (bump s n l z).length = l.length := by unfold bump; simp
theorem spr_len (s n : Int) (N : Nat) (zs : List Int) {k : Nat} (h : k ≤ zs.length) : (spr s n N (zs.take k)).length = N := by
  induction k with
  | zero => rw [spr_zero]; simp
  | succ k ih => rw [spr_snoc s n N h, bump_len]; exact ih (by omega)
theorem spr_bd (s n : Int) (N : Nat) (zs : List Int) {k : Nat} (h : k ≤ zs.length) : ∀ j, 0 ≤ (spr s n N (zs.take k)).getD j 0 ∧ (spr s n N (zs.take k)).getD j 0 ≤ k := by
  induction k with
  | zero =>
    intro j
    rw [spr_zero, List.getD_eq_getElem?_getD, List.getElem?_replicate]
    split <;> simp
  | succ k ih =>
    intro j
    have h2 := ih (by omega)
    rw [spr_snoc s n N h]
    unfold bump
    rw [List.getD_eq_getElem?_getD, List.getElem?_set]
    split
    · split
      · have := h2 (bel (zs.getD k 0) s n).toNat
        simp only [Option.getD_some]
        constructor <;> omega
      · simp only [Option.getD_none]; constructor <;> omega
    · rw [← List.getD_eq_getElem?_getD]
      have := h2 j
      constructor <;> omega
theorem spr_set {s n : Int} {l : List Int} {z v : Int} {b : Nat} (hb : bel z s n = b) (hv : l.getD b 0 = v) : (l.map (Value.int .i64)).set b (.int .i64 (v + 1)) = (bump s n l z).map (Value.int .i64) := by
  unfold bump; rw [hb, Int.toNat_natCast, hv, List.map_set]
theorem rep_zero (N : Nat) : (madeCells (Value.int .i64 0).cells (N * 1)).toList = (List.replicate N (0 : Int)).map (Value.int .i64) := by
  show (madeCells #[.int .i64 0] (N * 1)).toList = _
  rw [toList_madeCells_one]; simp
@[irreducible] def sprB (zs : List Int) (s n : Int) : Bool := keysB zs && (isK s && inB n 1 256)
@[irreducible] def sprV (zs : List Int) (s n : Int) : List Int := if sprB zs s n then spr s n n.toNat zs else []
theorem sprB_t {zs : List Int} {s n : Int} (h1 : keysB zs = true) (h2 : isK s = true) (h3 : inB n 1 256 = true) : sprB zs s n = true := by unfold sprB; rw [h1, h2, h3]; rfl
theorem sprB_f1 {zs : List Int} {s n : Int} (h1 : keysB zs = false) : sprB zs s n = false := by unfold sprB; rw [h1]; rfl
theorem sprB_f2 {zs : List Int} {s n : Int} (h2 : isK s = false) : sprB zs s n = false := by unfold sprB; rw [h2]; simp
theorem sprB_f3 {zs : List Int} {s n : Int} (h3 : inB n 1 256 = false) : sprB zs s n = false := by unfold sprB; rw [h3]; simp
theorem sprV_t {zs : List Int} {s n : Int} (h : sprB zs s n = true) : sprV zs s n = spr s n n.toNat zs := by unfold sprV; rw [if_pos h]
theorem sprV_f {zs : List Int} {s n : Int} (h : sprB zs s n = false) : sprV zs s n = [] := by unfold sprV; rw [if_neg (by rw [h]; decide)]
theorem sprV_len (zs : List Int) (s n : Int) : (sprV zs s n).length ≤ 256 := by
  rcases h : sprB zs s n
  · rw [sprV_f h]; simp
  · rw [sprV_t h]
    have := spr_len s n n.toNat zs (Nat.le_refl _)
    rw [List.take_of_length_le (Nat.le_refl _)] at this
    rw [this]
    unfold sprB at h
    simp only [Bool.and_eq_true] at h
    have := inB_of h.2.2
    omega
set_option maxHeartbeats 1600000 in
theorem sSpreadOfKeys_any (A : Option Addr) (n c : Nat) (zs : List Int) (s m : Int) (w : World) (h : Lies w w.heap.size A n (zs.map (Value.int .i64))) (hn : n ≤ 1048576) :
    Calls Try.prog 23 #[.slice A n c, .int .i64 s, .int .i64 m] w (MakesB w 2 (sprV zs s m).length ((sprV zs s m).map (Value.int .i64)) (sprB zs s m)) := by
  have hzl : zs.length = n := by have := h.1; simpa using this
  have HZ := Lib.hid hzl
  clear hzl
  rcases h1 : keysB zs
  · have hb := Lib.hid (sprB_f1 (s := s) (n := m) h1)
    go_enter Try.func23, Try.ntmps23
    go_wp2_with (go_at_call 43; refine (l02Keys_any _ _ _ _ _ _ h hn).mono ?_; rintro e w' ⟨rfl, rfl⟩)
    go_ret2
    exact makes_no _ _ (by rw [sprV_f hb.out]; rfl) (by rw [sprV_f hb.out]; rfl) hb.out
  · have hk := Lib.hid (keys_of h1)
    rcases h2 : isK s
    · have hb := Lib.hid (sprB_f2 (zs := zs) (n := m) h2)
      go_enter Try.func23, Try.ntmps23
      go_wp2_with (first | (go_at_call 43; refine (l02Keys_any _ _ _ _ _ _ h hn).mono ?_; rintro e w' ⟨rfl, rfl⟩) | (go_at_call 45; refine (l02Key_any _ _).mono ?_; rintro e w' ⟨rfl, rfl⟩))
      go_ret2
      exact makes_no _ _ (by rw [sprV_f hb.out]; rfl) (by rw [sprV_f hb.out]; rfl) hb.out
    · rcases h3 : inB m 1 256
      · have hb := Lib.hid (sprB_f3 (zs := zs) (s := s) h3)
        go_enter Try.func23, Try.ntmps23
        go_wp2_with (first | (go_at_call 43; refine (l02Keys_any _ _ _ _ _ _ h hn).mono ?_; rintro e w' ⟨rfl, rfl⟩) | (go_at_call 45; refine (l02Key_any _ _).mono ?_; rintro e w' ⟨rfl, rfl⟩) | (go_at_call 49; refine (l00In_any _ _ _ _).mono ?_; rintro e w' ⟨rfl, rfl⟩))
        go_ret2
        exact makes_no _ _ (by rw [sprV_f hb.out]; rfl) (by rw [sprV_f hb.out]; rfl) hb.out
      · have hb := Lib.hid (sprB_t h1 h2 h3)
        have hs := Lib.hid (isK_of h2)
        obtain ⟨m1, m2⟩ := inB_of h3
        obtain ⟨N, rfl⟩ : ∃ N : Nat, m = N := ⟨m.toNat, by omega⟩
        obtain ⟨i0, hi0, hz0, hz1, hz2⟩ := info_parts info64
        obtain ⟨w1, hmk, hown, hgr⟩ := run_make_full (P := Try.prog) w w.heap.size 22 2 i0 (.int .i64 0) 1 Try.underlying22 hi0 hz0 hz1 .i64 .i64 N (by rw [hz2]; omega) (by unfold maxLen; omega) (Nat.le_refl _)
        have HO : Hid (w1.ownsRow w.heap.size 2 1 (.slice (some ⟨w.heap.size, 0, none⟩) N N) N ((spr s N N (zs.take 0)).map (Value.int .i64))) := Lib.hid (by rw [spr_zero, ← rep_zero]; exact hown)
        have HG := Lib.hid hgr
        clear hown hgr
        go_enter Try.func23, Try.ntmps23
        go_wp2_with (first | (go_at_call 43; refine (l02Keys_any _ _ _ _ _ _ h hn).mono ?_; rintro e w' ⟨rfl, rfl⟩) | (go_at_call 45; refine (l02Key_any _ _).mono ?_; rintro e w' ⟨rfl, rfl⟩) | (go_at_call 49; refine (l00In_any _ _ _ _).mono ?_; rintro e w' ⟨rfl, rfl⟩))
        go_loopw [9] (fun i wr => ∃ k : Nat, k ≤ n ∧ i = .int .i64 k ∧ Hid (wr.ownsRow w.heap.size 2 1 (.slice (some ⟨w.heap.size, 0, none⟩) N N) N ((spr s N N (zs.take k)).map (Value.int .i64))) ∧ Hid (w.grownBy wr none)) (fun i _ => n - (intOf i).toNat)
        case atStart => exact ⟨0, Nat.zero_le _, rfl, HO, HG⟩
        case round =>
          clear HO HG hmk
          obtain ⟨k, hk1, rfl, hO, hG⟩ := hrel
          by_cases hlt : k < n
          · obtain ⟨ad, rfl, hab, hc⟩ := h.at_ hlt
            rw [ints_getD .i64 zs (by have := HZ.out; omega)] at hc
            have hc1 := (hG.out.cell hc (by simp))
            have hx := hk.out.2 k (by have := HZ.out; omega)
            have HS := Lib.hid (spr_snoc s N N (zs := zs) (k := k) (by have := HZ.out; omega))
            clear hc
            generalize zs.getD k 0 = x at *
            obtain ⟨b0, b1⟩ := bel_lt (k := x) (s := s) (n := N) ⟨by omega, by omega⟩
            obtain ⟨b, hb1⟩ : ∃ b : Nat, bel x s N = b := ⟨(bel x s N).toNat, by omega⟩
            have hcall : ∀ W : World, Calls Try.prog 50 #[.int .i64 x, .int .i64 s, .int .i64 (N : Int)] W fun e w' => e = .returned (.int .i64 (b : Int)) ∧ W = w' := fun W => by rw [← hb1]; exact l02Below_any x s N W hx hs.out ⟨by omega, by omega⟩
            have hCall := Lib.hid hcall
            have HB := Lib.hid hb1
            rw [hb1] at b0 b1
            clear hcall hb1 hx
            have hbN : b < N := by omega
            obtain ⟨v0, v1⟩ := spr_bd s N N zs (k := k) (by have := HZ.out; omega) b
            have hl := spr_len s N N zs (k := k) (by have := HZ.out; omega)
            have hc2 : wr.cell? ⟨w.heap.size, b, none⟩ = some (.int .i64 ((spr s N N (zs.take k)).getD b 0)) := by
              rw [hO.out.cellAt b (by omega)]; simp [List.getD, List.getElem?_eq_getElem (show b < (spr s N N (zs.take k)).length by omega)]
            have hf := hO.out.frozenAt b
            clear hl b0 b1
            obtain ⟨v, HV⟩ : ∃ v, Hid ((spr s N N (zs.take k)).getD b 0 = v) := ⟨_, Lib.hid rfl⟩
            rw [HV.out] at hc2 v0 v1
            go_wp2_with (go_at_call 50; refine (hCall.out _).mono ?_; rintro e w' ⟨rfl, rfl⟩)
            go_roundw
            case rel => exact ⟨k + 1, by omega, by go_num, Lib.hid (by rw [HS.out, ← spr_set HB.out HV.out]; exact (hO.out.stored b (.int .i64 (v + 1))).1), Lib.hid (grown_set hG.out (Nat.le_refl _) _)⟩
            case measure => simp [intOf]; omega
          · go_wp2
            go_ret2
            obtain rfl : k = n := by omega
            have h4 := hO.out
            rw [List.take_of_length_le (by have := HZ.out; omega)] at h4
            have hl := spr_len s N N zs (k := k) (by have := HZ.out; omega)
            rw [List.take_of_length_le (by have := HZ.out; omega)] at hl
            exact makes_yes h4 (below_of_grown hG.out (by simp)) (by rw [sprV_t hb.out, Int.toNat_natCast]; exact hl) (by rw [sprV_t hb.out, Int.toNat_natCast]) hb.out
set_option maxHeartbeats 1600000 in
theorem SpreadOfKeys_any (A : Option Addr) (n c : Nat) (zs : List Int) (s m : Int) (w : World) (h : Lies w w.heap.size A n (zs.map (Value.int .i64))) (hn : n ≤ 1048576) :
    Calls Try.prog 24 #[.slice A n c, .int .i64 s, .int .i64 m] w (MakesB w 2 (sprV zs s m).length ((sprV zs s m).map (Value.int .i64)) (sprB zs s m)) := by
  have hzl : zs.length = n := by have := h.1; simpa using this
  have HZ := Lib.hid hzl
  clear hzl
  rcases h1 : keysB zs
  · have hb := Lib.hid (sprB_f1 (s := s) (n := m) h1)
    go_enter Try.func24, Try.ntmps24
    go_wp2_with (go_at_call 15; refine (AreKeys_any _ _ _ _ _ _ h hn).mono ?_; rintro e w' ⟨rfl, rfl⟩)
    go_ret2
    exact makes_no _ _ (by rw [sprV_f hb.out]; rfl) (by rw [sprV_f hb.out]; rfl) hb.out
  · have hk := Lib.hid (keys_of h1)
    rcases h2 : isK s
    · have hb := Lib.hid (sprB_f2 (zs := zs) (n := m) h2)
      go_enter Try.func24, Try.ntmps24
      go_wp2_with (first | (go_at_call 15; refine (AreKeys_any _ _ _ _ _ _ h hn).mono ?_; rintro e w' ⟨rfl, rfl⟩) | (go_at_call 47; refine (IsKey_any _ _).mono ?_; rintro e w' ⟨rfl, rfl⟩))
      go_ret2
      exact makes_no _ _ (by rw [sprV_f hb.out]; rfl) (by rw [sprV_f hb.out]; rfl) hb.out
    · rcases h3 : inB m 1 256
      · have hb := Lib.hid (sprB_f3 (zs := zs) (s := s) h3)
        go_enter Try.func24, Try.ntmps24
        go_wp2_with (first | (go_at_call 15; refine (AreKeys_any _ _ _ _ _ _ h hn).mono ?_; rintro e w' ⟨rfl, rfl⟩) | (go_at_call 47; refine (IsKey_any _ _).mono ?_; rintro e w' ⟨rfl, rfl⟩) | (go_at_call 51; refine (within_any _ _ _ _).mono ?_; rintro e w' ⟨rfl, rfl⟩))
        go_ret2
        exact makes_no _ _ (by rw [sprV_f hb.out]; rfl) (by rw [sprV_f hb.out]; rfl) hb.out
      · have hb := Lib.hid (sprB_t h1 h2 h3)
        have hs := Lib.hid (isK_of h2)
        obtain ⟨m1, m2⟩ := inB_of h3
        obtain ⟨N, rfl⟩ : ∃ N : Nat, m = N := ⟨m.toNat, by omega⟩
        obtain ⟨i0, hi0, hz0, hz1, hz2⟩ := info_parts info64
        obtain ⟨w1, hmk, hown, hgr⟩ := run_make_full (P := Try.prog) w w.heap.size 22 2 i0 (.int .i64 0) 1 Try.underlying22 hi0 hz0 hz1 .i64 .i64 N (by rw [hz2]; omega) (by unfold maxLen; omega) (Nat.le_refl _)
        have HO : Hid (w1.ownsRow w.heap.size 2 1 (.slice (some ⟨w.heap.size, 0, none⟩) N N) N ((spr s N N (zs.take 0)).map (Value.int .i64))) := Lib.hid (by rw [spr_zero, ← rep_zero]; exact hown)
        have HG := Lib.hid hgr
        clear hown hgr
        go_enter Try.func24, Try.ntmps24
        go_wp2_with (first | (go_at_call 15; refine (AreKeys_any _ _ _ _ _ _ h hn).mono ?_; rintro e w' ⟨rfl, rfl⟩) | (go_at_call 47; refine (IsKey_any _ _).mono ?_; rintro e w' ⟨rfl, rfl⟩) | (go_at_call 51; refine (within_any _ _ _ _).mono ?_; rintro e w' ⟨rfl, rfl⟩))
        go_loopw [28] (fun i wr => ∃ k : Nat, k ≤ n ∧ i = .int .i64 k ∧ Hid (wr.ownsRow w.heap.size 2 1 (.slice (some ⟨w.heap.size, 0, none⟩) N N) N ((spr s N N (zs.take k)).map (Value.int .i64))) ∧ Hid (w.grownBy wr none)) (fun i _ => n - (intOf i).toNat)
        case atStart => exact ⟨0, Nat.zero_le _, rfl, HO, HG⟩
        case round =>
          clear HO HG hmk
          obtain ⟨k, hk1, rfl, hO, hG⟩ := hrel
          by_cases hlt : k < n
          · obtain ⟨ad, rfl, hab, hc⟩ := h.at_ hlt
            rw [ints_getD .i64 zs (by have := HZ.out; omega)] at hc
            have hc1 := (hG.out.cell hc (by simp))
            have hx := hk.out.2 k (by have := HZ.out; omega)
            have HS := Lib.hid (spr_snoc s N N (zs := zs) (k := k) (by have := HZ.out; omega))
            clear hc
            generalize zs.getD k 0 = x at *
            obtain ⟨b0, b1⟩ := bel_lt (k := x) (s := s) (n := N) ⟨by omega, by omega⟩
            obtain ⟨b, hb1⟩ : ∃ b : Nat, bel x s N = b := ⟨(bel x s N).toNat, by omega⟩
            have hcall : ∀ W : World, Calls Try.prog 52 #[.int .i64 x, .int .i64 s, .int .i64 (N : Int)] W fun e w' => e = .returned (.int .i64 (b : Int)) ∧ W = w' := fun W => by rw [← hb1]; exact below_any x s N W hx hs.out ⟨by omega, by omega⟩
            have hCall := Lib.hid hcall
            have HB := Lib.hid hb1
            rw [hb1] at b0 b1
            clear hcall hb1 hx
            have hbN : b < N := by omega
            obtain ⟨v0, v1⟩ := spr_bd s N N zs (k := k) (by have := HZ.out; omega) b
            have hl := spr_len s N N zs (k := k) (by have := HZ.out; omega)
            have hc2 : wr.cell? ⟨w.heap.size, b, none⟩ = some (.int .i64 ((spr s N N (zs.take k)).getD b 0)) := by
              rw [hO.out.cellAt b (by omega)]; simp [List.getD, List.getElem?_eq_getElem (show b < (spr s N N (zs.take k)).length by omega)]
            have hf := hO.out.frozenAt b
            clear hl b0 b1
            obtain ⟨v, HV⟩ : ∃ v, Hid ((spr s N N (zs.take k)).getD b 0 = v) := ⟨_, Lib.hid rfl⟩
            rw [HV.out] at hc2 v0 v1
            go_wp2_with (go_at_call 52; refine (hCall.out _).mono ?_; rintro e w' ⟨rfl, rfl⟩)
            go_roundw
            case rel => exact ⟨k + 1, by omega, by go_num, Lib.hid (by rw [HS.out, ← spr_set HB.out HV.out]; exact (hO.out.stored b (.int .i64 (v + 1))).1), Lib.hid (grown_set hG.out (Nat.le_refl _) _)⟩
            case measure => simp [intOf]; omega
          · go_wp2
            go_ret2
            obtain rfl : k = n := by omega
            have h4 := hO.out
            rw [List.take_of_length_le (by have := HZ.out; omega)] at h4
            have hl := spr_len s N N zs (k := k) (by have := HZ.out; omega)
            rw [List.take_of_length_le (by have := HZ.out; omega)] at hl
            exact makes_yes h4 (below_of_grown hG.out (by simp)) (by rw [sprV_t hb.out, Int.toNat_natCast]; exact hl) (by rw [sprV_t hb.out, Int.toNat_natCast]) hb.out
end Go.Proofs.Ytcimnklgkdnaaaa
