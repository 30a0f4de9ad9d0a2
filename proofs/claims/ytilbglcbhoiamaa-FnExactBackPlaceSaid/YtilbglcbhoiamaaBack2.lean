/-
  Contracts of BackPlace.
-/
import Derived.Test.YtilbglcbhoiamaaSwap2
namespace Go.Proofs.Ytilbglcbhoiamaa
open Go.RowKit
theorem vI {k : IntKind} {a b : Int} (h : a = b) : Value.int k a = Value.int k b := by rw [h]
set_option maxRecDepth 20000 in
set_option maxHeartbeats 2000000 in
theorem BackPlace_1 (k n f V : Nat) (s : Int) (w : World) (hh : halfD n = 1) (hn : n ≤ 65536) (hk : k < n) (hA : arS k n s = true) (hs1 : 0 ≤ s) (hs2 : s ≤ 4294967295) (hf : runS (bk 2 s) n f k = some V) :
    Calls Try.prog 35 #[.int .i64 k, .int .i64 n, .int .i64 s] w fun e w' => ∃ m, e = .returned (.tuple #[.int .i64 V, .bool true]) ∧ w' = w.drewN m := by
  have hnz := (halfD_of n hn).2.2
  rw [hh] at hnz
  have HH := Lib.hid hh
  have HF := Lib.hid hf
  clear hh hf
  have hkz : k < 2 ^ 1 * 2 ^ 1 := by omega
  simp only [Nat.reducePow, Nat.reduceMul] at hkz hnz
  go_enter Try.func35, Try.ntmps35
  go_wp2_with (first | (go_at_call 56; refine (areSwaps_any _ _ _ _).mono ?_; rintro e w' ⟨rfl, rfl⟩) | (go_at_call 57; refine (halfDigits_any _ _ hn).mono ?_; rintro e w' ⟨rfl, rfl⟩; rw [HH.out]))
  go_loopg [0] f (fun g v wr => ∃ k' : Nat, v = .int .i64 k' ∧ k' < 4 ∧ runS (bk 2 s) n g k' = some V ∧ ∃ m, wr = w.drewN m)
  case atStart => exact ⟨k, rfl, hkz, HF.out, 0, rfl⟩
  case round =>
    obtain ⟨k', rfl, hk', hrun, m, rfl⟩ := hrel
    have HR := Lib.hid hrun
    clear hrun
    have HIN : Hid (∀ j, InZ 2 (fbN 2 s (cutK 2 k') j)) := fbN_in (h := 1) s (cut_in (z := 2 ^ 1) (k := k') (by decide) hk')
    go_wp2
    go_quiet (fail)
    go_wp2
    go_loopw [9, 10, 11] (fun l r i wr => ∃ j : Nat, j ≤ 4 ∧ i = .int .i64 (3 - (j : Int)) ∧ l = .int .i64 (fbN 2 s (cutK 2 k') j).1 ∧ r = .int .i64 (fbN 2 s (cutK 2 k') j).2 ∧ ∃ m, wr = w.drewN m) (fun _ _ i _ => (intOf i + 1).toNat)
    case atStart => exact ⟨0, by omega, by simp, by simp [fbN, cutK], by simp [fbN, cutK], _, World.drewN_drewN _ _ _⟩
    case round =>
      obtain ⟨j, hj, rfl, rfl, rfl, m2, rfl⟩ := hrel
      have hl := (HIN.out j).1
      have hr := (HIN.out j).2
      have HJ : Hid (fbN 2 s (cutK 2 k') (j + 1) = fb 2 s (3 - (j : Int)) (fbN 2 s (cutK 2 k') j)) := rfl
      by_cases hj4 : j < 4
      · have hx := rnd_lt (z := 2) (by decide) s (fbN 2 s (cutK 2 k') j).1 (3 - (j : Int))
        go_wp2_with (go_at_call 58; refine (round_any 1 _ _ _ _ (by decide) (by decide) (by omega) (by omega) (by omega) hs1 hs2).mono ?_; rintro e w' ⟨q, rfl, rfl⟩)
        go_roundw
        case rel => exact ⟨j + 1, by omega, vI (by omega), by rw [HJ.out]; exact (congrArg _ (xorI _ _ (by omega) (by omega))), by rw [HJ.out]; rfl, _, rfl⟩
        case measure => simp [intOf]; omega
      · have hj' : j = 4 := by omega
        have H4 : Hid (bk 2 s k' = (fbN 2 s (cutK 2 k') j).1 * 2 + (fbN 2 s (cutK 2 k') j).2) := by rw [hj']; rfl
        have HS : Hid (bk 2 s k' < 4) := bk_lt (h := 1) s hk'
        clear hj' HIN HJ hk' hkz hnz
        by_cases hend : (fbN 2 s (cutK 2 k') j).1 * 2 + (fbN 2 s (cutK 2 k') j).2 < n
        · have HV : Hid (V = (fbN 2 s (cutK 2 k') j).1 * 2 + (fbN 2 s (cutK 2 k') j).2) := by
            have h1 := HR.out
            cases gk with
            | zero => cases h1
            | succ g =>
              unfold runS at h1
              rw [H4.out, if_pos hend] at h1
              cases h1; rfl
          go_wp2
          go_ret2
          exact ⟨_, ret2 (by rw [HV.out]; simp) rfl, rfl⟩
        · obtain ⟨g, hg, HN⟩ : ∃ g, g < gk ∧ Hid (runS (bk 2 s) n g (bk 2 s k') = some V) := by
            have h1 := HR.out
            cases gk with
            | zero => cases h1
            | succ g =>
              unfold runS at h1
              rw [H4.out, if_neg hend, ← H4.out] at h1
              exact ⟨g, by omega, h1⟩
          go_wp2
          go_roundg g
          case rel => exact ⟨bk 2 s k', by rw [H4.out]; simp, HS.out, HN.out, _, rfl⟩
          case measure => exact hg
set_option maxRecDepth 20000 in
set_option maxHeartbeats 2000000 in
theorem BackPlace_2 (k n f V : Nat) (s : Int) (w : World) (hh : halfD n = 2) (hn : n ≤ 65536) (hk : k < n) (hA : arS k n s = true) (hs1 : 0 ≤ s) (hs2 : s ≤ 4294967295) (hf : runS (bk 4 s) n f k = some V) :
    Calls Try.prog 35 #[.int .i64 k, .int .i64 n, .int .i64 s] w fun e w' => ∃ m, e = .returned (.tuple #[.int .i64 V, .bool true]) ∧ w' = w.drewN m := by
  have hnz := (halfD_of n hn).2.2
  rw [hh] at hnz
  have HH := Lib.hid hh
  have HF := Lib.hid hf
  clear hh hf
  have hkz : k < 2 ^ 2 * 2 ^ 2 := by omega
  simp only [Nat.reducePow, Nat.reduceMul] at hkz hnz
  go_enter Try.func35, Try.ntmps35
  go_wp2_with (first | (go_at_call 56; refine (areSwaps_any _ _ _ _).mono ?_; rintro e w' ⟨rfl, rfl⟩) | (go_at_call 57; refine (halfDigits_any _ _ hn).mono ?_; rintro e w' ⟨rfl, rfl⟩; rw [HH.out]))
  go_loopg [0] f (fun g v wr => ∃ k' : Nat, v = .int .i64 k' ∧ k' < 16 ∧ runS (bk 4 s) n g k' = some V ∧ ∃ m, wr = w.drewN m)
  case atStart => exact ⟨k, rfl, hkz, HF.out, 0, rfl⟩
  case round =>
    obtain ⟨k', rfl, hk', hrun, m, rfl⟩ := hrel
    have HR := Lib.hid hrun
    clear hrun
    have HIN : Hid (∀ j, InZ 4 (fbN 4 s (cutK 4 k') j)) := fbN_in (h := 2) s (cut_in (z := 2 ^ 2) (k := k') (by decide) hk')
    go_wp2
    go_quiet (fail)
    go_wp2
    go_loopw [9, 10, 11] (fun l r i wr => ∃ j : Nat, j ≤ 4 ∧ i = .int .i64 (3 - (j : Int)) ∧ l = .int .i64 (fbN 4 s (cutK 4 k') j).1 ∧ r = .int .i64 (fbN 4 s (cutK 4 k') j).2 ∧ ∃ m, wr = w.drewN m) (fun _ _ i _ => (intOf i + 1).toNat)
    case atStart => exact ⟨0, by omega, by simp, by simp [fbN, cutK], by simp [fbN, cutK], _, World.drewN_drewN _ _ _⟩
    case round =>
      obtain ⟨j, hj, rfl, rfl, rfl, m2, rfl⟩ := hrel
      have hl := (HIN.out j).1
      have hr := (HIN.out j).2
      have HJ : Hid (fbN 4 s (cutK 4 k') (j + 1) = fb 4 s (3 - (j : Int)) (fbN 4 s (cutK 4 k') j)) := rfl
      by_cases hj4 : j < 4
      · have hx := rnd_lt (z := 4) (by decide) s (fbN 4 s (cutK 4 k') j).1 (3 - (j : Int))
        go_wp2_with (go_at_call 58; refine (round_any 2 _ _ _ _ (by decide) (by decide) (by omega) (by omega) (by omega) hs1 hs2).mono ?_; rintro e w' ⟨q, rfl, rfl⟩)
        go_roundw
        case rel => exact ⟨j + 1, by omega, vI (by omega), by rw [HJ.out]; exact (congrArg _ (xorI _ _ (by omega) (by omega))), by rw [HJ.out]; rfl, _, rfl⟩
        case measure => simp [intOf]; omega
      · have hj' : j = 4 := by omega
        have H4 : Hid (bk 4 s k' = (fbN 4 s (cutK 4 k') j).1 * 4 + (fbN 4 s (cutK 4 k') j).2) := by rw [hj']; rfl
        have HS : Hid (bk 4 s k' < 16) := bk_lt (h := 2) s hk'
        clear hj' HIN HJ hk' hkz hnz
        by_cases hend : (fbN 4 s (cutK 4 k') j).1 * 4 + (fbN 4 s (cutK 4 k') j).2 < n
        · have HV : Hid (V = (fbN 4 s (cutK 4 k') j).1 * 4 + (fbN 4 s (cutK 4 k') j).2) := by
            have h1 := HR.out
            cases gk with
            | zero => cases h1
            | succ g =>
              unfold runS at h1
              rw [H4.out, if_pos hend] at h1
              cases h1; rfl
          go_wp2
          go_ret2
          exact ⟨_, ret2 (by rw [HV.out]; simp) rfl, rfl⟩
        · obtain ⟨g, hg, HN⟩ : ∃ g, g < gk ∧ Hid (runS (bk 4 s) n g (bk 4 s k') = some V) := by
            have h1 := HR.out
            cases gk with
            | zero => cases h1
            | succ g =>
              unfold runS at h1
              rw [H4.out, if_neg hend, ← H4.out] at h1
              exact ⟨g, by omega, h1⟩
          go_wp2
          go_roundg g
          case rel => exact ⟨bk 4 s k', by rw [H4.out]; simp, HS.out, HN.out, _, rfl⟩
          case measure => exact hg
set_option maxRecDepth 20000 in
set_option maxHeartbeats 2000000 in
theorem BackPlace_3 (k n f V : Nat) (s : Int) (w : World) (hh : halfD n = 3) (hn : n ≤ 65536) (hk : k < n) (hA : arS k n s = true) (hs1 : 0 ≤ s) (hs2 : s ≤ 4294967295) (hf : runS (bk 8 s) n f k = some V) :
    Calls Try.prog 35 #[.int .i64 k, .int .i64 n, .int .i64 s] w fun e w' => ∃ m, e = .returned (.tuple #[.int .i64 V, .bool true]) ∧ w' = w.drewN m := by
  have hnz := (halfD_of n hn).2.2
  rw [hh] at hnz
  have HH := Lib.hid hh
  have HF := Lib.hid hf
  clear hh hf
  have hkz : k < 2 ^ 3 * 2 ^ 3 := by omega
  simp only [Nat.reducePow, Nat.reduceMul] at hkz hnz
  go_enter Try.func35, Try.ntmps35
  go_wp2_with (first | (go_at_call 56; refine (areSwaps_any _ _ _ _).mono ?_; rintro e w' ⟨rfl, rfl⟩) | (go_at_call 57; refine (halfDigits_any _ _ hn).mono ?_; rintro e w' ⟨rfl, rfl⟩; rw [HH.out]))
  go_loopg [0] f (fun g v wr => ∃ k' : Nat, v = .int .i64 k' ∧ k' < 64 ∧ runS (bk 8 s) n g k' = some V ∧ ∃ m, wr = w.drewN m)
  case atStart => exact ⟨k, rfl, hkz, HF.out, 0, rfl⟩
  case round =>
    obtain ⟨k', rfl, hk', hrun, m, rfl⟩ := hrel
    have HR := Lib.hid hrun
    clear hrun
    have HIN : Hid (∀ j, InZ 8 (fbN 8 s (cutK 8 k') j)) := fbN_in (h := 3) s (cut_in (z := 2 ^ 3) (k := k') (by decide) hk')
    go_wp2
    go_quiet (fail)
    go_wp2
    go_loopw [9, 10, 11] (fun l r i wr => ∃ j : Nat, j ≤ 4 ∧ i = .int .i64 (3 - (j : Int)) ∧ l = .int .i64 (fbN 8 s (cutK 8 k') j).1 ∧ r = .int .i64 (fbN 8 s (cutK 8 k') j).2 ∧ ∃ m, wr = w.drewN m) (fun _ _ i _ => (intOf i + 1).toNat)
    case atStart => exact ⟨0, by omega, by simp, by simp [fbN, cutK], by simp [fbN, cutK], _, World.drewN_drewN _ _ _⟩
    case round =>
      obtain ⟨j, hj, rfl, rfl, rfl, m2, rfl⟩ := hrel
      have hl := (HIN.out j).1
      have hr := (HIN.out j).2
      have HJ : Hid (fbN 8 s (cutK 8 k') (j + 1) = fb 8 s (3 - (j : Int)) (fbN 8 s (cutK 8 k') j)) := rfl
      by_cases hj4 : j < 4
      · have hx := rnd_lt (z := 8) (by decide) s (fbN 8 s (cutK 8 k') j).1 (3 - (j : Int))
        go_wp2_with (go_at_call 58; refine (round_any 3 _ _ _ _ (by decide) (by decide) (by omega) (by omega) (by omega) hs1 hs2).mono ?_; rintro e w' ⟨q, rfl, rfl⟩)
        go_roundw
        case rel => exact ⟨j + 1, by omega, vI (by omega), by rw [HJ.out]; exact (congrArg _ (xorI _ _ (by omega) (by omega))), by rw [HJ.out]; rfl, _, rfl⟩
        case measure => simp [intOf]; omega
      · have hj' : j = 4 := by omega
        have H4 : Hid (bk 8 s k' = (fbN 8 s (cutK 8 k') j).1 * 8 + (fbN 8 s (cutK 8 k') j).2) := by rw [hj']; rfl
        have HS : Hid (bk 8 s k' < 64) := bk_lt (h := 3) s hk'
        clear hj' HIN HJ hk' hkz hnz
        by_cases hend : (fbN 8 s (cutK 8 k') j).1 * 8 + (fbN 8 s (cutK 8 k') j).2 < n
        · have HV : Hid (V = (fbN 8 s (cutK 8 k') j).1 * 8 + (fbN 8 s (cutK 8 k') j).2) := by
            have h1 := HR.out
            cases gk with
            | zero => cases h1
            | succ g =>
              unfold runS at h1
              rw [H4.out, if_pos hend] at h1
              cases h1; rfl
          go_wp2
          go_ret2
          exact ⟨_, ret2 (by rw [HV.out]; simp) rfl, rfl⟩
        · obtain ⟨g, hg, HN⟩ : ∃ g, g < gk ∧ Hid (runS (bk 8 s) n g (bk 8 s k') = some V) := by
            have h1 := HR.out
            cases gk with
            | zero => cases h1
            | succ g =>
              unfold runS at h1
              rw [H4.out, if_neg hend, ← H4.out] at h1
              exact ⟨g, by omega, h1⟩
          go_wp2
          go_roundg g
          case rel => exact ⟨bk 8 s k', by rw [H4.out]; simp, HS.out, HN.out, _, rfl⟩
          case measure => exact hg
set_option maxRecDepth 20000 in
set_option maxHeartbeats 2000000 in
theorem BackPlace_4 (k n f V : Nat) (s : Int) (w : World) (hh : halfD n = 4) (hn : n ≤ 65536) (hk : k < n) (hA : arS k n s = true) (hs1 : 0 ≤ s) (hs2 : s ≤ 4294967295) (hf : runS (bk 16 s) n f k = some V) :
    Calls Try.prog 35 #[.int .i64 k, .int .i64 n, .int .i64 s] w fun e w' => ∃ m, e = .returned (.tuple #[.int .i64 V, .bool true]) ∧ w' = w.drewN m := by
  have hnz := (halfD_of n hn).2.2
  rw [hh] at hnz
  have HH := Lib.hid hh
  have HF := Lib.hid hf
  clear hh hf
  have hkz : k < 2 ^ 4 * 2 ^ 4 := by omega
  simp only [Nat.reducePow, Nat.reduceMul] at hkz hnz
  go_enter Try.func35, Try.ntmps35
  go_wp2_with (first | (go_at_call 56; refine (areSwaps_any _ _ _ _).mono ?_; rintro e w' ⟨rfl, rfl⟩) | (go_at_call 57; refine (halfDigits_any _ _ hn).mono ?_; rintro e w' ⟨rfl, rfl⟩; rw [HH.out]))
  go_loopg [0] f (fun g v wr => ∃ k' : Nat, v = .int .i64 k' ∧ k' < 256 ∧ runS (bk 16 s) n g k' = some V ∧ ∃ m, wr = w.drewN m)
  case atStart => exact ⟨k, rfl, hkz, HF.out, 0, rfl⟩
  case round =>
    obtain ⟨k', rfl, hk', hrun, m, rfl⟩ := hrel
    have HR := Lib.hid hrun
    clear hrun
    have HIN : Hid (∀ j, InZ 16 (fbN 16 s (cutK 16 k') j)) := fbN_in (h := 4) s (cut_in (z := 2 ^ 4) (k := k') (by decide) hk')
    go_wp2
    go_quiet (fail)
    go_wp2
    go_loopw [9, 10, 11] (fun l r i wr => ∃ j : Nat, j ≤ 4 ∧ i = .int .i64 (3 - (j : Int)) ∧ l = .int .i64 (fbN 16 s (cutK 16 k') j).1 ∧ r = .int .i64 (fbN 16 s (cutK 16 k') j).2 ∧ ∃ m, wr = w.drewN m) (fun _ _ i _ => (intOf i + 1).toNat)
    case atStart => exact ⟨0, by omega, by simp, by simp [fbN, cutK], by simp [fbN, cutK], _, World.drewN_drewN _ _ _⟩
    case round =>
      obtain ⟨j, hj, rfl, rfl, rfl, m2, rfl⟩ := hrel
      have hl := (HIN.out j).1
      have hr := (HIN.out j).2
      have HJ : Hid (fbN 16 s (cutK 16 k') (j + 1) = fb 16 s (3 - (j : Int)) (fbN 16 s (cutK 16 k') j)) := rfl
      by_cases hj4 : j < 4
      · have hx := rnd_lt (z := 16) (by decide) s (fbN 16 s (cutK 16 k') j).1 (3 - (j : Int))
        go_wp2_with (go_at_call 58; refine (round_any 4 _ _ _ _ (by decide) (by decide) (by omega) (by omega) (by omega) hs1 hs2).mono ?_; rintro e w' ⟨q, rfl, rfl⟩)
        go_roundw
        case rel => exact ⟨j + 1, by omega, vI (by omega), by rw [HJ.out]; exact (congrArg _ (xorI _ _ (by omega) (by omega))), by rw [HJ.out]; rfl, _, rfl⟩
        case measure => simp [intOf]; omega
      · have hj' : j = 4 := by omega
        have H4 : Hid (bk 16 s k' = (fbN 16 s (cutK 16 k') j).1 * 16 + (fbN 16 s (cutK 16 k') j).2) := by rw [hj']; rfl
        have HS : Hid (bk 16 s k' < 256) := bk_lt (h := 4) s hk'
        clear hj' HIN HJ hk' hkz hnz
        by_cases hend : (fbN 16 s (cutK 16 k') j).1 * 16 + (fbN 16 s (cutK 16 k') j).2 < n
        · have HV : Hid (V = (fbN 16 s (cutK 16 k') j).1 * 16 + (fbN 16 s (cutK 16 k') j).2) := by
            have h1 := HR.out
            cases gk with
            | zero => cases h1
            | succ g =>
              unfold runS at h1
              rw [H4.out, if_pos hend] at h1
              cases h1; rfl
          go_wp2
          go_ret2
          exact ⟨_, ret2 (by rw [HV.out]; simp) rfl, rfl⟩
        · obtain ⟨g, hg, HN⟩ : ∃ g, g < gk ∧ Hid (runS (bk 16 s) n g (bk 16 s k') = some V) := by
            have h1 := HR.out
            cases gk with
            | zero => cases h1
            | succ g =>
              unfold runS at h1
              rw [H4.out, if_neg hend, ← H4.out] at h1
              exact ⟨g, by omega, h1⟩
          go_wp2
          go_roundg g
          case rel => exact ⟨bk 16 s k', by rw [H4.out]; simp, HS.out, HN.out, _, rfl⟩
          case measure => exact hg
set_option maxRecDepth 20000 in
set_option maxHeartbeats 2000000 in
theorem BackPlace_5 (k n f V : Nat) (s : Int) (w : World) (hh : halfD n = 5) (hn : n ≤ 65536) (hk : k < n) (hA : arS k n s = true) (hs1 : 0 ≤ s) (hs2 : s ≤ 4294967295) (hf : runS (bk 32 s) n f k = some V) :
    Calls Try.prog 35 #[.int .i64 k, .int .i64 n, .int .i64 s] w fun e w' => ∃ m, e = .returned (.tuple #[.int .i64 V, .bool true]) ∧ w' = w.drewN m := by
  have hnz := (halfD_of n hn).2.2
  rw [hh] at hnz
  have HH := Lib.hid hh
  have HF := Lib.hid hf
  clear hh hf
  have hkz : k < 2 ^ 5 * 2 ^ 5 := by omega
  simp only [Nat.reducePow, Nat.reduceMul] at hkz hnz
  go_enter Try.func35, Try.ntmps35
  go_wp2_with (first | (go_at_call 56; refine (areSwaps_any _ _ _ _).mono ?_; rintro e w' ⟨rfl, rfl⟩) | (go_at_call 57; refine (halfDigits_any _ _ hn).mono ?_; rintro e w' ⟨rfl, rfl⟩; rw [HH.out]))
  go_loopg [0] f (fun g v wr => ∃ k' : Nat, v = .int .i64 k' ∧ k' < 1024 ∧ runS (bk 32 s) n g k' = some V ∧ ∃ m, wr = w.drewN m)
  case atStart => exact ⟨k, rfl, hkz, HF.out, 0, rfl⟩
  case round =>
    obtain ⟨k', rfl, hk', hrun, m, rfl⟩ := hrel
    have HR := Lib.hid hrun
    clear hrun
    have HIN : Hid (∀ j, InZ 32 (fbN 32 s (cutK 32 k') j)) := fbN_in (h := 5) s (cut_in (z := 2 ^ 5) (k := k') (by decide) hk')
    go_wp2
    go_quiet (fail)
    go_wp2
    go_loopw [9, 10, 11] (fun l r i wr => ∃ j : Nat, j ≤ 4 ∧ i = .int .i64 (3 - (j : Int)) ∧ l = .int .i64 (fbN 32 s (cutK 32 k') j).1 ∧ r = .int .i64 (fbN 32 s (cutK 32 k') j).2 ∧ ∃ m, wr = w.drewN m) (fun _ _ i _ => (intOf i + 1).toNat)
    case atStart => exact ⟨0, by omega, by simp, by simp [fbN, cutK], by simp [fbN, cutK], _, World.drewN_drewN _ _ _⟩
    case round =>
      obtain ⟨j, hj, rfl, rfl, rfl, m2, rfl⟩ := hrel
      have hl := (HIN.out j).1
      have hr := (HIN.out j).2
      have HJ : Hid (fbN 32 s (cutK 32 k') (j + 1) = fb 32 s (3 - (j : Int)) (fbN 32 s (cutK 32 k') j)) := rfl
      by_cases hj4 : j < 4
      · have hx := rnd_lt (z := 32) (by decide) s (fbN 32 s (cutK 32 k') j).1 (3 - (j : Int))
        go_wp2_with (go_at_call 58; refine (round_any 5 _ _ _ _ (by decide) (by decide) (by omega) (by omega) (by omega) hs1 hs2).mono ?_; rintro e w' ⟨q, rfl, rfl⟩)
        go_roundw
        case rel => exact ⟨j + 1, by omega, vI (by omega), by rw [HJ.out]; exact (congrArg _ (xorI _ _ (by omega) (by omega))), by rw [HJ.out]; rfl, _, rfl⟩
        case measure => simp [intOf]; omega
      · have hj' : j = 4 := by omega
        have H4 : Hid (bk 32 s k' = (fbN 32 s (cutK 32 k') j).1 * 32 + (fbN 32 s (cutK 32 k') j).2) := by rw [hj']; rfl
        have HS : Hid (bk 32 s k' < 1024) := bk_lt (h := 5) s hk'
        clear hj' HIN HJ hk' hkz hnz
        by_cases hend : (fbN 32 s (cutK 32 k') j).1 * 32 + (fbN 32 s (cutK 32 k') j).2 < n
        · have HV : Hid (V = (fbN 32 s (cutK 32 k') j).1 * 32 + (fbN 32 s (cutK 32 k') j).2) := by
            have h1 := HR.out
            cases gk with
            | zero => cases h1
            | succ g =>
              unfold runS at h1
              rw [H4.out, if_pos hend] at h1
              cases h1; rfl
          go_wp2
          go_ret2
          exact ⟨_, ret2 (by rw [HV.out]; simp) rfl, rfl⟩
        · obtain ⟨g, hg, HN⟩ : ∃ g, g < gk ∧ Hid (runS (bk 32 s) n g (bk 32 s k') = some V) := by
            have h1 := HR.out
            cases gk with
            | zero => cases h1
            | succ g =>
              unfold runS at h1
              rw [H4.out, if_neg hend, ← H4.out] at h1
              exact ⟨g, by omega, h1⟩
          go_wp2
          go_roundg g
          case rel => exact ⟨bk 32 s k', by rw [H4.out]; simp, HS.out, HN.out, _, rfl⟩
          case measure => exact hg
set_option maxRecDepth 20000 in
set_option maxHeartbeats 2000000 in
theorem BackPlace_6 (k n f V : Nat) (s : Int) (w : World) (hh : halfD n = 6) (hn : n ≤ 65536) (hk : k < n) (hA : arS k n s = true) (hs1 : 0 ≤ s) (hs2 : s ≤ 4294967295) (hf : runS (bk 64 s) n f k = some V) :
    Calls Try.prog 35 #[.int .i64 k, .int .i64 n, .int .i64 s] w fun e w' => ∃ m, e = .returned (.tuple #[.int .i64 V, .bool true]) ∧ w' = w.drewN m := by
  have hnz := (halfD_of n hn).2.2
  rw [hh] at hnz
  have HH := Lib.hid hh
  have HF := Lib.hid hf
  clear hh hf
  have hkz : k < 2 ^ 6 * 2 ^ 6 := by omega
  simp only [Nat.reducePow, Nat.reduceMul] at hkz hnz
  go_enter Try.func35, Try.ntmps35
  go_wp2_with (first | (go_at_call 56; refine (areSwaps_any _ _ _ _).mono ?_; rintro e w' ⟨rfl, rfl⟩) | (go_at_call 57; refine (halfDigits_any _ _ hn).mono ?_; rintro e w' ⟨rfl, rfl⟩; rw [HH.out]))
  go_loopg [0] f (fun g v wr => ∃ k' : Nat, v = .int .i64 k' ∧ k' < 4096 ∧ runS (bk 64 s) n g k' = some V ∧ ∃ m, wr = w.drewN m)
  case atStart => exact ⟨k, rfl, hkz, HF.out, 0, rfl⟩
  case round =>
    obtain ⟨k', rfl, hk', hrun, m, rfl⟩ := hrel
    have HR := Lib.hid hrun
    clear hrun
    have HIN : Hid (∀ j, InZ 64 (fbN 64 s (cutK 64 k') j)) := fbN_in (h := 6) s (cut_in (z := 2 ^ 6) (k := k') (by decide) hk')
    go_wp2
    go_quiet (fail)
    go_wp2
    go_loopw [9, 10, 11] (fun l r i wr => ∃ j : Nat, j ≤ 4 ∧ i = .int .i64 (3 - (j : Int)) ∧ l = .int .i64 (fbN 64 s (cutK 64 k') j).1 ∧ r = .int .i64 (fbN 64 s (cutK 64 k') j).2 ∧ ∃ m, wr = w.drewN m) (fun _ _ i _ => (intOf i + 1).toNat)
    case atStart => exact ⟨0, by omega, by simp, by simp [fbN, cutK], by simp [fbN, cutK], _, World.drewN_drewN _ _ _⟩
    case round =>
      obtain ⟨j, hj, rfl, rfl, rfl, m2, rfl⟩ := hrel
      have hl := (HIN.out j).1
      have hr := (HIN.out j).2
      have HJ : Hid (fbN 64 s (cutK 64 k') (j + 1) = fb 64 s (3 - (j : Int)) (fbN 64 s (cutK 64 k') j)) := rfl
      by_cases hj4 : j < 4
      · have hx := rnd_lt (z := 64) (by decide) s (fbN 64 s (cutK 64 k') j).1 (3 - (j : Int))
        go_wp2_with (go_at_call 58; refine (round_any 6 _ _ _ _ (by decide) (by decide) (by omega) (by omega) (by omega) hs1 hs2).mono ?_; rintro e w' ⟨q, rfl, rfl⟩)
        go_roundw
        case rel => exact ⟨j + 1, by omega, vI (by omega), by rw [HJ.out]; exact (congrArg _ (xorI _ _ (by omega) (by omega))), by rw [HJ.out]; rfl, _, rfl⟩
        case measure => simp [intOf]; omega
      · have hj' : j = 4 := by omega
        have H4 : Hid (bk 64 s k' = (fbN 64 s (cutK 64 k') j).1 * 64 + (fbN 64 s (cutK 64 k') j).2) := by rw [hj']; rfl
        have HS : Hid (bk 64 s k' < 4096) := bk_lt (h := 6) s hk'
        clear hj' HIN HJ hk' hkz hnz
        by_cases hend : (fbN 64 s (cutK 64 k') j).1 * 64 + (fbN 64 s (cutK 64 k') j).2 < n
        · have HV : Hid (V = (fbN 64 s (cutK 64 k') j).1 * 64 + (fbN 64 s (cutK 64 k') j).2) := by
            have h1 := HR.out
            cases gk with
            | zero => cases h1
            | succ g =>
              unfold runS at h1
              rw [H4.out, if_pos hend] at h1
              cases h1; rfl
          go_wp2
          go_ret2
          exact ⟨_, ret2 (by rw [HV.out]; simp) rfl, rfl⟩
        · obtain ⟨g, hg, HN⟩ : ∃ g, g < gk ∧ Hid (runS (bk 64 s) n g (bk 64 s k') = some V) := by
            have h1 := HR.out
            cases gk with
            | zero => cases h1
            | succ g =>
              unfold runS at h1
              rw [H4.out, if_neg hend, ← H4.out] at h1
              exact ⟨g, by omega, h1⟩
          go_wp2
          go_roundg g
          case rel => exact ⟨bk 64 s k', by rw [H4.out]; simp, HS.out, HN.out, _, rfl⟩
          case measure => exact hg
set_option maxRecDepth 20000 in
set_option maxHeartbeats 2000000 in
theorem BackPlace_7 (k n f V : Nat) (s : Int) (w : World) (hh : halfD n = 7) (hn : n ≤ 65536) (hk : k < n) (hA : arS k n s = true) (hs1 : 0 ≤ s) (hs2 : s ≤ 4294967295) (hf : runS (bk 128 s) n f k = some V) :
    Calls Try.prog 35 #[.int .i64 k, .int .i64 n, .int .i64 s] w fun e w' => ∃ m, e = .returned (.tuple #[.int .i64 V, .bool true]) ∧ w' = w.drewN m := by
  have hnz := (halfD_of n hn).2.2
  rw [hh] at hnz
  have HH := Lib.hid hh
  have HF := Lib.hid hf
  clear hh hf
  have hkz : k < 2 ^ 7 * 2 ^ 7 := by omega
  simp only [Nat.reducePow, Nat.reduceMul] at hkz hnz
  go_enter Try.func35, Try.ntmps35
  go_wp2_with (first | (go_at_call 56; refine (areSwaps_any _ _ _ _).mono ?_; rintro e w' ⟨rfl, rfl⟩) | (go_at_call 57; refine (halfDigits_any _ _ hn).mono ?_; rintro e w' ⟨rfl, rfl⟩; rw [HH.out]))
  go_loopg [0] f (fun g v wr => ∃ k' : Nat, v = .int .i64 k' ∧ k' < 16384 ∧ runS (bk 128 s) n g k' = some V ∧ ∃ m, wr = w.drewN m)
  case atStart => exact ⟨k, rfl, hkz, HF.out, 0, rfl⟩
  case round =>
    obtain ⟨k', rfl, hk', hrun, m, rfl⟩ := hrel
    have HR := Lib.hid hrun
    clear hrun
    have HIN : Hid (∀ j, InZ 128 (fbN 128 s (cutK 128 k') j)) := fbN_in (h := 7) s (cut_in (z := 2 ^ 7) (k := k') (by decide) hk')
    go_wp2
    go_quiet (fail)
    go_wp2
    go_loopw [9, 10, 11] (fun l r i wr => ∃ j : Nat, j ≤ 4 ∧ i = .int .i64 (3 - (j : Int)) ∧ l = .int .i64 (fbN 128 s (cutK 128 k') j).1 ∧ r = .int .i64 (fbN 128 s (cutK 128 k') j).2 ∧ ∃ m, wr = w.drewN m) (fun _ _ i _ => (intOf i + 1).toNat)
    case atStart => exact ⟨0, by omega, by simp, by simp [fbN, cutK], by simp [fbN, cutK], _, World.drewN_drewN _ _ _⟩
    case round =>
      obtain ⟨j, hj, rfl, rfl, rfl, m2, rfl⟩ := hrel
      have hl := (HIN.out j).1
      have hr := (HIN.out j).2
      have HJ : Hid (fbN 128 s (cutK 128 k') (j + 1) = fb 128 s (3 - (j : Int)) (fbN 128 s (cutK 128 k') j)) := rfl
      by_cases hj4 : j < 4
      · have hx := rnd_lt (z := 128) (by decide) s (fbN 128 s (cutK 128 k') j).1 (3 - (j : Int))
        go_wp2_with (go_at_call 58; refine (round_any 7 _ _ _ _ (by decide) (by decide) (by omega) (by omega) (by omega) hs1 hs2).mono ?_; rintro e w' ⟨q, rfl, rfl⟩)
        go_roundw
        case rel => exact ⟨j + 1, by omega, vI (by omega), by rw [HJ.out]; exact (congrArg _ (xorI _ _ (by omega) (by omega))), by rw [HJ.out]; rfl, _, rfl⟩
        case measure => simp [intOf]; omega
      · have hj' : j = 4 := by omega
        have H4 : Hid (bk 128 s k' = (fbN 128 s (cutK 128 k') j).1 * 128 + (fbN 128 s (cutK 128 k') j).2) := by rw [hj']; rfl
        have HS : Hid (bk 128 s k' < 16384) := bk_lt (h := 7) s hk'
        clear hj' HIN HJ hk' hkz hnz
        by_cases hend : (fbN 128 s (cutK 128 k') j).1 * 128 + (fbN 128 s (cutK 128 k') j).2 < n
        · have HV : Hid (V = (fbN 128 s (cutK 128 k') j).1 * 128 + (fbN 128 s (cutK 128 k') j).2) := by
            have h1 := HR.out
            cases gk with
            | zero => cases h1
            | succ g =>
              unfold runS at h1
              rw [H4.out, if_pos hend] at h1
              cases h1; rfl
          go_wp2
          go_ret2
          exact ⟨_, ret2 (by rw [HV.out]; simp) rfl, rfl⟩
        · obtain ⟨g, hg, HN⟩ : ∃ g, g < gk ∧ Hid (runS (bk 128 s) n g (bk 128 s k') = some V) := by
            have h1 := HR.out
            cases gk with
            | zero => cases h1
            | succ g =>
              unfold runS at h1
              rw [H4.out, if_neg hend, ← H4.out] at h1
              exact ⟨g, by omega, h1⟩
          go_wp2
          go_roundg g
          case rel => exact ⟨bk 128 s k', by rw [H4.out]; simp, HS.out, HN.out, _, rfl⟩
          case measure => exact hg
set_option maxRecDepth 20000 in
set_option maxHeartbeats 2000000 in
theorem BackPlace_8 (k n f V : Nat) (s : Int) (w : World) (hh : halfD n = 8) (hn : n ≤ 65536) (hk : k < n) (hA : arS k n s = true) (hs1 : 0 ≤ s) (hs2 : s ≤ 4294967295) (hf : runS (bk 256 s) n f k = some V) :
    Calls Try.prog 35 #[.int .i64 k, .int .i64 n, .int .i64 s] w fun e w' => ∃ m, e = .returned (.tuple #[.int .i64 V, .bool true]) ∧ w' = w.drewN m := by
  have hnz := (halfD_of n hn).2.2
  rw [hh] at hnz
  have HH := Lib.hid hh
  have HF := Lib.hid hf
  clear hh hf
  have hkz : k < 2 ^ 8 * 2 ^ 8 := by omega
  simp only [Nat.reducePow, Nat.reduceMul] at hkz hnz
  go_enter Try.func35, Try.ntmps35
  go_wp2_with (first | (go_at_call 56; refine (areSwaps_any _ _ _ _).mono ?_; rintro e w' ⟨rfl, rfl⟩) | (go_at_call 57; refine (halfDigits_any _ _ hn).mono ?_; rintro e w' ⟨rfl, rfl⟩; rw [HH.out]))
  go_loopg [0] f (fun g v wr => ∃ k' : Nat, v = .int .i64 k' ∧ k' < 65536 ∧ runS (bk 256 s) n g k' = some V ∧ ∃ m, wr = w.drewN m)
  case atStart => exact ⟨k, rfl, hkz, HF.out, 0, rfl⟩
  case round =>
    obtain ⟨k', rfl, hk', hrun, m, rfl⟩ := hrel
    have HR := Lib.hid hrun
    clear hrun
    have HIN : Hid (∀ j, InZ 256 (fbN 256 s (cutK 256 k') j)) := fbN_in (h := 8) s (cut_in (z := 2 ^ 8) (k := k') (by decide) hk')
    go_wp2
    go_quiet (fail)
    go_wp2
    go_loopw [9, 10, 11] (fun l r i wr => ∃ j : Nat, j ≤ 4 ∧ i = .int .i64 (3 - (j : Int)) ∧ l = .int .i64 (fbN 256 s (cutK 256 k') j).1 ∧ r = .int .i64 (fbN 256 s (cutK 256 k') j).2 ∧ ∃ m, wr = w.drewN m) (fun _ _ i _ => (intOf i + 1).toNat)
    case atStart => exact ⟨0, by omega, by simp, by simp [fbN, cutK], by simp [fbN, cutK], _, World.drewN_drewN _ _ _⟩
    case round =>
      obtain ⟨j, hj, rfl, rfl, rfl, m2, rfl⟩ := hrel
      have hl := (HIN.out j).1
      have hr := (HIN.out j).2
      have HJ : Hid (fbN 256 s (cutK 256 k') (j + 1) = fb 256 s (3 - (j : Int)) (fbN 256 s (cutK 256 k') j)) := rfl
      by_cases hj4 : j < 4
      · have hx := rnd_lt (z := 256) (by decide) s (fbN 256 s (cutK 256 k') j).1 (3 - (j : Int))
        go_wp2_with (go_at_call 58; refine (round_any 8 _ _ _ _ (by decide) (by decide) (by omega) (by omega) (by omega) hs1 hs2).mono ?_; rintro e w' ⟨q, rfl, rfl⟩)
        go_roundw
        case rel => exact ⟨j + 1, by omega, vI (by omega), by rw [HJ.out]; exact (congrArg _ (xorI _ _ (by omega) (by omega))), by rw [HJ.out]; rfl, _, rfl⟩
        case measure => simp [intOf]; omega
      · have hj' : j = 4 := by omega
        have H4 : Hid (bk 256 s k' = (fbN 256 s (cutK 256 k') j).1 * 256 + (fbN 256 s (cutK 256 k') j).2) := by rw [hj']; rfl
        have HS : Hid (bk 256 s k' < 65536) := bk_lt (h := 8) s hk'
        clear hj' HIN HJ hk' hkz hnz
        by_cases hend : (fbN 256 s (cutK 256 k') j).1 * 256 + (fbN 256 s (cutK 256 k') j).2 < n
        · have HV : Hid (V = (fbN 256 s (cutK 256 k') j).1 * 256 + (fbN 256 s (cutK 256 k') j).2) := by
            have h1 := HR.out
            cases gk with
            | zero => cases h1
            | succ g =>
              unfold runS at h1
              rw [H4.out, if_pos hend] at h1
              cases h1; rfl
          go_wp2
          go_ret2
          exact ⟨_, ret2 (by rw [HV.out]; simp) rfl, rfl⟩
        · obtain ⟨g, hg, HN⟩ : ∃ g, g < gk ∧ Hid (runS (bk 256 s) n g (bk 256 s k') = some V) := by
            have h1 := HR.out
            cases gk with
            | zero => cases h1
            | succ g =>
              unfold runS at h1
              rw [H4.out, if_neg hend, ← H4.out] at h1
              exact ⟨g, by omega, h1⟩
          go_wp2
          go_roundg g
          case rel => exact ⟨bk 256 s k', by rw [H4.out]; simp, HS.out, HN.out, _, rfl⟩
          case measure => exact hg
set_option maxHeartbeats 1000000 in
theorem BackPlace_any (k n s : Int) (w : World) :
    Calls Try.prog 35 #[.int .i64 k, .int .i64 n, .int .i64 s] w fun e w' => ∃ m, e = .returned (.tuple #[.int .i64 (bkV k n s), .bool (arS k n s)]) ∧ w' = w.drewN m := by
  rcases hA : arS k n s
  · go_enter Try.func35, Try.ntmps35
    go_wp2_with (first | (go_at_call 56; refine (areSwaps_any _ _ _ _).mono ?_; rintro e w' ⟨rfl, rfl⟩))
    go_ret2
    exact ⟨0, ret2 (bkV_f hA).symm rfl, rfl⟩
  · obtain ⟨N, K, hN, hK, rfl, rfl, hs, hkn, f, V, hf, hV⟩ := bk_facts hA
    rw [hV]
    have hd := halfD_of N hN
    rcases eight hd.1 hd.2.1 with e | e | e | e | e | e | e | e <;> rw [e] at hf
    · exact BackPlace_1 K N f V s w e hN hkn hA hs.1 hs.2 hf
    · exact BackPlace_2 K N f V s w e hN hkn hA hs.1 hs.2 hf
    · exact BackPlace_3 K N f V s w e hN hkn hA hs.1 hs.2 hf
    · exact BackPlace_4 K N f V s w e hN hkn hA hs.1 hs.2 hf
    · exact BackPlace_5 K N f V s w e hN hkn hA hs.1 hs.2 hf
    · exact BackPlace_6 K N f V s w e hN hkn hA hs.1 hs.2 hf
    · exact BackPlace_7 K N f V s w e hN hkn hA hs.1 hs.2 hf
    · exact BackPlace_8 K N f V s w e hN hkn hA hs.1 hs.2 hf
end Go.Proofs.Ytilbglcbhoiamaa
