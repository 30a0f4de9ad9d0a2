/-
  Contracts of the reference's BackPlace.
-/
import Derived.Test.YtilbglcbhoiamaaBack2
namespace Go.Proofs.Ytilbglcbhoiamaa
open Go.RowKit
set_option maxRecDepth 20000 in
set_option maxHeartbeats 2000000 in
theorem sBackPlace_1 (k n f V : Nat) (s : Int) (w : World) (hh : halfD n = 1) (hn : n ≤ 65536) (hk : k < n) (hA1 : inB n 1 65536 = true) (hA2 : inB k 0 ((n : Int) - 1) = true) (hA3 : isK s = true) (hs1 : 0 ≤ s) (hs2 : s ≤ 4294967295) (hf : runS (bk 2 s) n f k = some V) :
    Calls Try.prog 34 #[.int .i64 k, .int .i64 n, .int .i64 s] w fun e w' => e = .returned (.tuple #[.int .i64 V, .bool true]) ∧ w = w' := by
  have hnz := (halfD_of n hn).2.2
  rw [hh] at hnz
  have HH := Lib.hid hh
  have HF := Lib.hid hf
  clear hh hf
  have hkz : k < 2 ^ 1 * 2 ^ 1 := by omega
  simp only [Nat.reducePow, Nat.reduceMul] at hkz hnz
  go_enter Try.func34, Try.ntmps34
  go_wp2_with (first | (go_at_call 46; refine (l00In_any _ _ _ _).mono ?_; rintro e w' ⟨rfl, rfl⟩) | (go_at_call 40; refine (l02Key_any _ _).mono ?_; rintro e w' ⟨rfl, rfl⟩) | (go_at_call 54; refine (l02Half_any _ _ hn).mono ?_; rintro e w' ⟨rfl, rfl⟩; rw [HH.out]))
  go_loopg [0] f (fun g v wr => ∃ k' : Nat, v = .int .i64 k' ∧ k' < 4 ∧ runS (bk 2 s) n g k' = some V ∧ wr = w)
  case atStart => exact ⟨k, rfl, hkz, HF.out, rfl⟩
  case round =>
    obtain ⟨k', rfl, hk', hrun, hwr⟩ := hrel
    subst hwr
    have HR := Lib.hid hrun
    clear hrun
    have HIN : Hid (∀ j, InZ 2 (fbN 2 s (cutK 2 k') j)) := fbN_in (h := 1) s (cut_in (z := 2 ^ 1) (k := k') (by decide) hk')
    go_wp2
    go_loop [10, 11, 12] (fun l r i => ∃ j : Nat, j ≤ 4 ∧ i = .int .i64 (3 - (j : Int)) ∧ l = .int .i64 (fbN 2 s (cutK 2 k') j).1 ∧ r = .int .i64 (fbN 2 s (cutK 2 k') j).2) (fun _ _ i => (intOf i + 1).toNat)
    case atStart => exact ⟨0, by omega, by simp, by simp [fbN, cutK], by simp [fbN, cutK]⟩
    case round =>
      obtain ⟨j, hj, rfl, rfl, rfl⟩ := hrel
      have hl := (HIN.out j).1
      have hr := (HIN.out j).2
      have HJ : Hid (fbN 2 s (cutK 2 k') (j + 1) = fb 2 s (3 - (j : Int)) (fbN 2 s (cutK 2 k') j)) := rfl
      by_cases hj4 : j < 4
      · have hx := rnd_lt (z := 2) (by decide) s (fbN 2 s (cutK 2 k') j).1 (3 - (j : Int))
        have HX : Hid (hsh (fbN 2 s (cutK 2 k') j).1 ((s + (3 - (j : Int))) % 4294967296) % 2 = (rnd 2 s (fbN 2 s (cutK 2 k') j).1 (3 - (j : Int)) : Int)) := rnd_int 2 s _ _
        have hh2 := hsh_bd (fbN 2 s (cutK 2 k') j).1 ((s + (3 - (j : Int))) % 4294967296)
        go_wp2_with (first | (go_at_call 55; refine (l02Salt_any _ _ _ hs1 hs2 (by omega) (by omega)).mono ?_; rintro e w' ⟨rfl, rfl⟩) | (go_at_call 44; refine (l02Hash_any _ _ _ (by omega) (by omega)).mono ?_; rintro e w' ⟨rfl, rfl⟩))
        go_round
        case rel => exact ⟨j + 1, by omega, vI (by omega), by rw [HJ.out, HX.out]; exact (congrArg _ (xorI _ _ (by omega) (by omega))), by rw [HJ.out]; rfl⟩
        case measure => simp [intOf]; omega
      · have hj' : j = 4 := by omega
        have H4 : Hid (bk 2 s k' = (fbN 2 s (cutK 2 k') j).1 * 2 + (fbN 2 s (cutK 2 k') j).2) := by rw [hj']; rfl
        have HS : Hid (bk 2 s k' < 4) := bk_lt (h := 1) s hk'
        clear hj' HIN HJ hk' hkz hnz
        by_cases hend : (fbN 2 s (cutK 2 k') j).1 * 2 + (fbN 2 s (cutK 2 k') j).2 < n
        · have HV : Hid (V = (fbN 2 s (cutK 2 k') j).1 * 2 + (fbN 2 s (cutK 2 k') j).2) := by
            have h1 := HR.out
            cases gk with
            | zero => cases h1
            | succ g =>
              unfold runS at h1
              rw [H4.out, if_pos hend] at h1
              cases h1; rfl
          go_wp2
          go_ret2
          exact ⟨ret2 (by rw [HV.out]; simp) rfl, rfl⟩
        · obtain ⟨g, hg, HN⟩ : ∃ g, g < gk ∧ Hid (runS (bk 2 s) n g (bk 2 s k') = some V) := by
            have h1 := HR.out
            cases gk with
            | zero => cases h1
            | succ g =>
              unfold runS at h1
              rw [H4.out, if_neg hend, ← H4.out] at h1
              exact ⟨g, by omega, h1⟩
          go_wp2
          go_roundg g
          case rel => exact ⟨bk 2 s k', by rw [H4.out]; simp, HS.out, HN.out, rfl⟩
          case measure => exact hg
set_option maxRecDepth 20000 in
set_option maxHeartbeats 2000000 in
theorem sBackPlace_2 (k n f V : Nat) (s : Int) (w : World) (hh : halfD n = 2) (hn : n ≤ 65536) (hk : k < n) (hA1 : inB n 1 65536 = true) (hA2 : inB k 0 ((n : Int) - 1) = true) (hA3 : isK s = true) (hs1 : 0 ≤ s) (hs2 : s ≤ 4294967295) (hf : runS (bk 4 s) n f k = some V) :
    Calls Try.prog 34 #[.int .i64 k, .int .i64 n, .int .i64 s] w fun e w' => e = .returned (.tuple #[.int .i64 V, .bool true]) ∧ w = w' := by
  have hnz := (halfD_of n hn).2.2
  rw [hh] at hnz
  have HH := Lib.hid hh
  have HF := Lib.hid hf
  clear hh hf
  have hkz : k < 2 ^ 2 * 2 ^ 2 := by omega
  simp only [Nat.reducePow, Nat.reduceMul] at hkz hnz
  go_enter Try.func34, Try.ntmps34
  go_wp2_with (first | (go_at_call 46; refine (l00In_any _ _ _ _).mono ?_; rintro e w' ⟨rfl, rfl⟩) | (go_at_call 40; refine (l02Key_any _ _).mono ?_; rintro e w' ⟨rfl, rfl⟩) | (go_at_call 54; refine (l02Half_any _ _ hn).mono ?_; rintro e w' ⟨rfl, rfl⟩; rw [HH.out]))
  go_loopg [0] f (fun g v wr => ∃ k' : Nat, v = .int .i64 k' ∧ k' < 16 ∧ runS (bk 4 s) n g k' = some V ∧ wr = w)
  case atStart => exact ⟨k, rfl, hkz, HF.out, rfl⟩
  case round =>
    obtain ⟨k', rfl, hk', hrun, hwr⟩ := hrel
    subst hwr
    have HR := Lib.hid hrun
    clear hrun
    have HIN : Hid (∀ j, InZ 4 (fbN 4 s (cutK 4 k') j)) := fbN_in (h := 2) s (cut_in (z := 2 ^ 2) (k := k') (by decide) hk')
    go_wp2
    go_loop [10, 11, 12] (fun l r i => ∃ j : Nat, j ≤ 4 ∧ i = .int .i64 (3 - (j : Int)) ∧ l = .int .i64 (fbN 4 s (cutK 4 k') j).1 ∧ r = .int .i64 (fbN 4 s (cutK 4 k') j).2) (fun _ _ i => (intOf i + 1).toNat)
    case atStart => exact ⟨0, by omega, by simp, by simp [fbN, cutK], by simp [fbN, cutK]⟩
    case round =>
      obtain ⟨j, hj, rfl, rfl, rfl⟩ := hrel
      have hl := (HIN.out j).1
      have hr := (HIN.out j).2
      have HJ : Hid (fbN 4 s (cutK 4 k') (j + 1) = fb 4 s (3 - (j : Int)) (fbN 4 s (cutK 4 k') j)) := rfl
      by_cases hj4 : j < 4
      · have hx := rnd_lt (z := 4) (by decide) s (fbN 4 s (cutK 4 k') j).1 (3 - (j : Int))
        have HX : Hid (hsh (fbN 4 s (cutK 4 k') j).1 ((s + (3 - (j : Int))) % 4294967296) % 4 = (rnd 4 s (fbN 4 s (cutK 4 k') j).1 (3 - (j : Int)) : Int)) := rnd_int 4 s _ _
        have hh2 := hsh_bd (fbN 4 s (cutK 4 k') j).1 ((s + (3 - (j : Int))) % 4294967296)
        go_wp2_with (first | (go_at_call 55; refine (l02Salt_any _ _ _ hs1 hs2 (by omega) (by omega)).mono ?_; rintro e w' ⟨rfl, rfl⟩) | (go_at_call 44; refine (l02Hash_any _ _ _ (by omega) (by omega)).mono ?_; rintro e w' ⟨rfl, rfl⟩))
        go_round
        case rel => exact ⟨j + 1, by omega, vI (by omega), by rw [HJ.out, HX.out]; exact (congrArg _ (xorI _ _ (by omega) (by omega))), by rw [HJ.out]; rfl⟩
        case measure => simp [intOf]; omega
      · have hj' : j = 4 := by omega
        have H4 : Hid (bk 4 s k' = (fbN 4 s (cutK 4 k') j).1 * 4 + (fbN 4 s (cutK 4 k') j).2) := by rw [hj']; rfl
        have HS : Hid (bk 4 s k' < 16) := bk_lt (h := 2) s hk'
        clear hj' HIN HJ hk' hkz hnz
        by_cases hend : (fbN 4 s (cutK 4 k') j).1 * 4 + (fbN 4 s (cutK 4 k') j).2 < n
        · have HV : Hid (V = (fbN 4 s (cutK 4 k') j).1 * 4 + (fbN 4 s (cutK 4 k') j).2) := by
            have h1 := HR.out
            cases gk with
            | zero => cases h1
            | succ g =>
              unfold runS at h1
              rw [H4.out, if_pos hend] at h1
              cases h1; rfl
          go_wp2
          go_ret2
          exact ⟨ret2 (by rw [HV.out]; simp) rfl, rfl⟩
        · obtain ⟨g, hg, HN⟩ : ∃ g, g < gk ∧ Hid (runS (bk 4 s) n g (bk 4 s k') = some V) := by
            have h1 := HR.out
            cases gk with
            | zero => cases h1
            | succ g =>
              unfold runS at h1
              rw [H4.out, if_neg hend, ← H4.out] at h1
              exact ⟨g, by omega, h1⟩
          go_wp2
          go_roundg g
          case rel => exact ⟨bk 4 s k', by rw [H4.out]; simp, HS.out, HN.out, rfl⟩
          case measure => exact hg
set_option maxRecDepth 20000 in
set_option maxHeartbeats 2000000 in
theorem sBackPlace_3 (k n f V : Nat) (s : Int) (w : World) (hh : halfD n = 3) (hn : n ≤ 65536) (hk : k < n) (hA1 : inB n 1 65536 = true) (hA2 : inB k 0 ((n : Int) - 1) = true) (hA3 : isK s = true) (hs1 : 0 ≤ s) (hs2 : s ≤ 4294967295) (hf : runS (bk 8 s) n f k = some V) :
    Calls Try.prog 34 #[.int .i64 k, .int .i64 n, .int .i64 s] w fun e w' => e = .returned (.tuple #[.int .i64 V, .bool true]) ∧ w = w' := by
  have hnz := (halfD_of n hn).2.2
  rw [hh] at hnz
  have HH := Lib.hid hh
  have HF := Lib.hid hf
  clear hh hf
  have hkz : k < 2 ^ 3 * 2 ^ 3 := by omega
  simp only [Nat.reducePow, Nat.reduceMul] at hkz hnz
  go_enter Try.func34, Try.ntmps34
  go_wp2_with (first | (go_at_call 46; refine (l00In_any _ _ _ _).mono ?_; rintro e w' ⟨rfl, rfl⟩) | (go_at_call 40; refine (l02Key_any _ _).mono ?_; rintro e w' ⟨rfl, rfl⟩) | (go_at_call 54; refine (l02Half_any _ _ hn).mono ?_; rintro e w' ⟨rfl, rfl⟩; rw [HH.out]))
  go_loopg [0] f (fun g v wr => ∃ k' : Nat, v = .int .i64 k' ∧ k' < 64 ∧ runS (bk 8 s) n g k' = some V ∧ wr = w)
  case atStart => exact ⟨k, rfl, hkz, HF.out, rfl⟩
  case round =>
    obtain ⟨k', rfl, hk', hrun, hwr⟩ := hrel
    subst hwr
    have HR := Lib.hid hrun
    clear hrun
    have HIN : Hid (∀ j, InZ 8 (fbN 8 s (cutK 8 k') j)) := fbN_in (h := 3) s (cut_in (z := 2 ^ 3) (k := k') (by decide) hk')
    go_wp2
    go_loop [10, 11, 12] (fun l r i => ∃ j : Nat, j ≤ 4 ∧ i = .int .i64 (3 - (j : Int)) ∧ l = .int .i64 (fbN 8 s (cutK 8 k') j).1 ∧ r = .int .i64 (fbN 8 s (cutK 8 k') j).2) (fun _ _ i => (intOf i + 1).toNat)
    case atStart => exact ⟨0, by omega, by simp, by simp [fbN, cutK], by simp [fbN, cutK]⟩
    case round =>
      obtain ⟨j, hj, rfl, rfl, rfl⟩ := hrel
      have hl := (HIN.out j).1
      have hr := (HIN.out j).2
      have HJ : Hid (fbN 8 s (cutK 8 k') (j + 1) = fb 8 s (3 - (j : Int)) (fbN 8 s (cutK 8 k') j)) := rfl
      by_cases hj4 : j < 4
      · have hx := rnd_lt (z := 8) (by decide) s (fbN 8 s (cutK 8 k') j).1 (3 - (j : Int))
        have HX : Hid (hsh (fbN 8 s (cutK 8 k') j).1 ((s + (3 - (j : Int))) % 4294967296) % 8 = (rnd 8 s (fbN 8 s (cutK 8 k') j).1 (3 - (j : Int)) : Int)) := rnd_int 8 s _ _
        have hh2 := hsh_bd (fbN 8 s (cutK 8 k') j).1 ((s + (3 - (j : Int))) % 4294967296)
        go_wp2_with (first | (go_at_call 55; refine (l02Salt_any _ _ _ hs1 hs2 (by omega) (by omega)).mono ?_; rintro e w' ⟨rfl, rfl⟩) | (go_at_call 44; refine (l02Hash_any _ _ _ (by omega) (by omega)).mono ?_; rintro e w' ⟨rfl, rfl⟩))
        go_round
        case rel => exact ⟨j + 1, by omega, vI (by omega), by rw [HJ.out, HX.out]; exact (congrArg _ (xorI _ _ (by omega) (by omega))), by rw [HJ.out]; rfl⟩
        case measure => simp [intOf]; omega
      · have hj' : j = 4 := by omega
        have H4 : Hid (bk 8 s k' = (fbN 8 s (cutK 8 k') j).1 * 8 + (fbN 8 s (cutK 8 k') j).2) := by rw [hj']; rfl
        have HS : Hid (bk 8 s k' < 64) := bk_lt (h := 3) s hk'
        clear hj' HIN HJ hk' hkz hnz
        by_cases hend : (fbN 8 s (cutK 8 k') j).1 * 8 + (fbN 8 s (cutK 8 k') j).2 < n
        · have HV : Hid (V = (fbN 8 s (cutK 8 k') j).1 * 8 + (fbN 8 s (cutK 8 k') j).2) := by
            have h1 := HR.out
            cases gk with
            | zero => cases h1
            | succ g =>
              unfold runS at h1
              rw [H4.out, if_pos hend] at h1
              cases h1; rfl
          go_wp2
          go_ret2
          exact ⟨ret2 (by rw [HV.out]; simp) rfl, rfl⟩
        · obtain ⟨g, hg, HN⟩ : ∃ g, g < gk ∧ Hid (runS (bk 8 s) n g (bk 8 s k') = some V) := by
            have h1 := HR.out
            cases gk with
            | zero => cases h1
            | succ g =>
              unfold runS at h1
              rw [H4.out, if_neg hend, ← H4.out] at h1
              exact ⟨g, by omega, h1⟩
          go_wp2
          go_roundg g
          case rel => exact ⟨bk 8 s k', by rw [H4.out]; simp, HS.out, HN.out, rfl⟩
          case measure => exact hg
set_option maxRecDepth 20000 in
set_option maxHeartbeats 2000000 in
theorem sBackPlace_4 (k n f V : Nat) (s : Int) (w : World) (hh : halfD n = 4) (hn : n ≤ 65536) (hk : k < n) (hA1 : inB n 1 65536 = true) (hA2 : inB k 0 ((n : Int) - 1) = true) (hA3 : isK s = true) (hs1 : 0 ≤ s) (hs2 : s ≤ 4294967295) (hf : runS (bk 16 s) n f k = some V) :
    Calls Try.prog 34 #[.int .i64 k, .int .i64 n, .int .i64 s] w fun e w' => e = .returned (.tuple #[.int .i64 V, .bool true]) ∧ w = w' := by
  have hnz := (halfD_of n hn).2.2
  rw [hh] at hnz
  have HH := Lib.hid hh
  have HF := Lib.hid hf
  clear hh hf
  have hkz : k < 2 ^ 4 * 2 ^ 4 := by omega
  simp only [Nat.reducePow, Nat.reduceMul] at hkz hnz
  go_enter Try.func34, Try.ntmps34
  go_wp2_with (first | (go_at_call 46; refine (l00In_any _ _ _ _).mono ?_; rintro e w' ⟨rfl, rfl⟩) | (go_at_call 40; refine (l02Key_any _ _).mono ?_; rintro e w' ⟨rfl, rfl⟩) | (go_at_call 54; refine (l02Half_any _ _ hn).mono ?_; rintro e w' ⟨rfl, rfl⟩; rw [HH.out]))
  go_loopg [0] f (fun g v wr => ∃ k' : Nat, v = .int .i64 k' ∧ k' < 256 ∧ runS (bk 16 s) n g k' = some V ∧ wr = w)
  case atStart => exact ⟨k, rfl, hkz, HF.out, rfl⟩
  case round =>
    obtain ⟨k', rfl, hk', hrun, hwr⟩ := hrel
    subst hwr
    have HR := Lib.hid hrun
    clear hrun
    have HIN : Hid (∀ j, InZ 16 (fbN 16 s (cutK 16 k') j)) := fbN_in (h := 4) s (cut_in (z := 2 ^ 4) (k := k') (by decide) hk')
    go_wp2
    go_loop [10, 11, 12] (fun l r i => ∃ j : Nat, j ≤ 4 ∧ i = .int .i64 (3 - (j : Int)) ∧ l = .int .i64 (fbN 16 s (cutK 16 k') j).1 ∧ r = .int .i64 (fbN 16 s (cutK 16 k') j).2) (fun _ _ i => (intOf i + 1).toNat)
    case atStart => exact ⟨0, by omega, by simp, by simp [fbN, cutK], by simp [fbN, cutK]⟩
    case round =>
      obtain ⟨j, hj, rfl, rfl, rfl⟩ := hrel
      have hl := (HIN.out j).1
      have hr := (HIN.out j).2
      have HJ : Hid (fbN 16 s (cutK 16 k') (j + 1) = fb 16 s (3 - (j : Int)) (fbN 16 s (cutK 16 k') j)) := rfl
      by_cases hj4 : j < 4
      · have hx := rnd_lt (z := 16) (by decide) s (fbN 16 s (cutK 16 k') j).1 (3 - (j : Int))
        have HX : Hid (hsh (fbN 16 s (cutK 16 k') j).1 ((s + (3 - (j : Int))) % 4294967296) % 16 = (rnd 16 s (fbN 16 s (cutK 16 k') j).1 (3 - (j : Int)) : Int)) := rnd_int 16 s _ _
        have hh2 := hsh_bd (fbN 16 s (cutK 16 k') j).1 ((s + (3 - (j : Int))) % 4294967296)
        go_wp2_with (first | (go_at_call 55; refine (l02Salt_any _ _ _ hs1 hs2 (by omega) (by omega)).mono ?_; rintro e w' ⟨rfl, rfl⟩) | (go_at_call 44; refine (l02Hash_any _ _ _ (by omega) (by omega)).mono ?_; rintro e w' ⟨rfl, rfl⟩))
        go_round
        case rel => exact ⟨j + 1, by omega, vI (by omega), by rw [HJ.out, HX.out]; exact (congrArg _ (xorI _ _ (by omega) (by omega))), by rw [HJ.out]; rfl⟩
        case measure => simp [intOf]; omega
      · have hj' : j = 4 := by omega
        have H4 : Hid (bk 16 s k' = (fbN 16 s (cutK 16 k') j).1 * 16 + (fbN 16 s (cutK 16 k') j).2) := by rw [hj']; rfl
        have HS : Hid (bk 16 s k' < 256) := bk_lt (h := 4) s hk'
        clear hj' HIN HJ hk' hkz hnz
        by_cases hend : (fbN 16 s (cutK 16 k') j).1 * 16 + (fbN 16 s (cutK 16 k') j).2 < n
        · have HV : Hid (V = (fbN 16 s (cutK 16 k') j).1 * 16 + (fbN 16 s (cutK 16 k') j).2) := by
            have h1 := HR.out
            cases gk with
            | zero => cases h1
            | succ g =>
              unfold runS at h1
              rw [H4.out, if_pos hend] at h1
              cases h1; rfl
          go_wp2
          go_ret2
          exact ⟨ret2 (by rw [HV.out]; simp) rfl, rfl⟩
        · obtain ⟨g, hg, HN⟩ : ∃ g, g < gk ∧ Hid (runS (bk 16 s) n g (bk 16 s k') = some V) := by
            have h1 := HR.out
            cases gk with
            | zero => cases h1
            | succ g =>
              unfold runS at h1
              rw [H4.out, if_neg hend, ← H4.out] at h1
              exact ⟨g, by omega, h1⟩
          go_wp2
          go_roundg g
          case rel => exact ⟨bk 16 s k', by rw [H4.out]; simp, HS.out, HN.out, rfl⟩
          case measure => exact hg
set_option maxRecDepth 20000 in
set_option maxHeartbeats 2000000 in
theorem sBackPlace_5 (k n f V : Nat) (s : Int) (w : World) (hh : halfD n = 5) (hn : n ≤ 65536) (hk : k < n) (hA1 : inB n 1 65536 = true) (hA2 : inB k 0 ((n : Int) - 1) = true) (hA3 : isK s = true) (hs1 : 0 ≤ s) (hs2 : s ≤ 4294967295) (hf : runS (bk 32 s) n f k = some V) :
    Calls Try.prog 34 #[.int .i64 k, .int .i64 n, .int .i64 s] w fun e w' => e = .returned (.tuple #[.int .i64 V, .bool true]) ∧ w = w' := by
  have hnz := (halfD_of n hn).2.2
  rw [hh] at hnz
  have HH := Lib.hid hh
  have HF := Lib.hid hf
  clear hh hf
  have hkz : k < 2 ^ 5 * 2 ^ 5 := by omega
  simp only [Nat.reducePow, Nat.reduceMul] at hkz hnz
  go_enter Try.func34, Try.ntmps34
  go_wp2_with (first | (go_at_call 46; refine (l00In_any _ _ _ _).mono ?_; rintro e w' ⟨rfl, rfl⟩) | (go_at_call 40; refine (l02Key_any _ _).mono ?_; rintro e w' ⟨rfl, rfl⟩) | (go_at_call 54; refine (l02Half_any _ _ hn).mono ?_; rintro e w' ⟨rfl, rfl⟩; rw [HH.out]))
  go_loopg [0] f (fun g v wr => ∃ k' : Nat, v = .int .i64 k' ∧ k' < 1024 ∧ runS (bk 32 s) n g k' = some V ∧ wr = w)
  case atStart => exact ⟨k, rfl, hkz, HF.out, rfl⟩
  case round =>
    obtain ⟨k', rfl, hk', hrun, hwr⟩ := hrel
    subst hwr
    have HR := Lib.hid hrun
    clear hrun
    have HIN : Hid (∀ j, InZ 32 (fbN 32 s (cutK 32 k') j)) := fbN_in (h := 5) s (cut_in (z := 2 ^ 5) (k := k') (by decide) hk')
    go_wp2
    go_loop [10, 11, 12] (fun l r i => ∃ j : Nat, j ≤ 4 ∧ i = .int .i64 (3 - (j : Int)) ∧ l = .int .i64 (fbN 32 s (cutK 32 k') j).1 ∧ r = .int .i64 (fbN 32 s (cutK 32 k') j).2) (fun _ _ i => (intOf i + 1).toNat)
    case atStart => exact ⟨0, by omega, by simp, by simp [fbN, cutK], by simp [fbN, cutK]⟩
    case round =>
      obtain ⟨j, hj, rfl, rfl, rfl⟩ := hrel
      have hl := (HIN.out j).1
      have hr := (HIN.out j).2
      have HJ : Hid (fbN 32 s (cutK 32 k') (j + 1) = fb 32 s (3 - (j : Int)) (fbN 32 s (cutK 32 k') j)) := rfl
      by_cases hj4 : j < 4
      · have hx := rnd_lt (z := 32) (by decide) s (fbN 32 s (cutK 32 k') j).1 (3 - (j : Int))
        have HX : Hid (hsh (fbN 32 s (cutK 32 k') j).1 ((s + (3 - (j : Int))) % 4294967296) % 32 = (rnd 32 s (fbN 32 s (cutK 32 k') j).1 (3 - (j : Int)) : Int)) := rnd_int 32 s _ _
        have hh2 := hsh_bd (fbN 32 s (cutK 32 k') j).1 ((s + (3 - (j : Int))) % 4294967296)
        go_wp2_with (first | (go_at_call 55; refine (l02Salt_any _ _ _ hs1 hs2 (by omega) (by omega)).mono ?_; rintro e w' ⟨rfl, rfl⟩) | (go_at_call 44; refine (l02Hash_any _ _ _ (by omega) (by omega)).mono ?_; rintro e w' ⟨rfl, rfl⟩))
        go_round
        case rel => exact ⟨j + 1, by omega, vI (by omega), by rw [HJ.out, HX.out]; exact (congrArg _ (xorI _ _ (by omega) (by omega))), by rw [HJ.out]; rfl⟩
        case measure => simp [intOf]; omega
      · have hj' : j = 4 := by omega
        have H4 : Hid (bk 32 s k' = (fbN 32 s (cutK 32 k') j).1 * 32 + (fbN 32 s (cutK 32 k') j).2) := by rw [hj']; rfl
        have HS : Hid (bk 32 s k' < 1024) := bk_lt (h := 5) s hk'
        clear hj' HIN HJ hk' hkz hnz
        by_cases hend : (fbN 32 s (cutK 32 k') j).1 * 32 + (fbN 32 s (cutK 32 k') j).2 < n
        · have HV : Hid (V = (fbN 32 s (cutK 32 k') j).1 * 32 + (fbN 32 s (cutK 32 k') j).2) := by
            have h1 := HR.out
            cases gk with
            | zero => cases h1
            | succ g =>
              unfold runS at h1
              rw [H4.out, if_pos hend] at h1
              cases h1; rfl
          go_wp2
          go_ret2
          exact ⟨ret2 (by rw [HV.out]; simp) rfl, rfl⟩
        · obtain ⟨g, hg, HN⟩ : ∃ g, g < gk ∧ Hid (runS (bk 32 s) n g (bk 32 s k') = some V) := by
            have h1 := HR.out
            cases gk with
            | zero => cases h1
            | succ g =>
              unfold runS at h1
              rw [H4.out, if_neg hend, ← H4.out] at h1
              exact ⟨g, by omega, h1⟩
          go_wp2
          go_roundg g
          case rel => exact ⟨bk 32 s k', by rw [H4.out]; simp, HS.out, HN.out, rfl⟩
          case measure => exact hg
set_option maxRecDepth 20000 in
set_option maxHeartbeats 2000000 in
theorem sBackPlace_6 (k n f V : Nat) (s : Int) (w : World) (hh : halfD n = 6) (hn : n ≤ 65536) (hk : k < n) (hA1 : inB n 1 65536 = true) (hA2 : inB k 0 ((n : Int) - 1) = true) (hA3 : isK s = true) (hs1 : 0 ≤ s) (hs2 : s ≤ 4294967295) (hf : runS (bk 64 s) n f k = some V) :
    Calls Try.prog 34 #[.int .i64 k, .int .i64 n, .int .i64 s] w fun e w' => e = .returned (.tuple #[.int .i64 V, .bool true]) ∧ w = w' := by
  have hnz := (halfD_of n hn).2.2
  rw [hh] at hnz
  have HH := Lib.hid hh
  have HF := Lib.hid hf
  clear hh hf
  have hkz : k < 2 ^ 6 * 2 ^ 6 := by omega
  simp only [Nat.reducePow, Nat.reduceMul] at hkz hnz
  go_enter Try.func34, Try.ntmps34
  go_wp2_with (first | (go_at_call 46; refine (l00In_any _ _ _ _).mono ?_; rintro e w' ⟨rfl, rfl⟩) | (go_at_call 40; refine (l02Key_any _ _).mono ?_; rintro e w' ⟨rfl, rfl⟩) | (go_at_call 54; refine (l02Half_any _ _ hn).mono ?_; rintro e w' ⟨rfl, rfl⟩; rw [HH.out]))
  go_loopg [0] f (fun g v wr => ∃ k' : Nat, v = .int .i64 k' ∧ k' < 4096 ∧ runS (bk 64 s) n g k' = some V ∧ wr = w)
  case atStart => exact ⟨k, rfl, hkz, HF.out, rfl⟩
  case round =>
    obtain ⟨k', rfl, hk', hrun, hwr⟩ := hrel
    subst hwr
    have HR := Lib.hid hrun
    clear hrun
    have HIN : Hid (∀ j, InZ 64 (fbN 64 s (cutK 64 k') j)) := fbN_in (h := 6) s (cut_in (z := 2 ^ 6) (k := k') (by decide) hk')
    go_wp2
    go_loop [10, 11, 12] (fun l r i => ∃ j : Nat, j ≤ 4 ∧ i = .int .i64 (3 - (j : Int)) ∧ l = .int .i64 (fbN 64 s (cutK 64 k') j).1 ∧ r = .int .i64 (fbN 64 s (cutK 64 k') j).2) (fun _ _ i => (intOf i + 1).toNat)
    case atStart => exact ⟨0, by omega, by simp, by simp [fbN, cutK], by simp [fbN, cutK]⟩
    case round =>
      obtain ⟨j, hj, rfl, rfl, rfl⟩ := hrel
      have hl := (HIN.out j).1
      have hr := (HIN.out j).2
      have HJ : Hid (fbN 64 s (cutK 64 k') (j + 1) = fb 64 s (3 - (j : Int)) (fbN 64 s (cutK 64 k') j)) := rfl
      by_cases hj4 : j < 4
      · have hx := rnd_lt (z := 64) (by decide) s (fbN 64 s (cutK 64 k') j).1 (3 - (j : Int))
        have HX : Hid (hsh (fbN 64 s (cutK 64 k') j).1 ((s + (3 - (j : Int))) % 4294967296) % 64 = (rnd 64 s (fbN 64 s (cutK 64 k') j).1 (3 - (j : Int)) : Int)) := rnd_int 64 s _ _
        have hh2 := hsh_bd (fbN 64 s (cutK 64 k') j).1 ((s + (3 - (j : Int))) % 4294967296)
        go_wp2_with (first | (go_at_call 55; refine (l02Salt_any _ _ _ hs1 hs2 (by omega) (by omega)).mono ?_; rintro e w' ⟨rfl, rfl⟩) | (go_at_call 44; refine (l02Hash_any _ _ _ (by omega) (by omega)).mono ?_; rintro e w' ⟨rfl, rfl⟩))
        go_round
        case rel => exact ⟨j + 1, by omega, vI (by omega), by rw [HJ.out, HX.out]; exact (congrArg _ (xorI _ _ (by omega) (by omega))), by rw [HJ.out]; rfl⟩
        case measure => simp [intOf]; omega
      · have hj' : j = 4 := by omega
        have H4 : Hid (bk 64 s k' = (fbN 64 s (cutK 64 k') j).1 * 64 + (fbN 64 s (cutK 64 k') j).2) := by rw [hj']; rfl
        have HS : Hid (bk 64 s k' < 4096) := bk_lt (h := 6) s hk'
        clear hj' HIN HJ hk' hkz hnz
        by_cases hend : (fbN 64 s (cutK 64 k') j).1 * 64 + (fbN 64 s (cutK 64 k') j).2 < n
        · have HV : Hid (V = (fbN 64 s (cutK 64 k') j).1 * 64 + (fbN 64 s (cutK 64 k') j).2) := by
            have h1 := HR.out
            cases gk with
            | zero => cases h1
            | succ g =>
              unfold runS at h1
              rw [H4.out, if_pos hend] at h1
              cases h1; rfl
          go_wp2
          go_ret2
          exact ⟨ret2 (by rw [HV.out]; simp) rfl, rfl⟩
        · obtain ⟨g, hg, HN⟩ : ∃ g, g < gk ∧ Hid (runS (bk 64 s) n g (bk 64 s k') = some V) := by
            have h1 := HR.out
            cases gk with
            | zero => cases h1
            | succ g =>
              unfold runS at h1
              rw [H4.out, if_neg hend, ← H4.out] at h1
              exact ⟨g, by omega, h1⟩
          go_wp2
          go_roundg g
          case rel => exact ⟨bk 64 s k', by rw [H4.out]; simp, HS.out, HN.out, rfl⟩
          case measure => exact hg
set_option maxRecDepth 20000 in
set_option maxHeartbeats 2000000 in
theorem sBackPlace_7 (k n f V : Nat) (s : Int) (w : World) (hh : halfD n = 7) (hn : n ≤ 65536) (hk : k < n) (hA1 : inB n 1 65536 = true) (hA2 : inB k 0 ((n : Int) - 1) = true) (hA3 : isK s = true) (hs1 : 0 ≤ s) (hs2 : s ≤ 4294967295) (hf : runS (bk 128 s) n f k = some V) :
    Calls Try.prog 34 #[.int .i64 k, .int .i64 n, .int .i64 s] w fun e w' => e = .returned (.tuple #[.int .i64 V, .bool true]) ∧ w = w' := by
  have hnz := (halfD_of n hn).2.2
  rw [hh] at hnz
  have HH := Lib.hid hh
  have HF := Lib.hid hf
  clear hh hf
  have hkz : k < 2 ^ 7 * 2 ^ 7 := by omega
  simp only [Nat.reducePow, Nat.reduceMul] at hkz hnz
  go_enter Try.func34, Try.ntmps34
  go_wp2_with (first | (go_at_call 46; refine (l00In_any _ _ _ _).mono ?_; rintro e w' ⟨rfl, rfl⟩) | (go_at_call 40; refine (l02Key_any _ _).mono ?_; rintro e w' ⟨rfl, rfl⟩) | (go_at_call 54; refine (l02Half_any _ _ hn).mono ?_; rintro e w' ⟨rfl, rfl⟩; rw [HH.out]))
  go_loopg [0] f (fun g v wr => ∃ k' : Nat, v = .int .i64 k' ∧ k' < 16384 ∧ runS (bk 128 s) n g k' = some V ∧ wr = w)
  case atStart => exact ⟨k, rfl, hkz, HF.out, rfl⟩
  case round =>
    obtain ⟨k', rfl, hk', hrun, hwr⟩ := hrel
    subst hwr
    have HR := Lib.hid hrun
    clear hrun
    have HIN : Hid (∀ j, InZ 128 (fbN 128 s (cutK 128 k') j)) := fbN_in (h := 7) s (cut_in (z := 2 ^ 7) (k := k') (by decide) hk')
    go_wp2
    go_loop [10, 11, 12] (fun l r i => ∃ j : Nat, j ≤ 4 ∧ i = .int .i64 (3 - (j : Int)) ∧ l = .int .i64 (fbN 128 s (cutK 128 k') j).1 ∧ r = .int .i64 (fbN 128 s (cutK 128 k') j).2) (fun _ _ i => (intOf i + 1).toNat)
    case atStart => exact ⟨0, by omega, by simp, by simp [fbN, cutK], by simp [fbN, cutK]⟩
    case round =>
      obtain ⟨j, hj, rfl, rfl, rfl⟩ := hrel
      have hl := (HIN.out j).1
      have hr := (HIN.out j).2
      have HJ : Hid (fbN 128 s (cutK 128 k') (j + 1) = fb 128 s (3 - (j : Int)) (fbN 128 s (cutK 128 k') j)) := rfl
      by_cases hj4 : j < 4
      · have hx := rnd_lt (z := 128) (by decide) s (fbN 128 s (cutK 128 k') j).1 (3 - (j : Int))
        have HX : Hid (hsh (fbN 128 s (cutK 128 k') j).1 ((s + (3 - (j : Int))) % 4294967296) % 128 = (rnd 128 s (fbN 128 s (cutK 128 k') j).1 (3 - (j : Int)) : Int)) := rnd_int 128 s _ _
        have hh2 := hsh_bd (fbN 128 s (cutK 128 k') j).1 ((s + (3 - (j : Int))) % 4294967296)
        go_wp2_with (first | (go_at_call 55; refine (l02Salt_any _ _ _ hs1 hs2 (by omega) (by omega)).mono ?_; rintro e w' ⟨rfl, rfl⟩) | (go_at_call 44; refine (l02Hash_any _ _ _ (by omega) (by omega)).mono ?_; rintro e w' ⟨rfl, rfl⟩))
        go_round
        case rel => exact ⟨j + 1, by omega, vI (by omega), by rw [HJ.out, HX.out]; exact (congrArg _ (xorI _ _ (by omega) (by omega))), by rw [HJ.out]; rfl⟩
        case measure => simp [intOf]; omega
      · have hj' : j = 4 := by omega
        have H4 : Hid (bk 128 s k' = (fbN 128 s (cutK 128 k') j).1 * 128 + (fbN 128 s (cutK 128 k') j).2) := by rw [hj']; rfl
        have HS : Hid (bk 128 s k' < 16384) := bk_lt (h := 7) s hk'
        clear hj' HIN HJ hk' hkz hnz
        by_cases hend : (fbN 128 s (cutK 128 k') j).1 * 128 + (fbN 128 s (cutK 128 k') j).2 < n
        · have HV : Hid (V = (fbN 128 s (cutK 128 k') j).1 * 128 + (fbN 128 s (cutK 128 k') j).2) := by
            have h1 := HR.out
            cases gk with
            | zero => cases h1
            | succ g =>
              unfold runS at h1
              rw [H4.out, if_pos hend] at h1
              cases h1; rfl
          go_wp2
          go_ret2
          exact ⟨ret2 (by rw [HV.out]; simp) rfl, rfl⟩
        · obtain ⟨g, hg, HN⟩ : ∃ g, g < gk ∧ Hid (runS (bk 128 s) n g (bk 128 s k') = some V) := by
            have h1 := HR.out
            cases gk with
            | zero => cases h1
            | succ g =>
              unfold runS at h1
              rw [H4.out, if_neg hend, ← H4.out] at h1
              exact ⟨g, by omega, h1⟩
          go_wp2
          go_roundg g
          case rel => exact ⟨bk 128 s k', by rw [H4.out]; simp, HS.out, HN.out, rfl⟩
          case measure => exact hg
set_option maxRecDepth 20000 in
set_option maxHeartbeats 2000000 in
theorem sBackPlace_8 (k n f V : Nat) (s : Int) (w : World) (hh : halfD n = 8) (hn : n ≤ 65536) (hk : k < n) (hA1 : inB n 1 65536 = true) (hA2 : inB k 0 ((n : Int) - 1) = true) (hA3 : isK s = true) (hs1 : 0 ≤ s) (hs2 : s ≤ 4294967295) (hf : runS (bk 256 s) n f k = some V) :
    Calls Try.prog 34 #[.int .i64 k, .int .i64 n, .int .i64 s] w fun e w' => e = .returned (.tuple #[.int .i64 V, .bool true]) ∧ w = w' := by
  have hnz := (halfD_of n hn).2.2
  rw [hh] at hnz
  have HH := Lib.hid hh
  have HF := Lib.hid hf
  clear hh hf
  have hkz : k < 2 ^ 8 * 2 ^ 8 := by omega
  simp only [Nat.reducePow, Nat.reduceMul] at hkz hnz
  go_enter Try.func34, Try.ntmps34
  go_wp2_with (first | (go_at_call 46; refine (l00In_any _ _ _ _).mono ?_; rintro e w' ⟨rfl, rfl⟩) | (go_at_call 40; refine (l02Key_any _ _).mono ?_; rintro e w' ⟨rfl, rfl⟩) | (go_at_call 54; refine (l02Half_any _ _ hn).mono ?_; rintro e w' ⟨rfl, rfl⟩; rw [HH.out]))
  go_loopg [0] f (fun g v wr => ∃ k' : Nat, v = .int .i64 k' ∧ k' < 65536 ∧ runS (bk 256 s) n g k' = some V ∧ wr = w)
  case atStart => exact ⟨k, rfl, hkz, HF.out, rfl⟩
  case round =>
    obtain ⟨k', rfl, hk', hrun, hwr⟩ := hrel
    subst hwr
    have HR := Lib.hid hrun
    clear hrun
    have HIN : Hid (∀ j, InZ 256 (fbN 256 s (cutK 256 k') j)) := fbN_in (h := 8) s (cut_in (z := 2 ^ 8) (k := k') (by decide) hk')
    go_wp2
    go_loop [10, 11, 12] (fun l r i => ∃ j : Nat, j ≤ 4 ∧ i = .int .i64 (3 - (j : Int)) ∧ l = .int .i64 (fbN 256 s (cutK 256 k') j).1 ∧ r = .int .i64 (fbN 256 s (cutK 256 k') j).2) (fun _ _ i => (intOf i + 1).toNat)
    case atStart => exact ⟨0, by omega, by simp, by simp [fbN, cutK], by simp [fbN, cutK]⟩
    case round =>
      obtain ⟨j, hj, rfl, rfl, rfl⟩ := hrel
      have hl := (HIN.out j).1
      have hr := (HIN.out j).2
      have HJ : Hid (fbN 256 s (cutK 256 k') (j + 1) = fb 256 s (3 - (j : Int)) (fbN 256 s (cutK 256 k') j)) := rfl
      by_cases hj4 : j < 4
      · have hx := rnd_lt (z := 256) (by decide) s (fbN 256 s (cutK 256 k') j).1 (3 - (j : Int))
        have HX : Hid (hsh (fbN 256 s (cutK 256 k') j).1 ((s + (3 - (j : Int))) % 4294967296) % 256 = (rnd 256 s (fbN 256 s (cutK 256 k') j).1 (3 - (j : Int)) : Int)) := rnd_int 256 s _ _
        have hh2 := hsh_bd (fbN 256 s (cutK 256 k') j).1 ((s + (3 - (j : Int))) % 4294967296)
        go_wp2_with (first | (go_at_call 55; refine (l02Salt_any _ _ _ hs1 hs2 (by omega) (by omega)).mono ?_; rintro e w' ⟨rfl, rfl⟩) | (go_at_call 44; refine (l02Hash_any _ _ _ (by omega) (by omega)).mono ?_; rintro e w' ⟨rfl, rfl⟩))
        go_round
        case rel => exact ⟨j + 1, by omega, vI (by omega), by rw [HJ.out, HX.out]; exact (congrArg _ (xorI _ _ (by omega) (by omega))), by rw [HJ.out]; rfl⟩
        case measure => simp [intOf]; omega
      · have hj' : j = 4 := by omega
        have H4 : Hid (bk 256 s k' = (fbN 256 s (cutK 256 k') j).1 * 256 + (fbN 256 s (cutK 256 k') j).2) := by rw [hj']; rfl
        have HS : Hid (bk 256 s k' < 65536) := bk_lt (h := 8) s hk'
        clear hj' HIN HJ hk' hkz hnz
        by_cases hend : (fbN 256 s (cutK 256 k') j).1 * 256 + (fbN 256 s (cutK 256 k') j).2 < n
        · have HV : Hid (V = (fbN 256 s (cutK 256 k') j).1 * 256 + (fbN 256 s (cutK 256 k') j).2) := by
            have h1 := HR.out
            cases gk with
            | zero => cases h1
            | succ g =>
              unfold runS at h1
              rw [H4.out, if_pos hend] at h1
              cases h1; rfl
          go_wp2
          go_ret2
          exact ⟨ret2 (by rw [HV.out]; simp) rfl, rfl⟩
        · obtain ⟨g, hg, HN⟩ : ∃ g, g < gk ∧ Hid (runS (bk 256 s) n g (bk 256 s k') = some V) := by
            have h1 := HR.out
            cases gk with
            | zero => cases h1
            | succ g =>
              unfold runS at h1
              rw [H4.out, if_neg hend, ← H4.out] at h1
              exact ⟨g, by omega, h1⟩
          go_wp2
          go_roundg g
          case rel => exact ⟨bk 256 s k', by rw [H4.out]; simp, HS.out, HN.out, rfl⟩
          case measure => exact hg
set_option maxHeartbeats 1000000 in
theorem sBackPlace_any (k n s : Int) (w : World) :
    Calls Try.prog 34 #[.int .i64 k, .int .i64 n, .int .i64 s] w fun e w' => e = .returned (.tuple #[.int .i64 (bkV k n s), .bool (arS k n s)]) ∧ w = w' := by
  rcases hA1 : inB n 1 65536
  · go_enter Try.func34, Try.ntmps34
    go_wp2_with (first | (go_at_call 46; refine (l00In_any _ _ _ _).mono ?_; rintro e w' ⟨rfl, rfl⟩) | (go_at_call 40; refine (l02Key_any _ _).mono ?_; rintro e w' ⟨rfl, rfl⟩))
    go_ret2
    exact ⟨ret2 (bkV_f (arS_f1 hA1)).symm (arS_f1 hA1).symm, rfl⟩
  · obtain ⟨hn1, hn2⟩ := inB_of hA1
    rcases hA2 : inB k 0 (n - 1)
    · go_enter Try.func34, Try.ntmps34
      go_wp2_with (first | (go_at_call 46; refine (l00In_any _ _ _ _).mono ?_; rintro e w' ⟨rfl, rfl⟩) | (go_at_call 40; refine (l02Key_any _ _).mono ?_; rintro e w' ⟨rfl, rfl⟩))
      go_ret2
      exact ⟨ret2 (bkV_f (arS_f2 hA2)).symm (arS_f2 hA2).symm, rfl⟩
    · rcases hA3 : isK s
      · go_enter Try.func34, Try.ntmps34
        go_wp2_with (first | (go_at_call 46; refine (l00In_any _ _ _ _).mono ?_; rintro e w' ⟨rfl, rfl⟩) | (go_at_call 40; refine (l02Key_any _ _).mono ?_; rintro e w' ⟨rfl, rfl⟩))
        go_ret2
        exact ⟨ret2 (bkV_f (arS_f3 hA3)).symm (arS_f3 hA3).symm, rfl⟩
      · have hA := arS_t hA1 hA2 hA3
        obtain ⟨N, K, hN, hK, rfl, rfl, hs, hkn, f, V, hf, hV⟩ := bk_facts hA
        rw [hV, hA]
        have hd := halfD_of N hN
        rcases eight hd.1 hd.2.1 with e | e | e | e | e | e | e | e <;> rw [e] at hf
        · exact sBackPlace_1 K N f V s w e hN hkn hA1 hA2 hA3 hs.1 hs.2 hf
        · exact sBackPlace_2 K N f V s w e hN hkn hA1 hA2 hA3 hs.1 hs.2 hf
        · exact sBackPlace_3 K N f V s w e hN hkn hA1 hA2 hA3 hs.1 hs.2 hf
        · exact sBackPlace_4 K N f V s w e hN hkn hA1 hA2 hA3 hs.1 hs.2 hf
        · exact sBackPlace_5 K N f V s w e hN hkn hA1 hA2 hA3 hs.1 hs.2 hf
        · exact sBackPlace_6 K N f V s w e hN hkn hA1 hA2 hA3 hs.1 hs.2 hf
        · exact sBackPlace_7 K N f V s w e hN hkn hA1 hA2 hA3 hs.1 hs.2 hf
        · exact sBackPlace_8 K N f V s w e hN hkn hA1 hA2 hA3 hs.1 hs.2 hf
end Go.Proofs.Ytilbglcbhoiamaa
