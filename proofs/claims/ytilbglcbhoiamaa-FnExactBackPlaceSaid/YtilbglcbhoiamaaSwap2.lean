/-
  Contracts of SwapPlace and its twin.
-/
import Derived.Test.YtilbglcbhoiamaaSwap
namespace Go.Proofs.Ytilbglcbhoiamaa
open Go.RowKit

theorem xorI (a b : Nat) (ha : a < 256) (hb : b < 256) : bits BinOp.xor IntKind.i64 a b = ((a ^^^ b : Nat) : Int) := by
  have h1 : a < 2 ^ 8 := ha
  have h2 : b < 2 ^ 8 := hb
  have hp : 2 ^ 8 ≤ 2 ^ IntKind.i64.bits := by decide
  have ha' : a % 2 ^ IntKind.i64.bits = a := Nat.mod_eq_of_lt (Nat.lt_of_lt_of_le h1 hp)
  have hb' : b % 2 ^ IntKind.i64.bits = b := Nat.mod_eq_of_lt (Nat.lt_of_lt_of_le h2 hp)
  have hx : a ^^^ b < 2 ^ 8 := Nat.xor_lt_two_pow h1 h2
  have h8 : (2 : Nat) ^ 8 = 256 := by decide
  simp only [bits, BitVec.ofInt_natCast, BitVec.toNat_xor, BitVec.toNat_ofNat, ha', hb']
  rw [h8] at hx
  rw [IntKind.wrap_i64]
  omega
noncomputable def swV (k n s : Int) : Int := if arS k n s then (lands (sw (2 ^ halfD n.toNat) s) n.toNat k.toNat : Int) else 0
noncomputable def bkV (k n s : Int) : Int := if arS k n s then (lands (bk (2 ^ halfD n.toNat) s) n.toNat k.toNat : Int) else 0
theorem swV_f {k n s : Int} (h : arS k n s = false) : swV k n s = 0 := by unfold swV; simp [h]
theorem bkV_f {k n s : Int} (h : arS k n s = false) : bkV k n s = 0 := by unfold bkV; simp [h]
theorem pow_small {h : Nat} (h1 : 1 ≤ h) (h2 : h ≤ 8) : 2 ^ h ≤ 256 := by
  rcases eight h1 h2 with rfl | rfl | rfl | rfl | rfl | rfl | rfl | rfl <;> decide

theorem sw_facts {k n s : Int} (h : arS k n s = true) : ∃ N K : Nat, N ≤ 65536 ∧ K < 65536 ∧ n = N ∧ k = K ∧ (0 ≤ s ∧ s ≤ 4294967295) ∧ K < N ∧ ∃ f V : Nat, runS (sw (2 ^ halfD N) s) N f K = some V ∧ swV k n s = V := by
  obtain ⟨h1, h2, h3⟩ := arS_of h
  obtain ⟨N, rfl⟩ := Int.eq_ofNat_of_zero_le (show 0 ≤ n by omega)
  obtain ⟨K, rfl⟩ := Int.eq_ofNat_of_zero_le h2.1
  have hkn : K < N := by omega
  have hd := halfD_of N (by omega)
  obtain ⟨f, V, hf⟩ := runS_ends (g := sw (2 ^ halfD N) s) (b := bk (2 ^ halfD N) s) (M := 2 ^ halfD N * 2 ^ halfD N) (fun k hk => sw_lt s hk) (fun k hk => bk_sw s hk) hd.2.2 hkn
  refine ⟨N, K, by omega, by omega, rfl, rfl, h3, hkn, f, V, hf, ?_⟩
  unfold swV
  rw [if_pos h]
  simp only [Int.toNat_natCast]
  rw [lands_eq hf]
theorem bk_facts {k n s : Int} (h : arS k n s = true) : ∃ N K : Nat, N ≤ 65536 ∧ K < 65536 ∧ n = N ∧ k = K ∧ (0 ≤ s ∧ s ≤ 4294967295) ∧ K < N ∧ ∃ f V : Nat, runS (bk (2 ^ halfD N) s) N f K = some V ∧ bkV k n s = V := by
  obtain ⟨h1, h2, h3⟩ := arS_of h
  obtain ⟨N, rfl⟩ := Int.eq_ofNat_of_zero_le (show 0 ≤ n by omega)
  obtain ⟨K, rfl⟩ := Int.eq_ofNat_of_zero_le h2.1
  have hkn : K < N := by omega
  have hd := halfD_of N (by omega)
  obtain ⟨f, V, hf⟩ := runS_ends (g := bk (2 ^ halfD N) s) (b := sw (2 ^ halfD N) s) (M := 2 ^ halfD N * 2 ^ halfD N) (fun k hk => bk_lt s hk) (fun k hk => sw_bk s hk) hd.2.2 hkn
  refine ⟨N, K, by omega, by omega, rfl, rfl, h3, hkn, f, V, hf, ?_⟩
  unfold bkV
  rw [if_pos h]
  simp only [Int.toNat_natCast]
  rw [lands_eq hf]
set_option maxRecDepth 20000 in
set_option maxHeartbeats 2000000 in
theorem SwapPlace_1 (k n f V : Nat) (s : Int) (w : World) (hh : halfD n = 1) (hn : n ≤ 65536) (hk : k < n) (hA : arS k n s = true) (hs1 : 0 ≤ s) (hs2 : s ≤ 4294967295) (hf : runS (sw 2 s) n f k = some V) :
    Calls Try.prog 37 #[.int .i64 k, .int .i64 n, .int .i64 s] w fun e w' => ∃ m, e = .returned (.tuple #[.int .i64 V, .bool true]) ∧ w' = w.drewN m := by
  have hnz := (halfD_of n hn).2.2
  rw [hh] at hnz
  have HH := Lib.hid hh
  have HF := Lib.hid hf
  clear hh hf
  have hkz : k < 2 ^ 1 * 2 ^ 1 := by omega
  simp only [Nat.reducePow, Nat.reduceMul] at hkz hnz
  go_enter Try.func37, Try.ntmps37
  go_wp2_with (first | (go_at_call 56; refine (areSwaps_any _ _ _ _).mono ?_; rintro e w' ⟨rfl, rfl⟩) | (go_at_call 57; refine (halfDigits_any _ _ hn).mono ?_; rintro e w' ⟨rfl, rfl⟩; rw [HH.out]))
  go_loopg [0] f (fun g v wr => ∃ k' : Nat, v = .int .i64 k' ∧ k' < 4 ∧ runS (sw 2 s) n g k' = some V ∧ ∃ m, wr = w.drewN m)
  case atStart => exact ⟨k, rfl, hkz, HF.out, 0, rfl⟩
  case round =>
    obtain ⟨k', rfl, hk', hrun, m, rfl⟩ := hrel
    have HR := Lib.hid hrun
    clear hrun
    have HIN : Hid (∀ j, InZ 2 (feN 2 s (cutK 2 k') j)) := feN_in (h := 1) s (cut_in (z := 2 ^ 1) (k := k') (by decide) hk')
    go_wp2
    go_quiet (fail)
    go_wp2
    go_loopw [9, 10, 26] (fun l r i wr => ∃ j : Nat, j ≤ 4 ∧ i = .int .i64 j ∧ l = .int .i64 (feN 2 s (cutK 2 k') j).1 ∧ r = .int .i64 (feN 2 s (cutK 2 k') j).2 ∧ ∃ m, wr = w.drewN m) (fun _ _ i _ => 4 - (intOf i).toNat)
    case atStart => exact ⟨0, by omega, rfl, by simp [feN, cutK], by simp [feN, cutK], _, World.drewN_drewN _ _ _⟩
    case round =>
      obtain ⟨j, hj, rfl, rfl, rfl, m2, rfl⟩ := hrel
      have hl := (HIN.out j).1
      have hr := (HIN.out j).2
      have HJ : Hid (feN 2 s (cutK 2 k') (j + 1) = fe 2 s j (feN 2 s (cutK 2 k') j)) := rfl
      by_cases hj4 : j < 4
      · have hx := rnd_lt (z := 2) (by decide) s (feN 2 s (cutK 2 k') j).2 j
        go_wp2_with (go_at_call 58; refine (round_any 1 _ _ _ _ (by decide) (by decide) (by omega) (by omega) (by omega) hs1 hs2).mono ?_; rintro e w' ⟨q, rfl, rfl⟩)
        go_roundw
        case rel => exact ⟨j + 1, by omega, by go_num, by rw [HJ.out]; rfl, by rw [HJ.out]; exact (congrArg _ (xorI _ _ (by omega) (by omega))), _, rfl⟩
        case measure => simp [intOf]; omega
      · have hj' : j = 4 := by omega
        have H4 : Hid (sw 2 s k' = (feN 2 s (cutK 2 k') j).1 * 2 + (feN 2 s (cutK 2 k') j).2) := by rw [hj']; rfl
        have HS : Hid (sw 2 s k' < 4) := sw_lt (h := 1) s hk'
        clear hj' HIN HJ hk' hkz hnz
        by_cases hend : (feN 2 s (cutK 2 k') j).1 * 2 + (feN 2 s (cutK 2 k') j).2 < n
        · have HV : Hid (V = (feN 2 s (cutK 2 k') j).1 * 2 + (feN 2 s (cutK 2 k') j).2) := by
            have h1 := HR.out
            cases gk with
            | zero => cases h1
            | succ g =>
              unfold runS at h1
              rw [H4.out, if_pos hend] at h1
              cases h1; rfl
          go_wp2
          go_ret2
          exact ⟨_, ret2 (by rw [HV.out]; simp) rfl, rfl⟩
        · obtain ⟨g, hg, HN⟩ : ∃ g, g < gk ∧ Hid (runS (sw 2 s) n g (sw 2 s k') = some V) := by
            have h1 := HR.out
            cases gk with
            | zero => cases h1
            | succ g =>
              unfold runS at h1
              rw [H4.out, if_neg hend, ← H4.out] at h1
              exact ⟨g, by omega, h1⟩
          go_wp2
          go_roundg g
          case rel => exact ⟨sw 2 s k', by rw [H4.out]; simp, HS.out, HN.out, _, rfl⟩
          case measure => exact hg
set_option maxRecDepth 20000 in
set_option maxHeartbeats 2000000 in
theorem SwapPlace_2 (k n f V : Nat) (s : Int) (w : World) (hh : halfD n = 2) (hn : n ≤ 65536) (hk : k < n) (hA : arS k n s = true) (hs1 : 0 ≤ s) (hs2 : s ≤ 4294967295) (hf : runS (sw 4 s) n f k = some V) :
    Calls Try.prog 37 #[.int .i64 k, .int .i64 n, .int .i64 s] w fun e w' => ∃ m, e = .returned (.tuple #[.int .i64 V, .bool true]) ∧ w' = w.drewN m := by
  have hnz := (halfD_of n hn).2.2
  rw [hh] at hnz
  have HH := Lib.hid hh
  have HF := Lib.hid hf
  clear hh hf
  have hkz : k < 2 ^ 2 * 2 ^ 2 := by omega
  simp only [Nat.reducePow, Nat.reduceMul] at hkz hnz
  go_enter Try.func37, Try.ntmps37
  go_wp2_with (first | (go_at_call 56; refine (areSwaps_any _ _ _ _).mono ?_; rintro e w' ⟨rfl, rfl⟩) | (go_at_call 57; refine (halfDigits_any _ _ hn).mono ?_; rintro e w' ⟨rfl, rfl⟩; rw [HH.out]))
  go_loopg [0] f (fun g v wr => ∃ k' : Nat, v = .int .i64 k' ∧ k' < 16 ∧ runS (sw 4 s) n g k' = some V ∧ ∃ m, wr = w.drewN m)
  case atStart => exact ⟨k, rfl, hkz, HF.out, 0, rfl⟩
  case round =>
    obtain ⟨k', rfl, hk', hrun, m, rfl⟩ := hrel
    have HR := Lib.hid hrun
    clear hrun
    have HIN : Hid (∀ j, InZ 4 (feN 4 s (cutK 4 k') j)) := feN_in (h := 2) s (cut_in (z := 2 ^ 2) (k := k') (by decide) hk')
    go_wp2
    go_quiet (fail)
    go_wp2
    go_loopw [9, 10, 26] (fun l r i wr => ∃ j : Nat, j ≤ 4 ∧ i = .int .i64 j ∧ l = .int .i64 (feN 4 s (cutK 4 k') j).1 ∧ r = .int .i64 (feN 4 s (cutK 4 k') j).2 ∧ ∃ m, wr = w.drewN m) (fun _ _ i _ => 4 - (intOf i).toNat)
    case atStart => exact ⟨0, by omega, rfl, by simp [feN, cutK], by simp [feN, cutK], _, World.drewN_drewN _ _ _⟩
    case round =>
      obtain ⟨j, hj, rfl, rfl, rfl, m2, rfl⟩ := hrel
      have hl := (HIN.out j).1
      have hr := (HIN.out j).2
      have HJ : Hid (feN 4 s (cutK 4 k') (j + 1) = fe 4 s j (feN 4 s (cutK 4 k') j)) := rfl
      by_cases hj4 : j < 4
      · have hx := rnd_lt (z := 4) (by decide) s (feN 4 s (cutK 4 k') j).2 j
        go_wp2_with (go_at_call 58; refine (round_any 2 _ _ _ _ (by decide) (by decide) (by omega) (by omega) (by omega) hs1 hs2).mono ?_; rintro e w' ⟨q, rfl, rfl⟩)
        go_roundw
        case rel => exact ⟨j + 1, by omega, by go_num, by rw [HJ.out]; rfl, by rw [HJ.out]; exact (congrArg _ (xorI _ _ (by omega) (by omega))), _, rfl⟩
        case measure => simp [intOf]; omega
      · have hj' : j = 4 := by omega
        have H4 : Hid (sw 4 s k' = (feN 4 s (cutK 4 k') j).1 * 4 + (feN 4 s (cutK 4 k') j).2) := by rw [hj']; rfl
        have HS : Hid (sw 4 s k' < 16) := sw_lt (h := 2) s hk'
        clear hj' HIN HJ hk' hkz hnz
        by_cases hend : (feN 4 s (cutK 4 k') j).1 * 4 + (feN 4 s (cutK 4 k') j).2 < n
        · have HV : Hid (V = (feN 4 s (cutK 4 k') j).1 * 4 + (feN 4 s (cutK 4 k') j).2) := by
            have h1 := HR.out
            cases gk with
            | zero => cases h1
            | succ g =>
              unfold runS at h1
              rw [H4.out, if_pos hend] at h1
              cases h1; rfl
          go_wp2
          go_ret2
          exact ⟨_, ret2 (by rw [HV.out]; simp) rfl, rfl⟩
        · obtain ⟨g, hg, HN⟩ : ∃ g, g < gk ∧ Hid (runS (sw 4 s) n g (sw 4 s k') = some V) := by
            have h1 := HR.out
            cases gk with
            | zero => cases h1
            | succ g =>
              unfold runS at h1
              rw [H4.out, if_neg hend, ← H4.out] at h1
              exact ⟨g, by omega, h1⟩
          go_wp2
          go_roundg g
          case rel => exact ⟨sw 4 s k', by rw [H4.out]; simp, HS.out, HN.out, _, rfl⟩
          case measure => exact hg
set_option maxRecDepth 20000 in
set_option maxHeartbeats 2000000 in
theorem SwapPlace_3 (k n f V : Nat) (s : Int) (w : World) (hh : halfD n = 3) (hn : n ≤ 65536) (hk : k < n) (hA : arS k n s = true) (hs1 : 0 ≤ s) (hs2 : s ≤ 4294967295) (hf : runS (sw 8 s) n f k = some V) :
    Calls Try.prog 37 #[.int .i64 k, .int .i64 n, .int .i64 s] w fun e w' => ∃ m, e = .returned (.tuple #[.int .i64 V, .bool true]) ∧ w' = w.drewN m := by
  have hnz := (halfD_of n hn).2.2
  rw [hh] at hnz
  have HH := Lib.hid hh
  have HF := Lib.hid hf
  clear hh hf
  have hkz : k < 2 ^ 3 * 2 ^ 3 := by omega
  simp only [Nat.reducePow, Nat.reduceMul] at hkz hnz
  go_enter Try.func37, Try.ntmps37
  go_wp2_with (first | (go_at_call 56; refine (areSwaps_any _ _ _ _).mono ?_; rintro e w' ⟨rfl, rfl⟩) | (go_at_call 57; refine (halfDigits_any _ _ hn).mono ?_; rintro e w' ⟨rfl, rfl⟩; rw [HH.out]))
  go_loopg [0] f (fun g v wr => ∃ k' : Nat, v = .int .i64 k' ∧ k' < 64 ∧ runS (sw 8 s) n g k' = some V ∧ ∃ m, wr = w.drewN m)
  case atStart => exact ⟨k, rfl, hkz, HF.out, 0, rfl⟩
  case round =>
    obtain ⟨k', rfl, hk', hrun, m, rfl⟩ := hrel
    have HR := Lib.hid hrun
    clear hrun
    have HIN : Hid (∀ j, InZ 8 (feN 8 s (cutK 8 k') j)) := feN_in (h := 3) s (cut_in (z := 2 ^ 3) (k := k') (by decide) hk')
    go_wp2
    go_quiet (fail)
    go_wp2
    go_loopw [9, 10, 26] (fun l r i wr => ∃ j : Nat, j ≤ 4 ∧ i = .int .i64 j ∧ l = .int .i64 (feN 8 s (cutK 8 k') j).1 ∧ r = .int .i64 (feN 8 s (cutK 8 k') j).2 ∧ ∃ m, wr = w.drewN m) (fun _ _ i _ => 4 - (intOf i).toNat)
    case atStart => exact ⟨0, by omega, rfl, by simp [feN, cutK], by simp [feN, cutK], _, World.drewN_drewN _ _ _⟩
    case round =>
      obtain ⟨j, hj, rfl, rfl, rfl, m2, rfl⟩ := hrel
      have hl := (HIN.out j).1
      have hr := (HIN.out j).2
      have HJ : Hid (feN 8 s (cutK 8 k') (j + 1) = fe 8 s j (feN 8 s (cutK 8 k') j)) := rfl
      by_cases hj4 : j < 4
      · have hx := rnd_lt (z := 8) (by decide) s (feN 8 s (cutK 8 k') j).2 j
        go_wp2_with (go_at_call 58; refine (round_any 3 _ _ _ _ (by decide) (by decide) (by omega) (by omega) (by omega) hs1 hs2).mono ?_; rintro e w' ⟨q, rfl, rfl⟩)
        go_roundw
        case rel => exact ⟨j + 1, by omega, by go_num, by rw [HJ.out]; rfl, by rw [HJ.out]; exact (congrArg _ (xorI _ _ (by omega) (by omega))), _, rfl⟩
        case measure => simp [intOf]; omega
      · have hj' : j = 4 := by omega
        have H4 : Hid (sw 8 s k' = (feN 8 s (cutK 8 k') j).1 * 8 + (feN 8 s (cutK 8 k') j).2) := by rw [hj']; rfl
        have HS : Hid (sw 8 s k' < 64) := sw_lt (h := 3) s hk'
        clear hj' HIN HJ hk' hkz hnz
        by_cases hend : (feN 8 s (cutK 8 k') j).1 * 8 + (feN 8 s (cutK 8 k') j).2 < n
        · have HV : Hid (V = (feN 8 s (cutK 8 k') j).1 * 8 + (feN 8 s (cutK 8 k') j).2) := by
            have h1 := HR.out
            cases gk with
            | zero => cases h1
            | succ g =>
              unfold runS at h1
              rw [H4.out, if_pos hend] at h1
              cases h1; rfl
          go_wp2
          go_ret2
          exact ⟨_, ret2 (by rw [HV.out]; simp) rfl, rfl⟩
        · obtain ⟨g, hg, HN⟩ : ∃ g, g < gk ∧ Hid (runS (sw 8 s) n g (sw 8 s k') = some V) := by
            have h1 := HR.out
            cases gk with
            | zero => cases h1
            | succ g =>
              unfold runS at h1
              rw [H4.out, if_neg hend, ← H4.out] at h1
              exact ⟨g, by omega, h1⟩
          go_wp2
          go_roundg g
          case rel => exact ⟨sw 8 s k', by rw [H4.out]; simp, HS.out, HN.out, _, rfl⟩
          case measure => exact hg
set_option maxRecDepth 20000 in
set_option maxHeartbeats 2000000 in
theorem SwapPlace_4 (k n f V : Nat) (s : Int) (w : World) (hh : halfD n = 4) (hn : n ≤ 65536) (hk : k < n) (hA : arS k n s = true) (hs1 : 0 ≤ s) (hs2 : s ≤ 4294967295) (hf : runS (sw 16 s) n f k = some V) :
    Calls Try.prog 37 #[.int .i64 k, .int .i64 n, .int .i64 s] w fun e w' => ∃ m, e = .returned (.tuple #[.int .i64 V, .bool true]) ∧ w' = w.drewN m := by
  have hnz := (halfD_of n hn).2.2
  rw [hh] at hnz
  have HH := Lib.hid hh
  have HF := Lib.hid hf
  clear hh hf
  have hkz : k < 2 ^ 4 * 2 ^ 4 := by omega
  simp only [Nat.reducePow, Nat.reduceMul] at hkz hnz
  go_enter Try.func37, Try.ntmps37
  go_wp2_with (first | (go_at_call 56; refine (areSwaps_any _ _ _ _).mono ?_; rintro e w' ⟨rfl, rfl⟩) | (go_at_call 57; refine (halfDigits_any _ _ hn).mono ?_; rintro e w' ⟨rfl, rfl⟩; rw [HH.out]))
  go_loopg [0] f (fun g v wr => ∃ k' : Nat, v = .int .i64 k' ∧ k' < 256 ∧ runS (sw 16 s) n g k' = some V ∧ ∃ m, wr = w.drewN m)
  case atStart => exact ⟨k, rfl, hkz, HF.out, 0, rfl⟩
  case round =>
    obtain ⟨k', rfl, hk', hrun, m, rfl⟩ := hrel
    have HR := Lib.hid hrun
    clear hrun
    have HIN : Hid (∀ j, InZ 16 (feN 16 s (cutK 16 k') j)) := feN_in (h := 4) s (cut_in (z := 2 ^ 4) (k := k') (by decide) hk')
    go_wp2
    go_quiet (fail)
    go_wp2
    go_loopw [9, 10, 26] (fun l r i wr => ∃ j : Nat, j ≤ 4 ∧ i = .int .i64 j ∧ l = .int .i64 (feN 16 s (cutK 16 k') j).1 ∧ r = .int .i64 (feN 16 s (cutK 16 k') j).2 ∧ ∃ m, wr = w.drewN m) (fun _ _ i _ => 4 - (intOf i).toNat)
    case atStart => exact ⟨0, by omega, rfl, by simp [feN, cutK], by simp [feN, cutK], _, World.drewN_drewN _ _ _⟩
    case round =>
      obtain ⟨j, hj, rfl, rfl, rfl, m2, rfl⟩ := hrel
      have hl := (HIN.out j).1
      have hr := (HIN.out j).2
      have HJ : Hid (feN 16 s (cutK 16 k') (j + 1) = fe 16 s j (feN 16 s (cutK 16 k') j)) := rfl
      by_cases hj4 : j < 4
      · have hx := rnd_lt (z := 16) (by decide) s (feN 16 s (cutK 16 k') j).2 j
        go_wp2_with (go_at_call 58; refine (round_any 4 _ _ _ _ (by decide) (by decide) (by omega) (by omega) (by omega) hs1 hs2).mono ?_; rintro e w' ⟨q, rfl, rfl⟩)
        go_roundw
        case rel => exact ⟨j + 1, by omega, by go_num, by rw [HJ.out]; rfl, by rw [HJ.out]; exact (congrArg _ (xorI _ _ (by omega) (by omega))), _, rfl⟩
        case measure => simp [intOf]; omega
      · have hj' : j = 4 := by omega
        have H4 : Hid (sw 16 s k' = (feN 16 s (cutK 16 k') j).1 * 16 + (feN 16 s (cutK 16 k') j).2) := by rw [hj']; rfl
        have HS : Hid (sw 16 s k' < 256) := sw_lt (h := 4) s hk'
        clear hj' HIN HJ hk' hkz hnz
        by_cases hend : (feN 16 s (cutK 16 k') j).1 * 16 + (feN 16 s (cutK 16 k') j).2 < n
        · have HV : Hid (V = (feN 16 s (cutK 16 k') j).1 * 16 + (feN 16 s (cutK 16 k') j).2) := by
            have h1 := HR.out
            cases gk with
            | zero => cases h1
            | succ g =>
              unfold runS at h1
              rw [H4.out, if_pos hend] at h1
              cases h1; rfl
          go_wp2
          go_ret2
          exact ⟨_, ret2 (by rw [HV.out]; simp) rfl, rfl⟩
        · obtain ⟨g, hg, HN⟩ : ∃ g, g < gk ∧ Hid (runS (sw 16 s) n g (sw 16 s k') = some V) := by
            have h1 := HR.out
            cases gk with
            | zero => cases h1
            | succ g =>
              unfold runS at h1
              rw [H4.out, if_neg hend, ← H4.out] at h1
              exact ⟨g, by omega, h1⟩
          go_wp2
          go_roundg g
          case rel => exact ⟨sw 16 s k', by rw [H4.out]; simp, HS.out, HN.out, _, rfl⟩
          case measure => exact hg
set_option maxRecDepth 20000 in
set_option maxHeartbeats 2000000 in
theorem SwapPlace_5 (k n f V : Nat) (s : Int) (w : World) (hh : halfD n = 5) (hn : n ≤ 65536) (hk : k < n) (hA : arS k n s = true) (hs1 : 0 ≤ s) (hs2 : s ≤ 4294967295) (hf : runS (sw 32 s) n f k = some V) :
    Calls Try.prog 37 #[.int .i64 k, .int .i64 n, .int .i64 s] w fun e w' => ∃ m, e = .returned (.tuple #[.int .i64 V, .bool true]) ∧ w' = w.drewN m := by
  have hnz := (halfD_of n hn).2.2
  rw [hh] at hnz
  have HH := Lib.hid hh
  have HF := Lib.hid hf
  clear hh hf
  have hkz : k < 2 ^ 5 * 2 ^ 5 := by omega
  simp only [Nat.reducePow, Nat.reduceMul] at hkz hnz
  go_enter Try.func37, Try.ntmps37
  go_wp2_with (first | (go_at_call 56; refine (areSwaps_any _ _ _ _).mono ?_; rintro e w' ⟨rfl, rfl⟩) | (go_at_call 57; refine (halfDigits_any _ _ hn).mono ?_; rintro e w' ⟨rfl, rfl⟩; rw [HH.out]))
  go_loopg [0] f (fun g v wr => ∃ k' : Nat, v = .int .i64 k' ∧ k' < 1024 ∧ runS (sw 32 s) n g k' = some V ∧ ∃ m, wr = w.drewN m)
  case atStart => exact ⟨k, rfl, hkz, HF.out, 0, rfl⟩
  case round =>
    obtain ⟨k', rfl, hk', hrun, m, rfl⟩ := hrel
    have HR := Lib.hid hrun
    clear hrun
    have HIN : Hid (∀ j, InZ 32 (feN 32 s (cutK 32 k') j)) := feN_in (h := 5) s (cut_in (z := 2 ^ 5) (k := k') (by decide) hk')
    go_wp2
    go_quiet (fail)
    go_wp2
    go_loopw [9, 10, 26] (fun l r i wr => ∃ j : Nat, j ≤ 4 ∧ i = .int .i64 j ∧ l = .int .i64 (feN 32 s (cutK 32 k') j).1 ∧ r = .int .i64 (feN 32 s (cutK 32 k') j).2 ∧ ∃ m, wr = w.drewN m) (fun _ _ i _ => 4 - (intOf i).toNat)
    case atStart => exact ⟨0, by omega, rfl, by simp [feN, cutK], by simp [feN, cutK], _, World.drewN_drewN _ _ _⟩
    case round =>
      obtain ⟨j, hj, rfl, rfl, rfl, m2, rfl⟩ := hrel
      have hl := (HIN.out j).1
      have hr := (HIN.out j).2
      have HJ : Hid (feN 32 s (cutK 32 k') (j + 1) = fe 32 s j (feN 32 s (cutK 32 k') j)) := rfl
      by_cases hj4 : j < 4
      · have hx := rnd_lt (z := 32) (by decide) s (feN 32 s (cutK 32 k') j).2 j
        go_wp2_with (go_at_call 58; refine (round_any 5 _ _ _ _ (by decide) (by decide) (by omega) (by omega) (by omega) hs1 hs2).mono ?_; rintro e w' ⟨q, rfl, rfl⟩)
        go_roundw
        case rel => exact ⟨j + 1, by omega, by go_num, by rw [HJ.out]; rfl, by rw [HJ.out]; exact (congrArg _ (xorI _ _ (by omega) (by omega))), _, rfl⟩
        case measure => simp [intOf]; omega
      · have hj' : j = 4 := by omega
        have H4 : Hid (sw 32 s k' = (feN 32 s (cutK 32 k') j).1 * 32 + (feN 32 s (cutK 32 k') j).2) := by rw [hj']; rfl
        have HS : Hid (sw 32 s k' < 1024) := sw_lt (h := 5) s hk'
        clear hj' HIN HJ hk' hkz hnz
        by_cases hend : (feN 32 s (cutK 32 k') j).1 * 32 + (feN 32 s (cutK 32 k') j).2 < n
        · have HV : Hid (V = (feN 32 s (cutK 32 k') j).1 * 32 + (feN 32 s (cutK 32 k') j).2) := by
            have h1 := HR.out
            cases gk with
            | zero => cases h1
            | succ g =>
              unfold runS at h1
              rw [H4.out, if_pos hend] at h1
              cases h1; rfl
          go_wp2
          go_ret2
          exact ⟨_, ret2 (by rw [HV.out]; simp) rfl, rfl⟩
        · obtain ⟨g, hg, HN⟩ : ∃ g, g < gk ∧ Hid (runS (sw 32 s) n g (sw 32 s k') = some V) := by
            have h1 := HR.out
            cases gk with
            | zero => cases h1
            | succ g =>
              unfold runS at h1
              rw [H4.out, if_neg hend, ← H4.out] at h1
              exact ⟨g, by omega, h1⟩
          go_wp2
          go_roundg g
          case rel => exact ⟨sw 32 s k', by rw [H4.out]; simp, HS.out, HN.out, _, rfl⟩
          case measure => exact hg
set_option maxRecDepth 20000 in
set_option maxHeartbeats 2000000 in
theorem SwapPlace_6 (k n f V : Nat) (s : Int) (w : World) (hh : halfD n = 6) (hn : n ≤ 65536) (hk : k < n) (hA : arS k n s = true) (hs1 : 0 ≤ s) (hs2 : s ≤ 4294967295) (hf : runS (sw 64 s) n f k = some V) :
    Calls Try.prog 37 #[.int .i64 k, .int .i64 n, .int .i64 s] w fun e w' => ∃ m, e = .returned (.tuple #[.int .i64 V, .bool true]) ∧ w' = w.drewN m := by
  have hnz := (halfD_of n hn).2.2
  rw [hh] at hnz
  have HH := Lib.hid hh
  have HF := Lib.hid hf
  clear hh hf
  have hkz : k < 2 ^ 6 * 2 ^ 6 := by omega
  simp only [Nat.reducePow, Nat.reduceMul] at hkz hnz
  go_enter Try.func37, Try.ntmps37
  go_wp2_with (first | (go_at_call 56; refine (areSwaps_any _ _ _ _).mono ?_; rintro e w' ⟨rfl, rfl⟩) | (go_at_call 57; refine (halfDigits_any _ _ hn).mono ?_; rintro e w' ⟨rfl, rfl⟩; rw [HH.out]))
  go_loopg [0] f (fun g v wr => ∃ k' : Nat, v = .int .i64 k' ∧ k' < 4096 ∧ runS (sw 64 s) n g k' = some V ∧ ∃ m, wr = w.drewN m)
  case atStart => exact ⟨k, rfl, hkz, HF.out, 0, rfl⟩
  case round =>
    obtain ⟨k', rfl, hk', hrun, m, rfl⟩ := hrel
    have HR := Lib.hid hrun
    clear hrun
    have HIN : Hid (∀ j, InZ 64 (feN 64 s (cutK 64 k') j)) := feN_in (h := 6) s (cut_in (z := 2 ^ 6) (k := k') (by decide) hk')
    go_wp2
    go_quiet (fail)
    go_wp2
    go_loopw [9, 10, 26] (fun l r i wr => ∃ j : Nat, j ≤ 4 ∧ i = .int .i64 j ∧ l = .int .i64 (feN 64 s (cutK 64 k') j).1 ∧ r = .int .i64 (feN 64 s (cutK 64 k') j).2 ∧ ∃ m, wr = w.drewN m) (fun _ _ i _ => 4 - (intOf i).toNat)
    case atStart => exact ⟨0, by omega, rfl, by simp [feN, cutK], by simp [feN, cutK], _, World.drewN_drewN _ _ _⟩
    case round =>
      obtain ⟨j, hj, rfl, rfl, rfl, m2, rfl⟩ := hrel
      have hl := (HIN.out j).1
      have hr := (HIN.out j).2
      have HJ : Hid (feN 64 s (cutK 64 k') (j + 1) = fe 64 s j (feN 64 s (cutK 64 k') j)) := rfl
      by_cases hj4 : j < 4
      · have hx := rnd_lt (z := 64) (by decide) s (feN 64 s (cutK 64 k') j).2 j
        go_wp2_with (go_at_call 58; refine (round_any 6 _ _ _ _ (by decide) (by decide) (by omega) (by omega) (by omega) hs1 hs2).mono ?_; rintro e w' ⟨q, rfl, rfl⟩)
        go_roundw
        case rel => exact ⟨j + 1, by omega, by go_num, by rw [HJ.out]; rfl, by rw [HJ.out]; exact (congrArg _ (xorI _ _ (by omega) (by omega))), _, rfl⟩
        case measure => simp [intOf]; omega
      · have hj' : j = 4 := by omega
        have H4 : Hid (sw 64 s k' = (feN 64 s (cutK 64 k') j).1 * 64 + (feN 64 s (cutK 64 k') j).2) := by rw [hj']; rfl
        have HS : Hid (sw 64 s k' < 4096) := sw_lt (h := 6) s hk'
        clear hj' HIN HJ hk' hkz hnz
        by_cases hend : (feN 64 s (cutK 64 k') j).1 * 64 + (feN 64 s (cutK 64 k') j).2 < n
        · have HV : Hid (V = (feN 64 s (cutK 64 k') j).1 * 64 + (feN 64 s (cutK 64 k') j).2) := by
            have h1 := HR.out
            cases gk with
            | zero => cases h1
            | succ g =>
              unfold runS at h1
              rw [H4.out, if_pos hend] at h1
              cases h1; rfl
          go_wp2
          go_ret2
          exact ⟨_, ret2 (by rw [HV.out]; simp) rfl, rfl⟩
        · obtain ⟨g, hg, HN⟩ : ∃ g, g < gk ∧ Hid (runS (sw 64 s) n g (sw 64 s k') = some V) := by
            have h1 := HR.out
            cases gk with
            | zero => cases h1
            | succ g =>
              unfold runS at h1
              rw [H4.out, if_neg hend, ← H4.out] at h1
              exact ⟨g, by omega, h1⟩
          go_wp2
          go_roundg g
          case rel => exact ⟨sw 64 s k', by rw [H4.out]; simp, HS.out, HN.out, _, rfl⟩
          case measure => exact hg
set_option maxRecDepth 20000 in
set_option maxHeartbeats 2000000 in
theorem SwapPlace_7 (k n f V : Nat) (s : Int) (w : World) (hh : halfD n = 7) (hn : n ≤ 65536) (hk : k < n) (hA : arS k n s = true) (hs1 : 0 ≤ s) (hs2 : s ≤ 4294967295) (hf : runS (sw 128 s) n f k = some V) :
    Calls Try.prog 37 #[.int .i64 k, .int .i64 n, .int .i64 s] w fun e w' => ∃ m, e = .returned (.tuple #[.int .i64 V, .bool true]) ∧ w' = w.drewN m := by
  have hnz := (halfD_of n hn).2.2
  rw [hh] at hnz
  have HH := Lib.hid hh
  have HF := Lib.hid hf
  clear hh hf
  have hkz : k < 2 ^ 7 * 2 ^ 7 := by omega
  simp only [Nat.reducePow, Nat.reduceMul] at hkz hnz
  go_enter Try.func37, Try.ntmps37
  go_wp2_with (first | (go_at_call 56; refine (areSwaps_any _ _ _ _).mono ?_; rintro e w' ⟨rfl, rfl⟩) | (go_at_call 57; refine (halfDigits_any _ _ hn).mono ?_; rintro e w' ⟨rfl, rfl⟩; rw [HH.out]))
  go_loopg [0] f (fun g v wr => ∃ k' : Nat, v = .int .i64 k' ∧ k' < 16384 ∧ runS (sw 128 s) n g k' = some V ∧ ∃ m, wr = w.drewN m)
  case atStart => exact ⟨k, rfl, hkz, HF.out, 0, rfl⟩
  case round =>
    obtain ⟨k', rfl, hk', hrun, m, rfl⟩ := hrel
    have HR := Lib.hid hrun
    clear hrun
    have HIN : Hid (∀ j, InZ 128 (feN 128 s (cutK 128 k') j)) := feN_in (h := 7) s (cut_in (z := 2 ^ 7) (k := k') (by decide) hk')
    go_wp2
    go_quiet (fail)
    go_wp2
    go_loopw [9, 10, 26] (fun l r i wr => ∃ j : Nat, j ≤ 4 ∧ i = .int .i64 j ∧ l = .int .i64 (feN 128 s (cutK 128 k') j).1 ∧ r = .int .i64 (feN 128 s (cutK 128 k') j).2 ∧ ∃ m, wr = w.drewN m) (fun _ _ i _ => 4 - (intOf i).toNat)
    case atStart => exact ⟨0, by omega, rfl, by simp [feN, cutK], by simp [feN, cutK], _, World.drewN_drewN _ _ _⟩
    case round =>
      obtain ⟨j, hj, rfl, rfl, rfl, m2, rfl⟩ := hrel
      have hl := (HIN.out j).1
      have hr := (HIN.out j).2
      have HJ : Hid (feN 128 s (cutK 128 k') (j + 1) = fe 128 s j (feN 128 s (cutK 128 k') j)) := rfl
      by_cases hj4 : j < 4
      · have hx := rnd_lt (z := 128) (by decide) s (feN 128 s (cutK 128 k') j).2 j
        go_wp2_with (go_at_call 58; refine (round_any 7 _ _ _ _ (by decide) (by decide) (by omega) (by omega) (by omega) hs1 hs2).mono ?_; rintro e w' ⟨q, rfl, rfl⟩)
        go_roundw
        case rel => exact ⟨j + 1, by omega, by go_num, by rw [HJ.out]; rfl, by rw [HJ.out]; exact (congrArg _ (xorI _ _ (by omega) (by omega))), _, rfl⟩
        case measure => simp [intOf]; omega
      · have hj' : j = 4 := by omega
        have H4 : Hid (sw 128 s k' = (feN 128 s (cutK 128 k') j).1 * 128 + (feN 128 s (cutK 128 k') j).2) := by rw [hj']; rfl
        have HS : Hid (sw 128 s k' < 16384) := sw_lt (h := 7) s hk'
        clear hj' HIN HJ hk' hkz hnz
        by_cases hend : (feN 128 s (cutK 128 k') j).1 * 128 + (feN 128 s (cutK 128 k') j).2 < n
        · have HV : Hid (V = (feN 128 s (cutK 128 k') j).1 * 128 + (feN 128 s (cutK 128 k') j).2) := by
            have h1 := HR.out
            cases gk with
            | zero => cases h1
            | succ g =>
              unfold runS at h1
              rw [H4.out, if_pos hend] at h1
              cases h1; rfl
          go_wp2
          go_ret2
          exact ⟨_, ret2 (by rw [HV.out]; simp) rfl, rfl⟩
        · obtain ⟨g, hg, HN⟩ : ∃ g, g < gk ∧ Hid (runS (sw 128 s) n g (sw 128 s k') = some V) := by
            have h1 := HR.out
            cases gk with
            | zero => cases h1
            | succ g =>
              unfold runS at h1
              rw [H4.out, if_neg hend, ← H4.out] at h1
              exact ⟨g, by omega, h1⟩
          go_wp2
          go_roundg g
          case rel => exact ⟨sw 128 s k', by rw [H4.out]; simp, HS.out, HN.out, _, rfl⟩
          case measure => exact hg
set_option maxRecDepth 20000 in
set_option maxHeartbeats 2000000 in
theorem SwapPlace_8 (k n f V : Nat) (s : Int) (w : World) (hh : halfD n = 8) (hn : n ≤ 65536) (hk : k < n) (hA : arS k n s = true) (hs1 : 0 ≤ s) (hs2 : s ≤ 4294967295) (hf : runS (sw 256 s) n f k = some V) :
    Calls Try.prog 37 #[.int .i64 k, .int .i64 n, .int .i64 s] w fun e w' => ∃ m, e = .returned (.tuple #[.int .i64 V, .bool true]) ∧ w' = w.drewN m := by
  have hnz := (halfD_of n hn).2.2
  rw [hh] at hnz
  have HH := Lib.hid hh
  have HF := Lib.hid hf
  clear hh hf
  have hkz : k < 2 ^ 8 * 2 ^ 8 := by omega
  simp only [Nat.reducePow, Nat.reduceMul] at hkz hnz
  go_enter Try.func37, Try.ntmps37
  go_wp2_with (first | (go_at_call 56; refine (areSwaps_any _ _ _ _).mono ?_; rintro e w' ⟨rfl, rfl⟩) | (go_at_call 57; refine (halfDigits_any _ _ hn).mono ?_; rintro e w' ⟨rfl, rfl⟩; rw [HH.out]))
  go_loopg [0] f (fun g v wr => ∃ k' : Nat, v = .int .i64 k' ∧ k' < 65536 ∧ runS (sw 256 s) n g k' = some V ∧ ∃ m, wr = w.drewN m)
  case atStart => exact ⟨k, rfl, hkz, HF.out, 0, rfl⟩
  case round =>
    obtain ⟨k', rfl, hk', hrun, m, rfl⟩ := hrel
    have HR := Lib.hid hrun
    clear hrun
    have HIN : Hid (∀ j, InZ 256 (feN 256 s (cutK 256 k') j)) := feN_in (h := 8) s (cut_in (z := 2 ^ 8) (k := k') (by decide) hk')
    go_wp2
    go_quiet (fail)
    go_wp2
    go_loopw [9, 10, 26] (fun l r i wr => ∃ j : Nat, j ≤ 4 ∧ i = .int .i64 j ∧ l = .int .i64 (feN 256 s (cutK 256 k') j).1 ∧ r = .int .i64 (feN 256 s (cutK 256 k') j).2 ∧ ∃ m, wr = w.drewN m) (fun _ _ i _ => 4 - (intOf i).toNat)
    case atStart => exact ⟨0, by omega, rfl, by simp [feN, cutK], by simp [feN, cutK], _, World.drewN_drewN _ _ _⟩
    case round =>
      obtain ⟨j, hj, rfl, rfl, rfl, m2, rfl⟩ := hrel
      have hl := (HIN.out j).1
      have hr := (HIN.out j).2
      have HJ : Hid (feN 256 s (cutK 256 k') (j + 1) = fe 256 s j (feN 256 s (cutK 256 k') j)) := rfl
      by_cases hj4 : j < 4
      · have hx := rnd_lt (z := 256) (by decide) s (feN 256 s (cutK 256 k') j).2 j
        go_wp2_with (go_at_call 58; refine (round_any 8 _ _ _ _ (by decide) (by decide) (by omega) (by omega) (by omega) hs1 hs2).mono ?_; rintro e w' ⟨q, rfl, rfl⟩)
        go_roundw
        case rel => exact ⟨j + 1, by omega, by go_num, by rw [HJ.out]; rfl, by rw [HJ.out]; exact (congrArg _ (xorI _ _ (by omega) (by omega))), _, rfl⟩
        case measure => simp [intOf]; omega
      · have hj' : j = 4 := by omega
        have H4 : Hid (sw 256 s k' = (feN 256 s (cutK 256 k') j).1 * 256 + (feN 256 s (cutK 256 k') j).2) := by rw [hj']; rfl
        have HS : Hid (sw 256 s k' < 65536) := sw_lt (h := 8) s hk'
        clear hj' HIN HJ hk' hkz hnz
        by_cases hend : (feN 256 s (cutK 256 k') j).1 * 256 + (feN 256 s (cutK 256 k') j).2 < n
        · have HV : Hid (V = (feN 256 s (cutK 256 k') j).1 * 256 + (feN 256 s (cutK 256 k') j).2) := by
            have h1 := HR.out
            cases gk with
            | zero => cases h1
            | succ g =>
              unfold runS at h1
              rw [H4.out, if_pos hend] at h1
              cases h1; rfl
          go_wp2
          go_ret2
          exact ⟨_, ret2 (by rw [HV.out]; simp) rfl, rfl⟩
        · obtain ⟨g, hg, HN⟩ : ∃ g, g < gk ∧ Hid (runS (sw 256 s) n g (sw 256 s k') = some V) := by
            have h1 := HR.out
            cases gk with
            | zero => cases h1
            | succ g =>
              unfold runS at h1
              rw [H4.out, if_neg hend, ← H4.out] at h1
              exact ⟨g, by omega, h1⟩
          go_wp2
          go_roundg g
          case rel => exact ⟨sw 256 s k', by rw [H4.out]; simp, HS.out, HN.out, _, rfl⟩
          case measure => exact hg
set_option maxHeartbeats 1000000 in
theorem SwapPlace_any (k n s : Int) (w : World) :
    Calls Try.prog 37 #[.int .i64 k, .int .i64 n, .int .i64 s] w fun e w' => ∃ m, e = .returned (.tuple #[.int .i64 (swV k n s), .bool (arS k n s)]) ∧ w' = w.drewN m := by
  rcases hA : arS k n s
  · go_enter Try.func37, Try.ntmps37
    go_wp2_with (first | (go_at_call 56; refine (areSwaps_any _ _ _ _).mono ?_; rintro e w' ⟨rfl, rfl⟩))
    go_ret2
    exact ⟨0, ret2 (swV_f hA).symm rfl, rfl⟩
  · obtain ⟨N, K, hN, hK, rfl, rfl, hs, hkn, f, V, hf, hV⟩ := sw_facts hA
    rw [hV]
    have hd := halfD_of N hN
    rcases eight hd.1 hd.2.1 with e | e | e | e | e | e | e | e <;> rw [e] at hf
    · exact SwapPlace_1 K N f V s w e hN hkn hA hs.1 hs.2 hf
    · exact SwapPlace_2 K N f V s w e hN hkn hA hs.1 hs.2 hf
    · exact SwapPlace_3 K N f V s w e hN hkn hA hs.1 hs.2 hf
    · exact SwapPlace_4 K N f V s w e hN hkn hA hs.1 hs.2 hf
    · exact SwapPlace_5 K N f V s w e hN hkn hA hs.1 hs.2 hf
    · exact SwapPlace_6 K N f V s w e hN hkn hA hs.1 hs.2 hf
    · exact SwapPlace_7 K N f V s w e hN hkn hA hs.1 hs.2 hf
    · exact SwapPlace_8 K N f V s w e hN hkn hA hs.1 hs.2 hf
end Go.Proofs.Ytilbglcbhoiamaa
