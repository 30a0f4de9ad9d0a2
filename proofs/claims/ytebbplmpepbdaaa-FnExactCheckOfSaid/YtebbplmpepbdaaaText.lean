/-
  Contracts of KeyOfText, IsName, CheckOf and their twins: loops over the bytes of a text.
-/
import Derived.Test.YtebbplmpepbdaaaHash
import Derived.WalkKit
import Derived.WalkSpells
import Derived.WalkLawsBesides
import Derived.Laws.Closers25b
import Derived.LoopTactic
import Derived.Lib.Hide
namespace Go.Proofs.Ytebbplmpepbdaaa
open Go.RowKit

theorem take_snoc (s : ByteArray) (k : Nat) (h : k < s.size) : s.data.toList.take (k + 1) = s.data.toList.take k ++ [s[k]] := by
  rw [List.take_succ_eq_append_getElem (by simpa using h)]; rfl
theorem take_all (s : ByteArray) (k : Nat) (h : s.size ≤ k) : s.data.toList.take k = s.data.toList := List.take_of_length_le (by simpa using h)
theorem tInt {k : IntKind} {a b : Int} (h : a = b) : Value.int k a = Value.int k b := by rw [h]
theorem tRet {k : IntKind} {a b : Int} (h : a = b) : Ending.returned (.int k a) = .returned (.int k b) := by rw [h]
theorem tRetB {a b : Bool} (h : a = b) : Ending.returned (.bool a) = .returned (.bool b) := by rw [h]
theorem tRet2 {v v' : Int} {b b' : Bool} (h1 : v = v') (h2 : b = b') : Ending.returned (.tuple #[.int .i64 v, .bool b]) = .returned (.tuple #[.int .i64 v', .bool b']) := by rw [h1, h2]

/-! ### KeyOfText -/
@[irreducible] def stepK (h : Int) (c : UInt8) : Int := IntKind.u32.wrap (bits BinOp.xor IntKind.u32 h c.toNat * 16777619)
@[irreducible] def ktx (l : List UInt8) : Int := l.foldl stepK 2166136261
theorem ktx_snoc (l : List UInt8) (c : UInt8) : ktx (l ++ [c]) = stepK (ktx l) c := by unfold ktx; simp
theorem stepK_bd (h : Int) (c : UInt8) : 0 ≤ stepK h c ∧ stepK h c ≤ 4294967295 := by
  unfold stepK
  exact ⟨(wrap_within .u32 _).1, (wrap_within .u32 _).2⟩
theorem ktx_bd (l : List UInt8) : 0 ≤ ktx l ∧ ktx l ≤ 4294967295 := by
  rcases List.eq_nil_or_concat l with rfl | ⟨a, c, rfl⟩
  · unfold ktx; simp
  · rw [List.concat_eq_append, ktx_snoc]; exact stepK_bd _ _
theorem xor_nat (k : IntKind) (j : Nat) (hj : j ≤ k.bits) (hk : ∀ n : Int, 0 ≤ n → n < 2 ^ j → k.wrap n = n) (a b : Nat) (ha : a < 2 ^ j) (hb : b < 2 ^ j) :
    bits .xor k a b = ((a ^^^ b : Nat) : Int) := by
  have hp : 2 ^ j ≤ 2 ^ k.bits := Nat.pow_le_pow_right (by decide) hj
  have ha' : a % 2 ^ k.bits = a := Nat.mod_eq_of_lt (Nat.lt_of_lt_of_le ha hp)
  have hb' : b % 2 ^ k.bits = b := Nat.mod_eq_of_lt (Nat.lt_of_lt_of_le hb hp)
  have cast : ∀ n : Nat, n < 2 ^ j → ((n : Nat) : Int) < 2 ^ j := fun n h => by exact_mod_cast h
  simp only [bits, BitVec.ofInt_natCast, BitVec.toNat_xor, BitVec.toNat_ofNat, ha', hb']
  exact hk _ (Int.natCast_nonneg _) (cast _ (Nat.xor_lt_two_pow ha hb))
theorem wraps_i64_32 (n : Int) (h₀ : 0 ≤ n) (h₁ : n < 2 ^ 32) : IntKind.i64.wrap n = n := by
  have : (2 : Int) ^ 32 = 4294967296 := by decide
  rw [IntKind.wrap_i64]; omega
theorem wraps_u32_32 (n : Int) (h₀ : 0 ≤ n) (h₁ : n < 2 ^ 32) : IntKind.u32.wrap n = n := by
  have : (2 : Int) ^ 32 = 4294967296 := by decide
  rw [IntKind.wrap_u32]; omega
theorem stepK_wide (h : Int) (c : UInt8) (h0 : 0 ≤ h) (h1 : h ≤ 4294967295) :
    0 ≤ bits BinOp.xor IntKind.i64 h c.toNat ∧ bits BinOp.xor IntKind.i64 h c.toNat ≤ 4294967295 ∧ bits BinOp.xor IntKind.i64 h c.toNat * 16777619 % 4294967296 = stepK h c := by
  obtain ⟨a, rfl⟩ := Int.eq_ofNat_of_zero_le h0
  have ha : a < 2 ^ 32 := by have : (2 : Nat) ^ 32 = 4294967296 := by decide
                             omega
  have hc : c.toNat < 2 ^ 32 := Nat.lt_trans c.toNat_lt (by decide)
  have e1 := xor_nat .i64 32 (by decide) wraps_i64_32 a c.toNat ha hc
  have e2 := xor_nat .u32 32 (by decide) wraps_u32_32 a c.toNat ha hc
  have hx : a ^^^ c.toNat < 2 ^ 32 := Nat.xor_lt_two_pow ha hc
  have h32 : (2 : Nat) ^ 32 = 4294967296 := by decide
  unfold stepK
  rw [e1, e2, IntKind.wrap_u32]
  generalize a ^^^ c.toNat = x at *
  refine ⟨by omega, by omega, by omega⟩

set_option maxHeartbeats 400000 in
theorem KeyOfText_any (s : ByteArray) (w : World) (hs : s.size ≤ 1048576) :
    Calls Try.prog 7 #[.string s] w fun e w' => e = .returned (.int .i64 (ktx s.data.toList)) ∧ w' = w := by
  have hd0 : ktx [] = 2166136261 := by unfold ktx; rfl
  go_enter Try.func7, Try.ntmps7
  go_wp2
  go_loop [3, 7] (fun n i => ∃ k : Nat, k ≤ s.size ∧ i = .int .i64 k ∧ n = .int .u32 (ktx (s.data.toList.take k))) (fun _ i => s.size - (intOf i).toNat)
  case atStart => exact ⟨0, Nat.zero_le _, rfl, by simp [hd0]⟩
  case round =>
    obtain ⟨k, hk, rfl, rfl⟩ := hrel
    have hd := ktx_bd (s.data.toList.take k)
    obtain ⟨hd1, hd2⟩ := hd
    clear hd0
    by_cases hlt : k < s.size
    · have hcb : s[k].toNat < 256 := s[k].toNat_lt
      have HS : Hid (ktx (s.data.toList.take (k + 1)) = stepK (ktx (s.data.toList.take k)) s[k]) := by rw [take_snoc s k hlt]; exact ktx_snoc _ _
      go_wp2
      all_goals
        go_round
        case rel => exact ⟨k + 1, by omega, by go_num, by rw [HS.out]; unfold stepK; rfl⟩
        case measure => simp [intOf]; omega
    · go_wp2
      go_ret
      exact ⟨tRet (by rw [take_all s k (by omega)]), rfl⟩
set_option maxHeartbeats 400000 in
theorem l02Text_any (s : ByteArray) (w : World) (hs : s.size ≤ 1048576) :
    Calls Try.prog 12 #[.string s] w fun e w' => e = .returned (.int .i64 (ktx s.data.toList)) ∧ w' = w := by
  have hd0 : ktx [] = 2166136261 := by unfold ktx; rfl
  go_enter Try.func12, Try.ntmps12
  go_wp2
  go_loop [3, 4] (fun n i => ∃ k : Nat, k ≤ s.size ∧ i = .int .i64 k ∧ n = .int .i64 (ktx (s.data.toList.take k))) (fun _ i => s.size - (intOf i).toNat)
  case atStart => exact ⟨0, Nat.zero_le _, rfl, by simp [hd0]⟩
  case round =>
    obtain ⟨k, hk, rfl, rfl⟩ := hrel
    have hd := ktx_bd (s.data.toList.take k)
    obtain ⟨hd1, hd2⟩ := hd
    clear hd0
    by_cases hlt : k < s.size
    · have hcb : s[k].toNat < 256 := s[k].toNat_lt
      have HS : Hid (ktx (s.data.toList.take (k + 1)) = stepK (ktx (s.data.toList.take k)) s[k]) := by rw [take_snoc s k hlt]; exact ktx_snoc _ _
      obtain ⟨x1, x2, x3⟩ := stepK_wide (ktx (s.data.toList.take k)) s[k] hd1 hd2
      have X3 := Lib.hid x3
      clear x3
      go_wp2
      all_goals
        go_round
        case rel => exact ⟨k + 1, by omega, by go_num, by rw [HS.out, ← X3.out]⟩
        case measure => simp [intOf]; omega
    · go_wp2
      go_ret
      exact ⟨tRet (by rw [take_all s k (by omega)]), rfl⟩
set_option maxHeartbeats 400000 in
theorem sKeyOfText_any (s : ByteArray) (w : World) (hs : s.size ≤ 1048576) :
    Calls Try.prog 6 #[.string s] w fun e w' => e = .returned (.int .i64 (ktx s.data.toList)) ∧ w' = w := by
  go_enter Try.func6, Try.ntmps6
  go_wp2_with (go_at_call 12; refine (l02Text_any _ _ hs).mono ?_; rintro e w' ⟨rfl, rfl⟩)
  go_ret
  exact ⟨rfl, rfl⟩

/-! ### IsName -/
def lowB (c : UInt8) : Bool := decide (97 ≤ c.toNat) && decide (c.toNat ≤ 122)
@[irreducible] def lowA (l : List UInt8) : Bool := l.all lowB
@[irreducible] def isNm (l : List UInt8) : Bool := lowA l && decide (1 ≤ l.length) && decide (l.length ≤ 8)
theorem lowA_nil : lowA [] = true := by unfold lowA; rfl
theorem lowA_snoc (l : List UInt8) (c : UInt8) (h : lowA l = true) (h1 : ¬ (c.toNat : Int) < 97) (h2 : ¬ (122 : Int) < c.toNat) : lowA (l ++ [c]) = true := by
  unfold lowA at *
  rw [List.all_append, h]
  simp [lowB]; omega
theorem isNm_bad (s : ByteArray) (k : Nat) (h : k < s.size) (hb : (s[k].toNat : Int) < 97 ∨ (122 : Int) < s[k].toNat) : isNm s.data.toList = false := by
  have hm : s[k] ∈ s.data.toList := by
    have : s.data.toList[k]'(by simpa using h) = s[k] := rfl
    rw [← this]; exact List.getElem_mem _
  have hl : lowB s[k] = false := by
    simp [lowB]; omega
  have : lowA s.data.toList = false := by
    unfold lowA
    rw [List.all_eq_false]
    exact ⟨_, hm, by simp [hl]⟩
  unfold isNm
  rw [this]; rfl
theorem isNm_end (s : ByteArray) (h : lowA s.data.toList = true) : isNm s.data.toList = (decide (1 ≤ s.size) && decide (s.size ≤ 8)) := by
  unfold isNm
  rw [h]; simp
set_option maxHeartbeats 1000000 in
theorem IsName_any (s : ByteArray) (w : World) (hs : s.size ≤ 1048576) :
    Calls Try.prog 9 #[.string s] w fun e w' => e = .returned (.bool (isNm s.data.toList)) ∧ w' = w := by
  go_enter Try.func9, Try.ntmps9
  go_wp2
  go_loop [6] (fun i => ∃ k : Nat, k ≤ s.size ∧ i = .int .i64 k ∧ lowA (s.data.toList.take k) = true) (fun i => s.size - (intOf i).toNat)
  case atStart => exact ⟨0, Nat.zero_le _, rfl, by simp [lowA_nil]⟩
  case round =>
    obtain ⟨k, hk, rfl, hlow⟩ := hrel
    have HL := Lib.hid hlow
    clear hlow
    by_cases hlt : k < s.size
    · by_cases h1 : (s[k].toNat : Int) < 97
      · have HB : Hid (isNm s.data.toList = false) := isNm_bad s k hlt (.inl h1)
        go_wp2
        go_ret
        exact ⟨tRetB HB.out.symm, rfl⟩
      · by_cases h2 : (122 : Int) < s[k].toNat
        · have HB : Hid (isNm s.data.toList = false) := isNm_bad s k hlt (.inr h2)
          go_wp2
          go_ret
          exact ⟨tRetB HB.out.symm, rfl⟩
        · have HB : Hid (lowA (s.data.toList.take (k + 1)) = true) := by rw [take_snoc s k hlt]; exact lowA_snoc _ _ HL.out h1 h2
          go_wp2
          go_round
          case rel => exact ⟨k + 1, by omega, by go_num, HB.out⟩
          case measure => simp [intOf]; omega
    · have HB : Hid (isNm s.data.toList = (decide (1 ≤ s.size) && decide (s.size ≤ 8))) := isNm_end s (by rw [← take_all s k (by omega)]; exact HL.out)
      by_cases h1 : 1 ≤ s.size <;> by_cases h2 : s.size ≤ 8
      all_goals
        go_wp2
        all_goals go_ret
        all_goals exact ⟨tRetB (by rw [HB.out]; simp [h1, h2] <;> omega), rfl⟩
set_option maxHeartbeats 1000000 in
theorem sIsName_any (s : ByteArray) (w : World) (hs : s.size ≤ 1048576) :
    Calls Try.prog 8 #[.string s] w fun e w' => e = .returned (.bool (isNm s.data.toList)) ∧ w' = w := by
  go_enter Try.func8, Try.ntmps8
  go_wp2
  go_loop [3] (fun i => ∃ k : Nat, k ≤ s.size ∧ i = .int .i64 k ∧ lowA (s.data.toList.take k) = true) (fun i => s.size - (intOf i).toNat)
  case atStart => exact ⟨0, Nat.zero_le _, rfl, by simp [lowA_nil]⟩
  case round =>
    obtain ⟨k, hk, rfl, hlow⟩ := hrel
    have HL := Lib.hid hlow
    clear hlow
    by_cases hlt : k < s.size
    · by_cases h1 : (s[k].toNat : Int) < 97
      · have HB : Hid (isNm s.data.toList = false) := isNm_bad s k hlt (.inl h1)
        go_wp2
        go_ret
        exact ⟨tRetB HB.out.symm, rfl⟩
      · by_cases h2 : (122 : Int) < s[k].toNat
        · have HB : Hid (isNm s.data.toList = false) := isNm_bad s k hlt (.inr h2)
          go_wp2
          go_ret
          exact ⟨tRetB HB.out.symm, rfl⟩
        · have HB : Hid (lowA (s.data.toList.take (k + 1)) = true) := by rw [take_snoc s k hlt]; exact lowA_snoc _ _ HL.out h1 h2
          go_wp2
          go_round
          case rel => exact ⟨k + 1, by omega, by go_num, HB.out⟩
          case measure => simp [intOf]; omega
    · have HB : Hid (isNm s.data.toList = (decide (1 ≤ s.size) && decide (s.size ≤ 8))) := isNm_end s (by rw [← take_all s k (by omega)]; exact HL.out)
      by_cases h1 : 1 ≤ s.size <;> by_cases h2 : s.size ≤ 8
      all_goals
        go_wp2
        all_goals go_ret
        all_goals exact ⟨tRetB (by rw [HB.out]; simp [h1, h2] <;> omega), rfl⟩

/-! ### CheckOf -/
@[irreducible] def ckStep (n : Int) (c : UInt8) : Int := (887 * n + c.toNat + 173) % 65003
@[irreducible] def ckF (n : Int) (l : List UInt8) : Int := l.foldl ckStep n
theorem ckF_nil (n : Int) : ckF n [] = n := by unfold ckF; rfl
theorem ckF_snoc (n : Int) (l : List UInt8) (c : UInt8) : ckF n (l ++ [c]) = ckStep (ckF n l) c := by unfold ckF; simp
theorem ckF_bd (n : Int) (hn : 0 ≤ n ∧ n ≤ 65002) (l : List UInt8) : 0 ≤ ckF n l ∧ ckF n l ≤ 65002 := by
  rcases List.eq_nil_or_concat l with rfl | ⟨a, c, rfl⟩
  · rw [ckF_nil]; exact hn
  · rw [List.concat_eq_append, ckF_snoc]; unfold ckStep; omega
@[irreducible] def ckV (n : Int) (l : List UInt8) : Int := if inB n 0 65002 then ckF n l else 0
theorem ckV_t {n : Int} (h : inB n 0 65002 = true) (l : List UInt8) : ckV n l = ckF n l := by unfold ckV; simp [h]
theorem ckV_f {n : Int} (h : inB n 0 65002 = false) (l : List UInt8) : ckV n l = 0 := by unfold ckV; simp [h]
set_option maxHeartbeats 400000 in
theorem CheckOf_any (n : Int) (s : ByteArray) (w : World) (hs : s.size ≤ 1048576) :
    Calls Try.prog 11 #[.int .i64 n, .string s] w fun e w' => e = .returned (.tuple #[.int .i64 (ckV n s.data.toList), .bool (inB n 0 65002)]) ∧ w' = w := by
  rcases h1 : inB n 0 65002
  · go_enter Try.func11, Try.ntmps11
    go_wp2_with (go_at_call 15; refine (within_any _ _ _ _).mono ?_; rintro e w' ⟨rfl, rfl⟩)
    go_ret2
    exact ⟨tRet2 (ckV_f h1 _).symm rfl, rfl⟩
  · have hn := inB_of h1
    go_enter Try.func11, Try.ntmps11
    go_wp2_with (go_at_call 15; refine (within_any _ _ _ _).mono ?_; rintro e w' ⟨rfl, rfl⟩)
    go_loop [0, 12] (fun v i => ∃ k : Nat, k ≤ s.size ∧ i = .int .i64 k ∧ v = .int .i64 (ckF n (s.data.toList.take k))) (fun _ i => s.size - (intOf i).toNat)
    case atStart => exact ⟨0, Nat.zero_le _, rfl, by simp [ckF_nil]⟩
    case round =>
      obtain ⟨k, hk, rfl, rfl⟩ := hrel
      obtain ⟨hd1, hd2⟩ := ckF_bd n hn (s.data.toList.take k)
      by_cases hlt : k < s.size
      · have hcb : s[k].toNat < 256 := s[k].toNat_lt
        have HS : Hid (ckF n (s.data.toList.take (k + 1)) = ckStep (ckF n (s.data.toList.take k)) s[k]) := by rw [take_snoc s k hlt]; exact ckF_snoc _ _ _
        go_wp2
        all_goals
          go_round
          case rel => exact ⟨k + 1, by omega, by go_num, by rw [HS.out]; unfold ckStep; rfl⟩
          case measure => simp [intOf]; omega
      · go_wp2
        go_ret2
        exact ⟨tRet2 (by rw [take_all s k (by omega), ckV_t h1]) rfl, rfl⟩
set_option maxHeartbeats 400000 in
theorem l01Check_any (n : Int) (s : ByteArray) (w : World) (hs : s.size ≤ 1048576) (hn : 0 ≤ n ∧ n ≤ 65002) :
    Calls Try.prog 14 #[.int .i64 n, .string s] w fun e w' => e = .returned (.int .i64 (ckF n s.data.toList)) ∧ w' = w := by
  go_enter Try.func14, Try.ntmps14
  go_wp2
  go_loop [0, 5] (fun v i => ∃ k : Nat, k ≤ s.size ∧ i = .int .i64 k ∧ v = .int .i64 (ckF n (s.data.toList.take k))) (fun _ i => s.size - (intOf i).toNat)
  case atStart => exact ⟨0, Nat.zero_le _, rfl, by simp [ckF_nil]⟩
  case round =>
    obtain ⟨k, hk, rfl, rfl⟩ := hrel
    obtain ⟨hd1, hd2⟩ := ckF_bd n hn (s.data.toList.take k)
    by_cases hlt : k < s.size
    · have hcb : s[k].toNat < 256 := s[k].toNat_lt
      have HS : Hid (ckF n (s.data.toList.take (k + 1)) = ckStep (ckF n (s.data.toList.take k)) s[k]) := by rw [take_snoc s k hlt]; exact ckF_snoc _ _ _
      go_wp2
      all_goals
        go_round
        case rel => exact ⟨k + 1, by omega, by go_num, by rw [HS.out]; unfold ckStep; rfl⟩
        case measure => simp [intOf]; omega
    · go_wp2
      go_ret
      exact ⟨tRet (by rw [take_all s k (by omega)]), rfl⟩
set_option maxHeartbeats 400000 in
theorem sCheckOf_any (n : Int) (s : ByteArray) (w : World) (hs : s.size ≤ 1048576) :
    Calls Try.prog 10 #[.int .i64 n, .string s] w fun e w' => e = .returned (.tuple #[.int .i64 (ckV n s.data.toList), .bool (inB n 0 65002)]) ∧ w' = w := by
  rcases h1 : inB n 0 65002
  · go_enter Try.func10, Try.ntmps10
    go_wp2_with (go_at_call 13; refine (l00In_any _ _ _ _).mono ?_; rintro e w' ⟨rfl, rfl⟩)
    go_ret2
    exact ⟨tRet2 (ckV_f h1 _).symm rfl, rfl⟩
  · have hn := inB_of h1
    go_enter Try.func10, Try.ntmps10
    go_wp2_with (first | (go_at_call 13; refine (l00In_any _ _ _ _).mono ?_; rintro e w' ⟨rfl, rfl⟩) | (go_at_call 14; refine (l01Check_any _ _ _ hs hn).mono ?_; rintro e w' ⟨rfl, rfl⟩))
    go_ret2
    exact ⟨tRet2 (by rw [ckV_t h1]) rfl, rfl⟩
end Go.Proofs.Ytebbplmpepbdaaa
