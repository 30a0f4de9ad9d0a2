/-
  Contracts of ReadDecimal and its twin: the number with a numeral.
-/
import Derived.Test.YtlbhmjkghdhlpaaDoorDecI
import Derived.Test.YtlbhmjkghdhlpaaDoorDecP
namespace Go.Proofs.YtlbhmjkghdhlpaaDoor
open Go.RowKit Go.Lib

theorem take_snoc (s : ByteArray) (k : Nat) (h : k < s.size) : s.data.toList.take (k + 1) = s.data.toList.take k ++ [s[k]] := by
  rw [List.take_succ_eq_append_getElem (by simpa using h)]; rfl
theorem take_all (s : ByteArray) (k : Nat) (h : s.size ≤ k) : s.data.toList.take k = s.data.toList := List.take_of_length_le (by simpa using h)
theorem len_of (s : ByteArray) : s.data.toList.length = s.size := by simp
theorem head_of (s : ByteArray) (h : 0 < s.size) : s.data.toList.head? = some s[0] := by
  rw [List.head?_eq_getElem?, List.getElem?_eq_getElem (by rw [len_of]; exact h)]; rfl
theorem dstep_in {n : Int} {b : UInt8} (h1 : 48 ≤ b.toNat) (h2 : b.toNat ≤ 57) : dstep n b = 10 * n + ((b.toNat : Int) - 48) := by unfold dstep; rw [if_pos ⟨h1, h2⟩]
theorem dstep_out {n : Int} {b : UInt8} (h : ¬ (48 ≤ b.toNat ∧ b.toNat ≤ 57)) : dstep n b = n := by unfold dstep; rw [if_neg h]
@[irreducible] def daccI (l : List UInt8) : Int := dacc l
theorem daccI_nil : daccI [] = 0 := by unfold daccI; rfl
theorem daccI_snoc (s : ByteArray) (k : Nat) (h : k < s.size) : daccI (s.data.toList.take (k + 1)) = dstep (daccI (s.data.toList.take k)) s[k] := by
  unfold daccI; rw [take_snoc s k h, dacc_snoc]
theorem daccI_small {l : List UInt8} {k : Nat} (h : k ≤ 17) : 0 ≤ daccI (l.take k) ∧ daccI (l.take k) < 100000000000000000 := by
  unfold daccI
  exact dacc_small (by rw [List.length_take]; omega)
@[irreducible] def rdB (l : List UInt8) : Bool := okD l
@[irreducible] def rdV (l : List UInt8) : Int := valD l
theorem ba_eq (l : List UInt8) (s : ByteArray) : (⟨l.toArray⟩ : ByteArray) = s ↔ l = s.data.toList := by
  constructor
  · rintro rfl; rfl
  · rintro rfl; simp
theorem retV {a b : Int} {x y : Bool} (h1 : a = b) (h2 : x = y) : Ending.returned (.tuple #[.int .i64 a, .bool x]) = .returned (.tuple #[.int .i64 b, .bool y]) := by rw [h1, h2]
theorem rd_no {l : List UInt8} (h : okD l = false) : rdV l = 0 ∧ rdB l = false := by unfold rdV rdB; exact ⟨valD_f h, h⟩
theorem rd_yes {l : List UInt8} (h : okD l = true) : rdV l = specN l ∧ rdB l = true := by unfold rdV rdB; exact ⟨(of_okD h).2.2, h⟩
theorem wf_small {n : Int} (h1 : -100000000000000000 < n) (h2 : n < 100000000000000000) : (Lit.int .i64 n).wf = true := by
  simp [Lit.wf, IntKind.min, IntKind.max, IntKind.signed, IntKind.bits]; omega
theorem okD_out {l : List UInt8} (h : ¬ (-1000000000000000 ≤ specN l ∧ specN l ≤ 1000000000000000)) : okD l = false := by
  rcases e : okD l
  · rfl
  · exact absurd ((isV_iff _).1 (of_okD e).1) h
theorem okD_ne {l : List UInt8} (h : itoa (specN l) ≠ l) : okD l = false := by
  rcases e : okD l
  · rfl
  · exact absurd (of_okD e).2.1 h
theorem okD_in {l : List UInt8} (h1 : -1000000000000000 ≤ specN l ∧ specN l ≤ 1000000000000000) (h2 : itoa (specN l) = l) : okD l = true := by
  unfold okD; rw [(isV_iff _).2 h1, h2]; simp
theorem daccI_cases {l : List UInt8} {n : Int} (h : specN l = n) : (isV n = true ∧ itoa n = l → rdV l = n ∧ rdB l = true) ∧ (¬ (isV n = true ∧ itoa n = l) → rdV l = 0 ∧ rdB l = false) := by
  subst h
  refine ⟨fun ⟨h1, h2⟩ => rd_yes (okD_in ((isV_iff _).1 h1) h2), fun hn => rd_no ?_⟩
  rcases e : okD l
  · rfl
  · obtain ⟨e1, e2, _⟩ := of_okD e
    exact absurd ⟨e1, e2⟩ hn
abbrev CasesN (l : List UInt8) (n : Int) : Prop := Hid ((isV n = true ∧ itoa n = l → rdV l = n ∧ rdB l = true) ∧ (¬ (isV n = true ∧ itoa n = l) → rdV l = 0 ∧ rdB l = false))
theorem isV_inB (n : Int) : inB n (-1000000000000000) 1000000000000000 = isV n := by
  unfold inB isV
  rw [Bool.eq_iff_iff]; simp
theorem rd_end1 {s : ByteArray} {n : Int} (h : CasesN s.data.toList n) (h2 : (!itoa n == s.toList) = true) :
    Ending.returned (.tuple #[.int .i64 0, .bool false]) = .returned (.tuple #[.int .i64 (rdV s.data.toList), .bool (rdB s.data.toList)]) := by
  have := h.out.2 (fun e => by rw [toList_data, e.2] at h2; simp at h2)
  rw [this.1, this.2]
theorem rd_end2 {s : ByteArray} {n : Int} (h : CasesN s.data.toList n) (h2 : (!itoa n == s.toList) = false) (h3 : inB n (-1000000000000000) 1000000000000000 = true) :
    Ending.returned (.tuple #[.int .i64 n, .bool true]) = .returned (.tuple #[.int .i64 (rdV s.data.toList), .bool (rdB s.data.toList)]) := by
  have := h.out.1 ⟨by rw [← isV_inB]; exact h3, by rw [toList_data] at h2; simpa using h2⟩
  rw [this.1, this.2]
theorem rd_end3 {s : ByteArray} {n : Int} (h : CasesN s.data.toList n) (h3 : ¬ inB n (-1000000000000000) 1000000000000000 = true) :
    Ending.returned (.tuple #[.int .i64 0, .bool false]) = .returned (.tuple #[.int .i64 (rdV s.data.toList), .bool (rdB s.data.toList)]) := by
  have := h.out.2 (fun e => h3 (by rw [isV_inB]; exact e.1))
  rw [this.1, this.2]
set_option maxHeartbeats 4000000 in
theorem l01Value_long (s : ByteArray) (w : World) (h : ¬ (1 ≤ s.size ∧ s.size ≤ 17)) :
    Calls Tryd.prog 27 #[.string s] w fun e w' => e = .returned (.tuple #[.int .i64 (rdV s.data.toList), .bool (rdB s.data.toList)]) ∧ Below w.heap.size w w' := by
  have HR := Lib.hid (rd_no (l := s.data.toList) (by
    rcases e : okD s.data.toList
    · rfl
    · have := okD_len e
      rw [len_of] at this
      exact absurd this h))
  have hb : (decide ((s.size : Int) < 1) || decide ((17 : Int) < (s.size : Int))) = true := by simp; omega
  go_enter Tryd.func27, Tryd.ntmps27
  go_wp2
  all_goals
    go_ret2
    exact ⟨retV HR.out.1.symm HR.out.2.symm, Below.refl _ _⟩
set_option maxHeartbeats 4000000 in
theorem l01Value_short (s : ByteArray) (w : World) (h1 : 1 ≤ s.size) (h2 : s.size ≤ 17) :
    Calls Tryd.prog 27 #[.string s] w fun e w' => e = .returned (.tuple #[.int .i64 (rdV s.data.toList), .bool (rdB s.data.toList)]) ∧ Below w.heap.size w w' := by
  have hb1 : decide ((s.size : Int) < 1) = false := by simp; omega
  have hb2 : decide ((17 : Int) < (s.size : Int)) = false := by simp; omega
  have hd0 := daccI_nil
  go_enter Tryd.func27, Tryd.ntmps27
  go_wp2
  go_loop [4, 5] (fun n i => ∃ k : Nat, k ≤ s.size ∧ i = .int .i64 k ∧ n = .int .i64 (daccI (s.data.toList.take k))) (fun _ i => s.size - (Lib.intOf i).toNat)
  case atStart => exact ⟨0, Nat.zero_le _, rfl, by simp [hd0]⟩
  case round =>
    obtain ⟨k, hk, rfl, rfl⟩ := hrel
    have hs := daccI_small (l := s.data.toList) (k := k) (by omega)
    obtain ⟨hs1, hs2⟩ := hs
    clear hd0
    by_cases hlt : k < s.size
    · have hcb : s[k].toNat < 256 := s[k].toNat_lt
      have HS := Lib.hid (daccI_snoc s k hlt)
      by_cases hdg : 48 ≤ s[k].toNat ∧ s[k].toNat ≤ 57
      · have HD := Lib.hid (dstep_in (n := daccI (s.data.toList.take k)) hdg.1 hdg.2)
        obtain ⟨g1, g2⟩ := hdg
        go_wp2
        go_round
        case rel => exact ⟨k + 1, by omega, by go_num, by rw [HS.out, HD.out]⟩
        case measure => simp [Lib.intOf]; omega
      · have HD := Lib.hid (dstep_out (n := daccI (s.data.toList.take k)) hdg)
        go_wp2
        all_goals
          go_round
          case rel => exact ⟨k + 1, by omega, by go_num, by rw [HS.out, HD.out]⟩
          case measure => simp [Lib.intOf]; omega
    · obtain rfl : k = s.size := by omega
      have ht := take_all s s.size (Nat.le_refl _)
      have h0 : s[0].toNat < 256 := s[0].toNat_lt
      rw [ht] at hs1 hs2 ⊢
      by_cases hm : s[0].toNat = 45
      · have HC := Lib.hid (daccI_cases (n := -daccI s.data.toList) (by
          unfold specN daccI
          rw [head_of s h1, if_pos (by congr 1; exact UInt8.toNat.inj hm)]))
        clear ht hlt hk
        generalize daccI s.data.toList = D at *
        go_wp2_with (first
          | (go_at_call 36; refine (l00In_any _ _ _ _).mono ?_; rintro e w' ⟨rfl, rfl⟩)
          | (go_at_call 25; refine (l01Dec_any _ _ (wf_small (by omega) (by omega))).mono ?_; rintro e w' ⟨rfl, hbl⟩))
        all_goals go_ret2
        · exact ⟨rd_end1 HC (by assumption), by assumption⟩
        · exact ⟨rd_end2 HC (by assumption) (by assumption), by assumption⟩
        · exact ⟨rd_end3 HC (by assumption), Below.refl _ _⟩
      · have HC := Lib.hid (daccI_cases (n := daccI s.data.toList) (by
          unfold specN daccI
          rw [head_of s h1, if_neg (by intro e; injection e with e; exact hm (by rw [e]; rfl))]))
        clear ht hlt hk
        generalize daccI s.data.toList = D at *
        go_wp2_with (first
          | (go_at_call 36; refine (l00In_any _ _ _ _).mono ?_; rintro e w' ⟨rfl, rfl⟩)
          | (go_at_call 25; refine (l01Dec_any _ _ (wf_small (by omega) (by omega))).mono ?_; rintro e w' ⟨rfl, hbl⟩))
        all_goals go_ret2
        · exact ⟨rd_end1 HC (by assumption), by assumption⟩
        · exact ⟨rd_end2 HC (by assumption) (by assumption), by assumption⟩
        · exact ⟨rd_end3 HC (by assumption), Below.refl _ _⟩
end Go.Proofs.YtlbhmjkghdhlpaaDoor
