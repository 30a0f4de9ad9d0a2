/-
  The numeral of an integer below zero, as the reference makes it.
-/
import Derived.Test.YtlbhmjkghdhlpaaDoorDec
namespace Go.Proofs.YtlbhmjkghdhlpaaDoor
open Go.RowKit Go.Lib

theorem bv_consD {D : Nat} (h : D < 10) (l : List UInt8) : (Value.int .u8 (48 + (D : Int))) :: bv l = bv (UInt8.ofNat (48 + D) :: l) := by
  have := bv_cons D l
  rwa [Nat.mod_eq_of_lt h, show (D : Int) % 10 = D by omega] at this
theorem i64_of_wf {n : Int} (h : (Lit.int .i64 n).wf = true) : -9223372036854775808 ≤ n ∧ n ≤ 9223372036854775807 := by
  simpa [Lit.wf, IntKind.min, IntKind.max, IntKind.signed, IntKind.bits] using h
theorem bv_cons0 (l : List UInt8) : (Value.int .u8 48) :: bv l = bv (UInt8.ofNat (48 + 0) :: l) := bv_consD (D := 0) (by decide) l
set_option maxHeartbeats 1600000 in
set_option maxRecDepth 8000 in
theorem l01Dec_neg (u : Nat) (w : World) (hu : u < 9223372036854775809) (hu0 : 0 < u) : Calls Tryd.prog 25 #[.int .i64 (-(u : Int))] w fun e w' => e = .returned (.string ⟨(itoa (-(u : Int))).toArray⟩) ∧ Below w.heap.size w w' := by
  obtain ⟨i0, hi0, hz0, hz1, hz2⟩ := info_parts info_u8
  have HO : Hid ((w.alloc (.cells #[] 5)).ownsRow w.heap.size 5 1 (.slice (some ⟨w.heap.size, 0, none⟩) 0 0) 0 (bv [])) := Lib.hid (own_lit w _)
  go_enter Tryd.func25, Tryd.ntmps25
  go_wp2
  go_loopg [3, 4] 100 (fun gg v q wr => ∃ (g m c r : Nat) (l : List UInt8), gg = 100 - m ∧ v = .slice (some ⟨g, 0, none⟩) m c ∧ q = .int .i64 (-(r : Int)) ∧ r ≤ u ∧ m = l.length ∧ m ≤ 20 ∧ Hid (decI u r l) ∧ Hid (wr.ownsRow w.heap.size 5 1 (.slice (some ⟨g, 0, none⟩) m c) m (bv l)) ∧ Hid (Below w.heap.size w wr))
  case atStart => exact ⟨_, _, _, u, [], rfl, rfl, rfl, Nat.le_refl _, rfl, by omega, Lib.hid (decI_start u), HO, Lib.hid ((Below.refl _ _).alloc (Nat.le_refl _) _)⟩
  case round =>
    clear HO
    obtain ⟨g, m, c, r, l, hgg, rfl, rfl, hru, hml, hm20, hI, hO, hG⟩ := hrel
    have HML := Lib.hid hml
    have hsz := hG.out.size
    clear hml
    by_cases hgo : m = 0 ∨ r ≠ 0
    · have hb : ((m : Int) == 0 || -(r : Int) != 0) = true := by simp; omega
      have hI2 := Lib.hid (decI_step hI.out (hgo.imp (fun h => HML.out ▸ h) id))
      have hl2 : 1 + m ≤ 20 := by have := dec_len hI2.out (by omega); have hm := HML.out; rw [List.length_cons] at this; omega
      have hd := tdiv_neg r
      obtain ⟨D, hD, hD9⟩ : ∃ D, r % 10 = D ∧ D < 10 := ⟨_, rfl, Nat.mod_lt _ (by decide)⟩
      have ht : (-(r : Int)).tmod 10 = -(D : Int) := by rw [tmod_neg, hD]
      rw [hD] at hI2
      clear hD
      rcases Nat.eq_zero_or_pos D with rfl | hpos
      · have ht0 : (-(r : Int)).tmod 10 = 0 := by simpa using ht
        clear ht hD9
        go_wp2_with (first
          | (at_builtin; refine wpList_cons rfl _ _ 48 rfl w.heap.size 5 i0 (.int .u8 0) 1 Tryd.underlying48 hi0 hz0 hz1 hz2 rfl (by decide) (.int .u8 48) rfl g m c (bv l) rfl hO.out (bv_one l) (by omega) hsz ?_; intro v1 w1 ho1 hb1 hn1))
        · have HO1 : Hid ((wr.alloc (.cells #[.int .u8 48] 5)).ownsRow w.heap.size 5 1 (.slice (some ⟨wr.heap.size, 0, none⟩) 1 1) 1 (bv (UInt8.ofNat (48 + 0) :: l))) := by
            have e : l = [] := List.eq_nil_of_length_eq_zero (by have := HML.out; omega)
            subst e
            have := own_base (World.ownsRow_lit (e := 5) wr #[.int .u8 48] 1 (Nat.le_refl _) (by unfold maxLen; omega) rfl) hsz
            exact Lib.hid (by rw [← bv_cons0]; exact this)
          have HM1 := HML.out
          go_roundg (100 - 1)
          case rel => exact ⟨wr.heap.size, 1, 1, r / 10, _, rfl, rfl, rfl, by omega, by rw [List.length_cons, ← HM1]; omega, by omega, hI2, HO1, Lib.hid (hG.out.alloc hsz _)⟩
          case measure => omega
        · obtain ⟨g2, c2, rfl⟩ := own_some ho1 hn1
          rw [bv_cons0] at ho1
          have HM1 := HML.out
          have HO1 := Lib.hid ho1
          have HB1 := Lib.hid (hG.out.trans hb1)
          go_roundg (100 - (1 + m))
          case rel => exact ⟨g2, 1 + m, c2, r / 10, _, rfl, rfl, rfl, by omega, by rw [List.length_cons, ← HM1, Nat.add_comm], by omega, hI2, HO1, HB1⟩
          case measure => omega
      · have hlt : decide (-(D : Int) < 0) = true := by simp; omega
        have hs10 : (48 + (D : Int)) % 256 = 48 + (D : Int) := by omega
        go_wp2_with (first
          | (at_builtin; refine wpList_cons rfl _ _ 48 rfl w.heap.size 5 i0 (.int .u8 0) 1 Tryd.underlying48 hi0 hz0 hz1 hz2 rfl (by decide) (.int .u8 (48 + (D : Int))) rfl g m c (bv l) rfl hO.out (bv_one l) (by omega) hsz ?_; intro v1 w1 ho1 hb1 hn1))
        · have HO1 : Hid ((wr.alloc (.cells #[.int .u8 (48 + (D : Int))] 5)).ownsRow w.heap.size 5 1 (.slice (some ⟨wr.heap.size, 0, none⟩) 1 1) 1 (bv (UInt8.ofNat (48 + D) :: l))) := by
            have e : l = [] := List.eq_nil_of_length_eq_zero (by have := HML.out; omega)
            subst e
            have := own_base (World.ownsRow_lit (e := 5) wr #[.int .u8 (48 + (D : Int))] 1 (Nat.le_refl _) (by unfold maxLen; omega) rfl) hsz
            exact Lib.hid (by rw [← bv_consD hD9]; exact this)
          have HM1 := HML.out
          go_roundg (100 - 1)
          case rel => exact ⟨wr.heap.size, 1, 1, r / 10, _, rfl, rfl, rfl, by omega, by rw [List.length_cons, ← HM1]; omega, by omega, hI2, HO1, Lib.hid (hG.out.alloc hsz _)⟩
          case measure => omega
        · obtain ⟨g2, c2, rfl⟩ := own_some ho1 hn1
          rw [bv_consD hD9] at ho1
          have HM1 := HML.out
          have HO1 := Lib.hid ho1
          have HB1 := Lib.hid (hG.out.trans hb1)
          go_roundg (100 - (1 + m))
          case rel => exact ⟨g2, 1 + m, c2, r / 10, _, rfl, rfl, rfl, by omega, by rw [List.length_cons, ← HM1, Nat.add_comm], by omega, hI2, HO1, HB1⟩
          case measure => omega
    · obtain ⟨hm0, rfl⟩ : m ≠ 0 ∧ r = 0 := by omega
      have hb : ((m : Int) == 0 || -((0 : Nat) : Int) != 0) = false := by simp; omega
      have HL := Lib.hid (decI_end hI.out (HML.out ▸ hm0))
      go_wp2_with (first
        | (at_builtin; refine wpList_cons rfl _ _ 48 rfl w.heap.size 5 i0 (.int .u8 0) 1 Tryd.underlying48 hi0 hz0 hz1 hz2 rfl (by decide) (.int .u8 45) rfl g m c (bv l) rfl hO.out (bv_one l) (by omega) hsz ?_; intro v1 w1 ho1 hb1 hn1)
        | (obtain ⟨g2, c2, rfl⟩ := own_some ho1 hn1; have HC : Hid (w1.ownsRow w.heap.size 5 1 (.slice (some ⟨g2, 0, none⟩) (1 + m) c2) (1 + m) (bv (45 :: l))) := Lib.hid ho1; refine wpList_conv rfl 48 9 _ rfl _ _ rfl (conv_own Tryd.underlying48 Tryd.underlying5 Tryd.underlying9 HC.out) ?_))
      go_ret
      refine ⟨?_, hG.out.trans hb1⟩
      rw [itoa_neg u hu0, ← HL.out]
      rfl
/-- The numeral of an int64. -/
theorem l01Dec_any (n : Int) (w : World) (h : (Lit.int .i64 n).wf = true) : Calls Tryd.prog 25 #[.int .i64 n] w fun e w' => e = .returned (.string ⟨(itoa n).toArray⟩) ∧ Below w.heap.size w w' := by
  have hw := i64_of_wf h
  by_cases h0 : n < 0
  · obtain ⟨u, rfl⟩ : ∃ u : Nat, n = -(u : Int) := ⟨n.natAbs, by omega⟩
    exact l01Dec_neg u w (by omega) (by omega)
  · obtain ⟨u, rfl⟩ : ∃ u : Nat, n = (u : Int) := ⟨n.toNat, by omega⟩
    exact l01Dec_pos u w (by omega)
end Go.Proofs.YtlbhmjkghdhlpaaDoor
