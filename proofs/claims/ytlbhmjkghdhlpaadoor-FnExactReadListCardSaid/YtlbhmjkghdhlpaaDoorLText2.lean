/-
  Contracts of ListText and its twin: the program's list of numerals, joined.
-/
import Derived.Test.YtlbhmjkghdhlpaaDoorLText
namespace Go.Proofs.YtlbhmjkghdhlpaaDoor
open Go.RowKit Go.Lib

theorem info_str : (Tryd.prog.info? 9).map (fun i => (i.zero, i.size, i.bytes)) = some (some (.string ⟨#[]⟩), 1, 16) := by kernel_rfl
@[irreducible] def strB (zs : List Int) : List ByteArray := zs.map fun z => ⟨(itoa z).toArray⟩
@[irreducible] def strL (xs : List ByteArray) : List Value := xs.map Value.string
theorem strL_zero (zs : List Int) : strL (strB (zs.take 0)) = [] := by unfold strL strB; simp
theorem strL_snoc {zs : List Int} {k : Nat} (h : k < zs.length) : strL (strB (zs.take (k + 1))) = strL (strB (zs.take k)) ++ [.string ⟨(itoa (zs.getD k 0)).toArray⟩] := by
  unfold strL strB; rw [ints_take_snoc zs h]; simp
theorem strB_len (zs : List Int) : (strB zs).length = zs.length := by unfold strB; simp
theorem strB_data (zs : List Int) : (strB zs).map (·.data.toList) = zs.map itoa := by
  unfold strB
  rw [List.map_map]
  refine List.map_congr_left fun z _ => ?_
  simp
theorem strL_at {xs : List ByteArray} {j : Nat} {x : ByteArray} (h : xs[j]? = some x) : (strL xs)[j]? = some (.string x) := by unfold strL; rw [List.getElem?_map, h]; rfl
theorem own_cap {w : World} {base : Nat} {e : TypeId} {g n c : Nat} {xs : List Value} (h : w.ownsRow base e 1 (.slice (some ⟨g, 0, none⟩) n c) n xs) : n ≤ c ∧ g < w.heap.size := by
  rcases h.2 with ⟨hv, _⟩ | ⟨g', cap, cur, hv, hb, hg, hc, _⟩
  · cases hv
  · injection hv with h1 h2 h3
    injection h1 with h1
    injection h1 with h1
    subst h1; subst h3
    exact ⟨hc, (Array.getElem?_eq_some_iff.1 hg).1⟩
set_option maxHeartbeats 400000 in
theorem joined_any (A : Option Addr) (n c base : Nat) (zs : List Int) (w : World) (h : w.ownsRow base 9 1 (.slice A n c) n (strL (strB zs))) (hb : lsB zs = true) (hzl : zs.length = n) :
    Calls Tryd.prog 41 #[.slice A n c] w fun e w' => e = .returned (.string ⟨(lsT zs).toArray⟩) ∧ Below w.heap.size w w' := by
  obtain ⟨hv, hl64⟩ := ls_of hb
  by_cases h0 : n = 0
  · have HT := Lib.hid (lsT_zero (zs := zs) (by omega))
    subst h0
    clear hzl h hv hb hl64
    go_enter Tryd.func41, Tryd.ntmps41
    go_wp2
    go_ret
    exact ⟨by rw [HT.out]; rfl, Below.refl _ _⟩
  · have HT := Lib.hid (lsT_pos (zs := zs) (by omega))
    obtain ⟨g, rfl, _, _⟩ := own_addr h (by omega)
    have hcap := own_cap h
    have hl := tx_len hv zs.length (by omega) (Nat.le_refl _)
    have he : join ((strB zs).map (·.data.toList)) (⟨#[44]⟩ : ByteArray).data.toList = tx zs zs.length := by
      rw [strB_data]; unfold tx; rw [List.take_length]
    have HJ := Lib.hid (Tryd.strings_Join g 0 c (strB zs) ⟨#[44]⟩ w (fun j x hx => by
      have hj : j < n := by
        have := (List.getElem?_eq_some_iff.1 hx).1
        rw [strB_len] at this; omega
      rw [Nat.zero_add, h.cellAt j (by omega)]
      exact strL_at hx) hcap.2 (by rw [strB_len]; omega) (by rw [strB_len]; omega) (by rw [he]; omega))
    rw [he, strB_len, hzl] at HJ
    rw [hzl] at HT
    clear h hcap he hb hv hl
    go_enter Tryd.func41, Tryd.ntmps41
    go_wp2_with (go_at_call 53; refine HJ.out.mono ?_; rintro e w1 ⟨rfl, b1⟩)
    go_ret
    exact ⟨by rw [HT.out]; rfl, b1⟩
set_option maxHeartbeats 1000000 in
theorem listText_any (A : Option Addr) (n c : Nat) (zs : List Int) (w : World) (h : Lies w w.heap.size A n (zs.map (Value.int .i64))) (hb : lsB zs = true) (hT : PowT w) :
    Calls Tryd.prog 33 #[.slice A n c] w fun e w' => e = .returned (.string ⟨(lsT zs).toArray⟩) ∧ Below w.heap.size w w' := by
  obtain ⟨i0, hi0, hz0, hz1, hz2⟩ := info_parts info_str
  have hzl : zs.length = n := by have := h.1; simpa using this
  have HZ := Lib.hid hzl
  obtain ⟨hv, hl64⟩ := ls_of hb
  have HV := Lib.hid hv
  have HB := Lib.hid hb
  have HT := Lib.hid hT
  have hn64 : n ≤ 64 := by omega
  have HO : Hid ((w.alloc (.cells #[] 9)).ownsRow w.heap.size 9 1 (.slice (some ⟨w.heap.size, 0, none⟩) 0 0) 0 (strL (strB (zs.take 0)))) := Lib.hid (by rw [strL_zero]; exact own_lit w _)
  clear hv hl64 hb hzl hT
  go_enter Tryd.func33, Tryd.ntmps33
  go_wp2
  go_loopw [3, 9] (fun v i wr => ∃ k : Nat, k ≤ n ∧ i = .int .i64 k ∧ Hid (wr.ownsRow w.heap.size 9 1 v k (strL (strB (zs.take k)))) ∧ Hid (Below w.heap.size w wr)) (fun _ i _ => n - (Lib.intOf i).toNat)
  case atStart => exact ⟨0, Nat.zero_le _, rfl, HO, Lib.hid ((Below.refl _ _).alloc (Nat.le_refl _) _)⟩
  case round =>
    clear HO
    obtain ⟨k, hk, rfl, hO, hG⟩ := hrel
    by_cases hlt : k < n
    · obtain ⟨ad, rfl, hab, hc⟩ := h.at_ hlt
      rw [ints_getD .i64 zs (by have := HZ.out; omega)] at hc
      have hc1 := (hG.out.cell (p := ad.add k) (by rw [addb]; exact hab)).trans hc
      have HW := Lib.hid (isV_wf (allV_at HV.out (k := k) (by have := HZ.out; omega)))
      have HS := Lib.hid (strL_snoc (zs := zs) (k := k) (by have := HZ.out; omega))
      have HT1 := Lib.hid (HT.out.more (Nat.le_refl _) hG.out)
      clear hc
      generalize zs.getD k 0 = x at *
      go_wp2_with (first
        | (go_at_call 11; refine (Decimal_any _ _ HW.out HT1.out).mono ?_; rintro e w1 ⟨rfl, b1⟩; have HO1 := Lib.hid (own_below hO.out b1); have HB1 := Lib.hid (hG.out.trans (b1.mono hG.out.size)))
        | (at_builtin; refine wpList_snoc rfl _ _ 50 rfl w.heap.size 9 i0 (.string ⟨#[]⟩) 16 Tryd.underlying50 hi0 hz0 hz1 hz2 rfl (by decide) _ k _ rfl HO1.out _ rfl rfl (by omega) HB1.out.size ?_; intro v' w2 ho2 hb2))
      have HO2 : Hid (w2.ownsRow w.heap.size 9 1 v' (k + 1) (strL (strB (zs.take (k + 1))))) := Lib.hid (by rw [HS.out]; exact ho2)
      have HB2 := Lib.hid (HB1.out.trans hb2)
      clear ho2 hb2
      go_wp2
      go_roundw
      case rel => exact ⟨k + 1, by omega, by go_num, HO2, HB2⟩
      case measure => simp [Lib.intOf]; omega
    · obtain rfl : k = n := by omega
      have h1 := hO.out
      rw [List.take_of_length_le (by have := HZ.out; omega)] at h1
      obtain ⟨A', c', rfl⟩ := own_form h1
      have HJ := Lib.hid (joined_any A' k c' _ zs wr h1 HB.out HZ.out)
      clear h1
      go_wp2_with (go_at_call 41; refine HJ.out.mono ?_; rintro e w1 ⟨rfl, b1⟩)
      go_ret
      exact ⟨rfl, hG.out.trans (b1.mono hG.out.size)⟩
set_option maxHeartbeats 400000 in
theorem ListText_any (A : Option Addr) (n c : Nat) (zs : List Int) (w : World) (h : Lies w w.heap.size A n (zs.map (Value.int .i64))) (hn : n ≤ 1048576) (hT : PowT w) :
    Calls Tryd.prog 16 #[.slice A n c] w fun e w' => e = .returned (.tuple #[.string ⟨(lsV zs).toArray⟩, .bool (lsB zs)]) ∧ Below w.heap.size w w' := by
  have HT := Lib.hid hT
  clear hT
  rcases hb : lsB zs
  · have HV := Lib.hid (lsV_f hb)
    go_enter Tryd.func16, Tryd.ntmps16
    go_wp2_with (go_at_call 32; refine (areValues_any _ _ _ _ _ _ h hn).mono ?_; rintro e w' ⟨rfl, rfl⟩)
    go_ret2
    exact ⟨by rw [HV.out]; rfl, Below.refl _ _⟩
  · have HV := Lib.hid (lsV_t hb)
    have HB := Lib.hid hb
    go_enter Tryd.func16, Tryd.ntmps16
    go_wp2_with (first | (go_at_call 32; refine (areValues_any _ _ _ _ _ _ h hn).mono ?_; rintro e w' ⟨rfl, rfl⟩) | (go_at_call 33; refine (listText_any _ _ _ _ _ h HB.out HT.out).mono ?_; rintro e w1 ⟨rfl, b1⟩))
    go_ret2
    exact ⟨by rw [HV.out]; rfl, b1⟩
set_option maxHeartbeats 400000 in
theorem sListText_any (A : Option Addr) (n c : Nat) (zs : List Int) (w : World) (h : Lies w w.heap.size A n (zs.map (Value.int .i64))) (hn : n ≤ 1048576) :
    Calls Tryd.prog 14 #[.slice A n c] w fun e w' => e = .returned (.tuple #[.string ⟨(lsV zs).toArray⟩, .bool (lsB zs)]) ∧ Below w.heap.size w w' := by
  rcases hb : lsB zs
  · have HV := Lib.hid (lsV_f hb)
    go_enter Tryd.func14, Tryd.ntmps14
    go_wp2_with (go_at_call 30; refine (l01List_any _ _ _ _ _ _ h hn).mono ?_; rintro e w' ⟨rfl, rfl⟩)
    go_ret2
    exact ⟨by rw [HV.out]; rfl, Below.refl _ _⟩
  · have HV := Lib.hid (lsV_t hb)
    have HB := Lib.hid hb
    go_enter Tryd.func14, Tryd.ntmps14
    go_wp2_with (first | (go_at_call 30; refine (l01List_any _ _ _ _ _ _ h hn).mono ?_; rintro e w' ⟨rfl, rfl⟩) | (go_at_call 31; refine (l01Text_any _ _ _ _ _ h HB.out).mono ?_; rintro e w1 ⟨rfl, b1⟩))
    go_ret2
    exact ⟨by rw [HV.out]; rfl, b1⟩
end Go.Proofs.YtlbhmjkghdhlpaaDoor
