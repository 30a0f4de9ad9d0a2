/-
  Contracts of the two cutters of a text at its commas.
-/
import Derived.Test.YtlbhmjkghdhlpaaDoorCutP
namespace Go.Proofs.YtlbhmjkghdhlpaaDoor
open Go.RowKit Go.Lib

/-- What a call leaves: a list of its own. -/
def Makes (w : World) (e : TypeId) (n : Nat) (xs : List Value) (en : Ending) (w' : World) : Prop :=
  ∃ A c, en = .returned (.slice A n c) ∧ w'.ownsRow w.heap.size e 1 (.slice A n c) n xs ∧ Below w.heap.size w w'
/-- .. beside a truth value. -/
def MakesB (w : World) (e : TypeId) (n : Nat) (xs : List Value) (b : Bool) (en : Ending) (w' : World) : Prop :=
  ∃ A c, en = .returned (.tuple #[.slice A n c, .bool b]) ∧ w'.ownsRow w.heap.size e 1 (.slice A n c) n xs ∧ Below w.heap.size w w'
@[irreducible] def cutR (s : ByteArray) (k : Nat) : List ByteArray := if k ≤ s.size then (stD (s.data.toList.take k)).map toBA else pcs s
theorem cutR_zero (s : ByteArray) : strL (cutR s 0) = [] := by unfold cutR strL; rw [if_pos (Nat.zero_le _)]; simp [st_nil.1]
theorem strL_app (xs : List ByteArray) (x : ByteArray) : strL (xs ++ [x]) = strL xs ++ [.string x] := by unfold strL; simp
theorem cutR_comma {s : ByteArray} {k fr : Nat} (h : CutAt s k fr) (hk : k < s.size) (hb : s[k] = 44) : strL (cutR s (k + 1)) = strL (cutR s k) ++ [.string (s.extract fr k)] := by
  unfold cutR
  rw [if_pos (by omega), if_pos (by omega), (h.comma hk hb).2, List.map_append, List.map_singleton, strL_app, h.piece]
theorem cutR_other {s : ByteArray} {k fr : Nat} (h : CutAt s k fr) (hk : k < s.size) (hb : s[k] ≠ 44) : cutR s (k + 1) = cutR s k := by
  unfold cutR
  rw [if_pos (by omega), if_pos (by omega), (h.other hk hb).2]
theorem cutR_end {s : ByteArray} {fr : Nat} (h : CutAt s s.size fr) : strL (cutR s (s.size + 1)) = strL (cutR s s.size) ++ [.string (s.extract fr s.size)] := by
  unfold cutR
  rw [if_neg (by omega), if_pos (Nat.le_refl _), h.piece, ← strL_app, take_all s s.size (Nat.le_refl _), pcs_end]
theorem cutR_all (s : ByteArray) : cutR s (s.size + 1) = pcs s := by unfold cutR; rw [if_neg (by omega)]
theorem cutR_len {s : ByteArray} {k fr : Nat} (h : CutAt s k fr) (hk : k ≤ s.size) : (strL (cutR s k)).length ≤ k := by
  unfold strL cutR
  rw [if_pos hk]
  simpa using h.few
set_option maxHeartbeats 2000000 in
set_option maxRecDepth 20000 in
theorem l01Cut_any (s : ByteArray) (w : World) (hs : s.size ≤ 1048576) :
    Calls Tryd.prog 42 #[.string s, .int .u8 44] w (Makes w 9 (pcs s).length (strL (pcs s))) := by
  obtain ⟨i0, hi0, hz0, hz1, hz2⟩ := info_parts info_str
  have HO : Hid ((w.alloc (.cells #[] 9)).ownsRow w.heap.size 9 1 (.slice (some ⟨w.heap.size, 0, none⟩) 0 0) 0 (strL (cutR s 0))) := Lib.hid (by rw [cutR_zero]; exact own_lit w _)
  go_enter Tryd.func42, Tryd.ntmps42
  go_wp2
  go_loopw [5, 6, 7] (fun v f i wr => ∃ k fr m : Nat, k ≤ s.size + 1 ∧ fr ≤ k ∧ f = .int .i64 fr ∧ i = .int .i64 k ∧ Hid (k ≤ s.size → CutAt s k fr) ∧ Hid (wr.ownsRow w.heap.size 9 1 v m (strL (cutR s k))) ∧ Hid (Below w.heap.size w wr)) (fun _ _ i _ => s.size + 1 - (Lib.intOf i).toNat)
  case atStart => exact ⟨0, 0, 0, Nat.zero_le _, Nat.le_refl _, rfl, rfl, Lib.hid (fun _ => CutAt.start s), HO, Lib.hid ((Below.refl _ _).alloc (Nat.le_refl _) _)⟩
  case round =>
    clear HO
    obtain ⟨k, fr, m, hk, hfr, rfl, rfl, hC, hO, hG⟩ := hrel
    have hsz := Lib.hid hG.out.size
    by_cases hlt : k < s.size
    · have HC := Lib.hid (hC.out (Nat.le_of_lt hlt))
      have hml : m ≤ 1048576 := by have := cutR_len HC.out (Nat.le_of_lt hlt); have := hO.out.1; omega
      have hcb : s[k].toNat < 256 := s[k].toNat_lt
      by_cases hb : s[k] = 44
      · have HS := Lib.hid (cutR_comma HC.out hlt hb)
        have HC1 := Lib.hid (fun _ : k + 1 ≤ s.size => (HC.out.comma hlt hb).1)
        have hbn : s[k].toNat = 44 := by rw [hb]; rfl
        have ht : ((k : Int) == (s.size : Int) || (s[k].toNat : Int) == 44) = true := by simp; omega
        clear hb hC
        go_wp2_with (at_builtin; refine wpList_snoc rfl _ _ 50 rfl w.heap.size 9 i0 (.string ⟨#[]⟩) 16 Tryd.underlying50 hi0 hz0 hz1 hz2 rfl (by decide) _ m _ rfl hO.out _ rfl rfl hml hsz.out ?_; intro v' w2 ho2 hb2)
        have HO2 : Hid (w2.ownsRow w.heap.size 9 1 v' (m + 1) (strL (cutR s (k + 1)))) := Lib.hid (by rw [HS.out]; exact ho2)
        have HB2 := Lib.hid (hG.out.trans hb2)
        clear ho2 hb2
        go_wp2
        go_roundw
        case rel => exact ⟨k + 1, k + 1, m + 1, by omega, Nat.le_refl _, by go_num, by go_num, HC1, HO2, HB2⟩
        case measure => simp [Lib.intOf]; omega
      · have HS := Lib.hid (cutR_other HC.out hlt hb)
        have HC1 := Lib.hid (fun _ : k + 1 ≤ s.size => (HC.out.other hlt hb).1)
        have hbn : s[k].toNat ≠ 44 := fun e => hb (UInt8.toNat.inj e)
        have ht : ((k : Int) == (s.size : Int) || (s[k].toNat : Int) == 44) = false := by simp; omega
        clear hb hC
        have HO1 : Hid (wr.ownsRow w.heap.size 9 1 _ m (strL (cutR s (k + 1)))) := Lib.hid (by rw [HS.out]; exact hO.out)
        go_wp2
        go_roundw
        case rel => exact ⟨k + 1, fr, m, by omega, by omega, by go_num, by go_num, HC1, HO1, hG⟩
        case measure => simp [Lib.intOf]; omega
    · by_cases he : k = s.size
      · subst he
        have HC := Lib.hid (hC.out (Nat.le_refl _))
        have hml : m ≤ 1048576 := by have := cutR_len HC.out (Nat.le_refl _); have := hO.out.1; omega
        have HS := Lib.hid (cutR_end HC.out)
        clear hC
        go_wp2_with (at_builtin; refine wpList_snoc rfl _ _ 50 rfl w.heap.size 9 i0 (.string ⟨#[]⟩) 16 Tryd.underlying50 hi0 hz0 hz1 hz2 rfl (by decide) _ m _ rfl hO.out _ rfl rfl hml hsz.out ?_; intro v' w2 ho2 hb2)
        have HO2 : Hid (w2.ownsRow w.heap.size 9 1 v' (m + 1) (strL (cutR s (s.size + 1)))) := Lib.hid (by rw [HS.out]; exact ho2)
        have HB2 := Lib.hid (hG.out.trans hb2)
        clear ho2 hb2
        go_wp2
        go_roundw
        case rel => exact ⟨s.size + 1, s.size + 1, m + 1, Nat.le_refl _, Nat.le_refl _, by go_num, by go_num, Lib.hid (fun h => absurd h (by omega)), HO2, HB2⟩
        case measure => simp [Lib.intOf]
      · obtain rfl : k = s.size + 1 := by omega
        go_wp2
        go_ret
        have h1 := hO.out
        rw [cutR_all] at h1
        obtain ⟨A', c', rfl⟩ := own_form h1
        have hm : m = (pcs s).length := by have := h1.1; unfold strL at this; simp at this; omega
        subst hm
        exact ⟨_, _, rfl, h1, hG.out⟩
end Go.Proofs.YtlbhmjkghdhlpaaDoor
