/-
  The laws' own helpers on lists of float32; contracts of SumNumbers and DotNumbers and their twins.
-/
import Derived.Test.YtcimnklgkdnaaaaFlist
import Derived.Test.YtcimnklgkdnaaaaList2
import Derived.Laws.Entries
namespace Go.Proofs.Ytcimnklgkdnaaaa
open Go.RowKit

theorem run_store_flo (P : Program) (w : World) (a : Addr) (m : Mode) (k : FloatKind) (b : Nat) : (store a (.float k b) m).run P w = stored P w a (.float k b) m := run_store P w a _ m rfl
attribute [local go_sem] run_store_flo
theorem info_f32 : (Try.prog.info? 47).map (fun i => (i.zero, i.size, i.bytes)) = some (some (.float .f32 0), 1, 4) := by kernel_rfl
/-- The first k copied, zeros behind. -/
@[irreducible] def halfF (zs : List Nat) (k : Nat) : List Value := (zs.take k ++ List.replicate (zs.length - k) 0).map (Value.float .f32)
theorem halfF_zero (zs : List Nat) : halfF zs 0 = (madeCells (Value.float .f32 0).cells (zs.length * 1)).toList := by
  unfold halfF
  show _ = (madeCells #[.float .f32 0] (zs.length * 1)).toList
  rw [toList_madeCells_one]; simp
theorem halfF_full (zs : List Nat) {k : Nat} (h : zs.length ≤ k) : halfF zs k = zs.map (Value.float .f32) := by
  unfold halfF; rw [List.take_of_length_le h, Nat.sub_eq_zero_of_le h]; simp
theorem halfF_len (zs : List Nat) {k : Nat} (h : k ≤ zs.length) : (halfF zs k).length = zs.length := by unfold halfF; simp; omega
theorem halfF_at (zs : List Nat) {k : Nat} (h : k < zs.length) : (halfF zs k)[k]? = some (.float .f32 0) := by
  unfold halfF
  have e : zs.length - k = (zs.length - k - 1) + 1 := by omega
  rw [e, List.replicate_succ]
  rw [List.map_append, List.getElem?_append_right (by simp; omega)]
  have hl : k - ((zs.take k).map (Value.float .f32)).length = 0 := by simp; omega
  rw [hl]
  rfl
theorem halfF_set (zs : List Nat) {k : Nat} (h : k < zs.length) : (halfF zs k).set k (.float .f32 (zs.getD k 0)) = halfF zs (k + 1) := by
  unfold halfF
  have e : zs.length - k = (zs.length - (k + 1)) + 1 := by omega
  rw [e, List.replicate_succ, flo_take_snoc zs h]
  simp only [List.map_append, List.map_cons, List.append_assoc, List.singleton_append]
  have hl : ((zs.take k).map (Value.float .f32)).length = k := by simp; omega
  rw [List.set_append_right _ _ (by omega), hl, Nat.sub_self]
  rfl

set_option maxHeartbeats 800000 in
theorem toF_any (A : Option Addr) (n c : Nat) (zs : List Nat) (w : World) (h : Lies w w.heap.size A n (zs.map (Value.float .f32))) (hn : n ≤ 1048576) :
    Calls Try.prog 37 #[.slice A n c] w fun e w' => e = .returned (.slice (some ⟨w.heap.size, 0, none⟩) n n) ∧
      w'.ownsRow w.heap.size 47 1 (.slice (some ⟨w.heap.size, 0, none⟩) n n) n (zs.map (Value.float .f32)) ∧ w.grownBy w' none := by
  obtain ⟨i0, hi0, hz0, hz1, hz2⟩ := info_parts info_f32
  have hzl : zs.length = n := by have := h.1; simpa using this
  have HZ := Lib.hid hzl
  clear hzl
  obtain ⟨w1, hmk, hown, hgr⟩ := run_make_full (P := Try.prog) w w.heap.size 46 47 i0 (.float .f32 0) 1 Try.underlying46 hi0 hz0 hz1 .i64 .i64 n (by rw [hz2]; omega) (by unfold maxLen; omega) (Nat.le_refl _)
  go_enter Try.func37, Try.ntmps37
  go_wp2
  have HO : Hid (w1.ownsRow w.heap.size 47 1 (.slice (some ⟨w.heap.size, 0, none⟩) n n) n (halfF zs 0)) := Lib.hid (by rw [halfF_zero, HZ.out]; exact hown)

  have HG := Lib.hid hgr
  clear hown hgr
  go_loopw [4] (fun i wr => ∃ k : Nat, k ≤ n ∧ i = .int .i64 k ∧ Hid (wr.ownsRow w.heap.size 47 1 (.slice (some ⟨w.heap.size, 0, none⟩) n n) n (halfF zs k)) ∧ Hid (w.grownBy wr none)) (fun i _ => n - (intOf i).toNat)
  case atStart => exact ⟨0, Nat.zero_le _, rfl, HO, HG⟩
  case round =>
    clear HO HG
    obtain ⟨k, hk, rfl, hO, hG⟩ := hrel
    by_cases hlt : k < n
    · obtain ⟨ad, rfl, hab, hc⟩ := h.at_ hlt
      rw [flo_getD zs (by have := HZ.out; omega)] at hc
      have hc1 := (hG.out.cell hc (by simp))
      have hc2 : wr.cell? ⟨w.heap.size, k, none⟩ = some (.float .f32 0) := by rw [hO.out.cellAt k (by omega)]; exact halfF_at zs (by have := HZ.out; omega)
      have hf := hO.out.frozenAt k
      clear hc
      go_wp2
      go_roundw
      case rel => exact ⟨k + 1, by omega, by go_num, by have := (hO.out.stored k (.float .f32 (zs.getD k 0))).1; rw [halfF_set zs (by have := HZ.out; omega)] at this; exact Lib.hid this, Lib.hid (grown_set hG.out (Nat.le_refl _) _)⟩
      case measure => simp [intOf]; omega
    · go_wp2
      go_ret
      have hO2 := hO.out
      rw [halfF_full zs (by have := HZ.out; omega)] at hO2
      exact ⟨rfl, hO2, hG.out⟩
theorem upon_up {P : Program} {o : Oper} {a : Act} {K : Act → World → Prop} {Q : Exit → Act → World → Prop} {w : World} (src dst : TypeId) (b : Nat) (hs : (P.underlying src).isSome = true) (hd : P.underlying dst = some (.float .f64))
    (h : ∀ r n, cn .f64 r = cvF .f32 .f64 (cn .f32 b) → r < 2 ^ FloatKind.f64.format.width → K (a.put o.dst (.float .f64 r)) (w.drewN n)) :
    Oper.upon P o a K Q (((convert src dst (.float .f32 b)).run P w).andThen fun v w' => Result.ok (Next.value v) w') := by
  obtain ⟨r, n, hr, h1, h2⟩ := run_cvF (P := P) w src dst .f32 .f64 (by decide) b hs hd (fits_up b)
  rw [hr]
  exact h r n h1 h2
theorem same_of {a b : Nat} {c : Option Nat} (ha : Hid (cn .f64 a = c)) (hb : Hid (cn .f64 b = c)) : cn .f64 a = cn .f64 b := ha.out.trans hb.out.symm
set_option maxHeartbeats 1600000 in
theorem eqF_any (A A' : Option Addr) (n c c' B B' : Nat) (zs : List Nat) (w : World) (h : Lies w B A n (zs.map (Value.float .f32))) (h' : Lies w B' A' n (zs.map (Value.float .f32))) (hn : n ≤ 1048576) :
    Calls Try.prog 40 #[.slice A n c, .slice A' n c'] w fun e w' => ∃ m, e = .returned (.bool true) ∧ w' = w.drewN m := by
  have hzl : zs.length = n := by have := h.1; simpa using this
  have HZ := Lib.hid hzl
  clear hzl
  go_enter Try.func40, Try.ntmps40
  go_wp2
  go_loopw [5] (fun i wr => ∃ k m : Nat, k ≤ n ∧ i = .int .i64 k ∧ wr = w.drewN m) (fun i _ => n - (intOf i).toNat)
  case atStart => exact ⟨0, 0, Nat.zero_le _, rfl, rfl⟩
  case round =>
    obtain ⟨k, m, hk, rfl, rfl⟩ := hrel
    by_cases hlt : k < n
    · obtain ⟨ad, rfl, hab, hc⟩ := h.at_ hlt
      obtain ⟨ad', rfl, hab', hc'⟩ := h'.at_ hlt
      rw [flo_getD zs (by have := HZ.out; omega)] at hc hc'
      generalize zs.getD k 0 = x at *
      go_wp2
      go_region_with (first | (refine upon_up _ _ _ rfl Try.underlying52 ?_; intro r n1 hr hrb; have HR := Lib.hid hr; clear hr) | (go_at_call 39; refine (sameFloat_eq _ _ _ (same_of (c := cvF .f32 .f64 (cn .f32 x)) (by assumption) (by assumption))).mono ?_; rintro e w' ⟨m9, rfl, rfl⟩))
      all_goals
        go_wp2
        go_roundw
        case rel => exact ⟨k + 1, _, by omega, by go_num, rfl⟩
        case measure => simp [intOf]; omega
    · go_wp2
      go_ret
      exact ⟨_, rfl, rfl⟩
end Go.Proofs.Ytcimnklgkdnaaaa
