/-
  Contracts of ListText and its twin: the text of a list of integers.
-/
import Derived.Test.YtlbhmjkghdhlpaaDoorReadI
import Derived.Test.YtlbhmjkghdhlpaaDoorList2
import Derived.Lib.Join
namespace Go.Proofs.YtlbhmjkghdhlpaaDoor
open Go.RowKit Go.Lib

theorem isV_wf {n : Int} (h : isV n = true) : (Lit.int .i64 n).wf = true := by
  have := (isV_iff n).1 h
  exact wf_small (by omega) (by omega)
@[irreducible] def allV (zs : List Int) : Bool := zs.all isV
@[irreducible] def lsB (zs : List Int) : Bool := allV zs && decide (zs.length ≤ 64)
theorem allV_zero (zs : List Int) : allV (zs.take 0) = true := by unfold allV; simp
theorem allV_snoc {zs : List Int} {k : Nat} (h : k < zs.length) : allV (zs.take (k + 1)) = (allV (zs.take k) && isV (zs.getD k 0)) := by
  unfold allV; rw [ints_take_snoc zs h]; simp
theorem allV_full {zs : List Int} {k : Nat} (h : zs.length ≤ k) : allV (zs.take k) = allV zs := by rw [List.take_of_length_le h]
theorem allV_bad {zs : List Int} {k : Nat} (h : k < zs.length) (hb : isV (zs.getD k 0) = false) : allV zs = false := by
  unfold allV
  refine Bool.eq_false_iff.2 fun ha => ?_
  rw [List.all_eq_true] at ha
  have := ha (zs.getD k 0) (by simp [List.getD, h])
  rw [hb] at this; cases this
theorem allV_at {zs : List Int} (ha : allV zs = true) {k : Nat} (h : k < zs.length) : isV (zs.getD k 0) = true := by
  rcases hb : isV (zs.getD k 0)
  · rw [allV_bad h hb] at ha; cases ha
  · rfl
theorem ls_bad {zs : List Int} (h : allV zs = false) : lsB zs = false := by unfold lsB; rw [h]; rfl
theorem ls_eq {zs : List Int} {n : Nat} (h : allV zs = true) (hl : zs.length = n) : lsB zs = decide (n ≤ 64) := by unfold lsB; rw [h, hl]; rfl
theorem ls_of {zs : List Int} (h : lsB zs = true) : allV zs = true ∧ zs.length ≤ 64 := by
  unfold lsB at h
  rw [Bool.and_eq_true, decide_eq_true_eq] at h
  exact h
/-- The text of the first k numbers. -/
@[irreducible] def tx (zs : List Int) (k : Nat) : List UInt8 := join ((zs.take k).map itoa) [44]
theorem tx_one {zs : List Int} (h : 0 < zs.length) : tx zs 1 = itoa (zs.getD 0 0) := by
  unfold tx
  rw [show (1 : Nat) = 0 + 1 from rfl, ints_take_snoc zs h]
  simp [join_one]
theorem tx_succ {zs : List Int} {k : Nat} (h1 : 0 < k) (h : k < zs.length) : tx zs (k + 1) = tx zs k ++ (44 :: itoa (zs.getD k 0)) := by
  cases zs with
  | nil => simp at h
  | cons z r =>
    obtain ⟨j, rfl⟩ : ∃ j, k = j + 1 := ⟨k - 1, by omega⟩
    have hj : j < r.length := by simpa using h
    unfold tx
    rw [List.take_succ_cons, List.take_succ_cons, List.map_cons, List.map_cons, join_cons, join_cons, List.map_take, List.map_take]
    rw [joinTail_take_succ [44] (r.map itoa) j (itoa (r.getD j 0)) (by simp [List.getElem?_map, List.getElem?_eq_getElem hj, List.getD])]
    simp [List.append_assoc, List.getD]
theorem tx_len {zs : List Int} (ha : allV zs = true) : ∀ k, 0 < k → k ≤ zs.length → (tx zs k).length ≤ 18 * k
  | 0, h, _ => by omega
  | k + 1, _, hk => by
    have hi := (itoa_len (allV_at ha (show k < zs.length by omega))).2
    rcases Nat.eq_zero_or_pos k with rfl | hp
    · rw [tx_one (by omega)]; omega
    · have := tx_len ha k hp (by omega)
      rw [tx_succ hp (by omega), List.length_append, List.length_cons]
      omega
theorem itoa_short {zs : List Int} (ha : allV zs = true) {k : Nat} (h : k < zs.length) : (itoa (zs.getD k 0)).length ≤ 17 := (itoa_len (allV_at ha h)).2
@[irreducible] def lsT (zs : List Int) : List UInt8 := if zs.length = 0 then [110, 111, 110, 101] else tx zs zs.length
@[irreducible] def lsV (zs : List Int) : List UInt8 := if lsB zs then lsT zs else []
theorem lsT_zero {zs : List Int} (h : zs.length = 0) : lsT zs = [110, 111, 110, 101] := by unfold lsT; rw [if_pos h]
theorem lsT_pos {zs : List Int} (h : 0 < zs.length) : lsT zs = tx zs zs.length := by unfold lsT; rw [if_neg (by omega)]
theorem lsV_t {zs : List Int} (h : lsB zs = true) : lsV zs = lsT zs := by unfold lsV; rw [if_pos h]
theorem lsV_f {zs : List Int} (h : lsB zs = false) : lsV zs = [] := by unfold lsV; rw [if_neg (by rw [h]; decide)]
section
variable {P : Program} {w : World} {ops : Array Oper} {rest : List Oper} {o : Oper} {a : Act} {Q : Exit → Act → World → Prop}
/-- The sum of two short strings. -/
theorem wpList_sadd (hgd : Region.wanted o (yielded ops a.tmps) = true) (t : TypeId) (x y : Operand) (ty : TypeId) (ho : o.op = .binOp .add t x y ty) (l m : List UInt8)
    (hx : a.eval x = .string ⟨l.toArray⟩) (hy : a.eval y = .string ⟨m.toArray⟩) (hl : l.length ≤ 1048576) (hm : m.length ≤ 1048576)
    (h : wpList P ops Q rest (a.put o.dst (.string ⟨(l ++ m).toArray⟩)) w) : wpList P ops Q (o :: rest) a w := by
  refine wpList_wanted hgd fun K hK => ?_
  have e : (⟨l.toArray⟩ ++ ⟨m.toArray⟩ : ByteArray) = ⟨(l ++ m).toArray⟩ := by
    apply ByteArray.ext
    simp
  have hz : ∀ k : List UInt8, (⟨k.toArray⟩ : ByteArray).size = k.length := fun k => by show k.toArray.size = _; simp
  have hr := run_string_add (P := P) (w := w) ⟨l.toArray⟩ ⟨m.toArray⟩ (by rw [hz]; omega) (by rw [hz]; omega)
  rw [e] at hr
  have he : (execOp a.eval o).run P w = .ok (.value (.string ⟨(l ++ m).toArray⟩)) w := by
    unfold execOp
    simp [ho, hx, hy, binOp_string_add, eqGuard, hr]
  unfold Oper.wp
  rw [he]
  exact hK _ _ h
end
theorem retS {l m : List UInt8} {x y : Bool} (h1 : l = m) (h2 : x = y) : Ending.returned (.tuple #[.string ⟨l.toArray⟩, .bool x]) = .returned (.tuple #[.string ⟨m.toArray⟩, .bool y]) := by rw [h1, h2]
theorem addz (a : Addr) : a.add 0 = a := by
  unfold Addr.add
  cases a
  split <;> simp_all
set_option maxHeartbeats 800000 in
theorem l01List_any (A : Option Addr) (n c B : Nat) (zs : List Int) (w : World) (h : Lies w B A n (zs.map (Value.int .i64))) (hn : n ≤ 1048576) :
    Calls Tryd.prog 30 #[.slice A n c] w fun e w' => e = .returned (.bool (lsB zs)) ∧ w = w' := by
  have hzl : zs.length = n := by have := h.1; simpa using this
  have HZ := Lib.hid hzl
  clear hzl
  go_enter Tryd.func30, Tryd.ntmps30
  go_wp2
  go_loop [3] (fun i => ∃ k : Nat, k ≤ n ∧ i = .int .i64 k ∧ Hid (allV (zs.take k) = true)) (fun i => n - (Lib.intOf i).toNat)
  case atStart => exact ⟨0, Nat.zero_le _, rfl, Lib.hid (allV_zero zs)⟩
  case round =>
    obtain ⟨k, hk, rfl, ha⟩ := hrel
    by_cases hlt : k < n
    · obtain ⟨ad, rfl, hab, hc⟩ := h.at_ hlt
      rw [ints_getD .i64 zs (by have := HZ.out; omega)] at hc
      have HS := Lib.hid (allV_snoc (zs := zs) (k := k) (by have := HZ.out; omega))
      have HB := Lib.hid (allV_bad (zs := zs) (k := k) (by have := HZ.out; omega))
      generalize zs.getD k 0 = x at *
      have HI := Lib.hid (isV_inB x)
      rcases hx : isV x
      · have hx2 : inB x (-1000000000000000) 1000000000000000 = false := by rw [HI.out, hx]
        go_wp2_with (go_at_call 36; refine (l00In_any _ _ _ _).mono ?_; rintro e w' ⟨rfl, rfl⟩)
        go_ret
        exact ⟨retB (ls_bad (HB.out hx)).symm, rfl⟩
      · have hx2 : inB x (-1000000000000000) 1000000000000000 = true := by rw [HI.out, hx]
        go_wp2_with (go_at_call 36; refine (l00In_any _ _ _ _).mono ?_; rintro e w' ⟨rfl, rfl⟩)
        go_round
        case rel => exact ⟨k + 1, by omega, by go_num, Lib.hid (by rw [HS.out, ha.out, hx]; rfl)⟩
        case measure => simp [Lib.intOf]; omega
    · have ha2 := ha.out
      rw [allV_full (by have := HZ.out; omega)] at ha2
      have HL := Lib.hid (ls_eq ha2 HZ.out)
      clear ha2 ha
      go_wp2
      go_ret
      exact ⟨retB (by rw [HL.out]; simp; omega), rfl⟩
set_option maxHeartbeats 800000 in
theorem areValues_any (A : Option Addr) (n c B : Nat) (zs : List Int) (w : World) (h : Lies w B A n (zs.map (Value.int .i64))) (hn : n ≤ 1048576) :
    Calls Tryd.prog 32 #[.slice A n c] w fun e w' => e = .returned (.bool (lsB zs)) ∧ w = w' := by
  have hzl : zs.length = n := by have := h.1; simpa using this
  have HZ := Lib.hid hzl
  clear hzl
  go_enter Tryd.func32, Tryd.ntmps32
  go_wp2
  go_loop [7] (fun i => ∃ k : Nat, k ≤ n ∧ i = .int .i64 k ∧ Hid (allV (zs.take k) = true)) (fun i => n - (Lib.intOf i).toNat)
  case atStart => exact ⟨0, Nat.zero_le _, rfl, Lib.hid (allV_zero zs)⟩
  case round =>
    obtain ⟨k, hk, rfl, ha⟩ := hrel
    by_cases hlt : k < n
    · obtain ⟨ad, rfl, hab, hc⟩ := h.at_ hlt
      rw [ints_getD .i64 zs (by have := HZ.out; omega)] at hc
      have HS := Lib.hid (allV_snoc (zs := zs) (k := k) (by have := HZ.out; omega))
      have HB := Lib.hid (allV_bad (zs := zs) (k := k) (by have := HZ.out; omega))
      generalize zs.getD k 0 = x at *
      have HI := Lib.hid (isV_inB x)
      rcases hx : isV x
      · have hx2 : inB x (-1000000000000000) 1000000000000000 = false := by rw [HI.out, hx]
        go_wp2_with (go_at_call 29; refine (isValue_any _ _).mono ?_; rintro e w' ⟨rfl, rfl⟩)
        go_ret
        exact ⟨retB (ls_bad (HB.out hx)).symm, rfl⟩
      · have hx2 : inB x (-1000000000000000) 1000000000000000 = true := by rw [HI.out, hx]
        go_wp2_with (go_at_call 29; refine (isValue_any _ _).mono ?_; rintro e w' ⟨rfl, rfl⟩)
        go_round
        case rel => exact ⟨k + 1, by omega, by go_num, Lib.hid (by rw [HS.out, ha.out, hx]; rfl)⟩
        case measure => simp [Lib.intOf]; omega
    · have ha2 := ha.out
      rw [allV_full (by have := HZ.out; omega)] at ha2
      have HL := Lib.hid (ls_eq ha2 HZ.out)
      clear ha2 ha
      go_wp2
      go_ret
      exact ⟨retB (by rw [HL.out]; simp; omega), rfl⟩
set_option maxHeartbeats 1000000 in
theorem l01Text_any (A : Option Addr) (n c : Nat) (zs : List Int) (w : World) (h : Lies w w.heap.size A n (zs.map (Value.int .i64))) (hb : lsB zs = true) :
    Calls Tryd.prog 31 #[.slice A n c] w fun e w' => e = .returned (.string ⟨(lsT zs).toArray⟩) ∧ Below w.heap.size w w' := by
  have hzl : zs.length = n := by have := h.1; simpa using this
  have HZ := Lib.hid hzl
  obtain ⟨hv, hl64⟩ := ls_of hb
  have HV := Lib.hid hv
  have hn64 : n ≤ 64 := by omega
  clear hv hl64 hb
  by_cases h0 : n = 0
  · have HT := Lib.hid (lsT_zero (zs := zs) (by omega))
    subst h0
    clear hzl
    go_enter Tryd.func31, Tryd.ntmps31
    go_wp2
    go_ret
    exact ⟨by rw [HT.out]; rfl, Below.refl _ _⟩
  · have HT := Lib.hid (lsT_pos (zs := zs) (by omega))
    have h1 : 0 < n := by omega
    obtain ⟨ad, rfl, hab, hc⟩ := h.at_ h1
    rw [ints_getD .i64 zs (by omega), addz] at hc
    have HT1 := Lib.hid (tx_one (zs := zs) (by omega))
    have HW := Lib.hid (isV_wf (allV_at HV.out (k := 0) (by omega)))
    clear hzl
    generalize zs.getD 0 0 = x0 at *
    go_enter Tryd.func31, Tryd.ntmps31
    go_wp2_with (go_at_call 25; refine (l01Dec_any _ _ HW.out).mono ?_; rintro e w1 ⟨rfl, b1⟩)
    have B1 := Lib.hid b1
    clear hc b1
    go_loopw [3, 4] (fun v i wr => ∃ k : Nat, 1 ≤ k ∧ k ≤ n ∧ i = .int .i64 k ∧ v = .string ⟨(tx zs k).toArray⟩ ∧ Hid (Below w.heap.size w wr)) (fun _ i _ => n - (Lib.intOf i).toNat)
    case atStart => exact ⟨1, Nat.le_refl _, h1, rfl, by rw [HT1.out], B1⟩
    case round =>
      clear B1 HT1 HW
      obtain ⟨k, hk1, hk, rfl, rfl, hG⟩ := hrel
      by_cases hlt : k < n
      · obtain ⟨ad', e', hab', hc'⟩ := h.at_ hlt
        obtain rfl : ad = ad' := Option.some.inj e'
        rw [ints_getD .i64 zs (by have := HZ.out; omega)] at hc'
        have hc1 := (hG.out.cell (p := ad.add k) (by rw [addb]; exact hab')).trans hc'
        have HW := Lib.hid (isV_wf (allV_at HV.out (k := k) (by have := HZ.out; omega)))
        have HS := Lib.hid (tx_succ (zs := zs) (k := k) hk1 (by have := HZ.out; omega))
        have hl1 := tx_len HV.out k hk1 (by have := HZ.out; omega)
        have hl2 := itoa_short HV.out (k := k) (by have := HZ.out; omega)
        clear hc' e'
        generalize zs.getD k 0 = x at *
        have t1 : True := trivial
        go_wp2_with (first
          | (go_at_call 25; refine (l01Dec_any _ _ HW.out).mono ?_; rintro e w1 ⟨rfl, b1⟩; have B2 := Lib.hid (hG.out.trans (b1.mono hG.out.size)))
          | (have _t := t1; refine wpList_sadd rfl _ _ _ _ rfl [44] (itoa x) rfl rfl (by simp) (by omega) ?_; clear t1)
          | (refine wpList_sadd rfl _ _ _ _ rfl (tx zs k) ([44] ++ itoa x) rfl rfl (by omega) (by simp; omega) ?_))
        go_roundw
        case rel => exact ⟨k + 1, by omega, by omega, by go_num, by rw [HS.out], B2⟩
        case measure => simp [Lib.intOf]; omega
      · go_wp2
        go_ret
        obtain rfl : k = n := by omega
        exact ⟨by rw [HT.out, HZ.out]; rfl, hG.out⟩
end Go.Proofs.YtlbhmjkghdhlpaaDoor
