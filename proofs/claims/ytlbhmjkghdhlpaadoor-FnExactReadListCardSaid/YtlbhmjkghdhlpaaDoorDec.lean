/-
  Contracts of Decimal and its twin: the numeral of an integer.
-/
import Derived.Test.YtlbhmjkghdhlpaaDoorList
import Derived.Lib.SlBytesRow
import Derived.Lib.ItoaLen
import Derived.IntWalk
namespace Go.Proofs.YtlbhmjkghdhlpaaDoor
open Go.RowKit Go.Lib

def bv (l : List UInt8) : List Value := l.map fun b => Value.int .u8 (b.toNat : Int)
theorem bv_len (l : List UInt8) : (bv l).length = l.length := by unfold bv; simp
theorem bv_one (l : List UInt8) : ∀ u ∈ bv l, u.oneCell' = true := by
  intro u hu
  unfold bv at hu
  obtain ⟨b, _, rfl⟩ := List.mem_map.1 hu
  rfl
theorem info_u8 : (Tryd.prog.info? 5).map (fun i => (i.zero, i.size, i.bytes)) = some (some (.int .u8 0), 1, 1) := by kernel_rfl
/-- Where the making of a numeral stands: l its last digits, r what is left. -/
@[irreducible] def decI (u r : Nat) (l : List UInt8) : Prop := (l = [] ∧ r = u) ∨ (l ≠ [] ∧ r = 0 ∧ l = decDigits u) ∨ (l ≠ [] ∧ r ≠ 0 ∧ decDigits r ++ l = decDigits u)
theorem decI_start (u : Nat) : decI u u [] := by unfold decI; exact .inl ⟨rfl, rfl⟩
theorem decI_end {u : Nat} {l : List UInt8} (h : decI u 0 l) (hl : l.length ≠ 0) : l = decDigits u := by
  unfold decI at h
  rcases h with ⟨rfl, _⟩ | ⟨_, _, h⟩ | ⟨_, h, _⟩
  · exact absurd rfl hl
  · exact h
  · exact absurd rfl h
theorem decI_step {u r : Nat} {l : List UInt8} (h : decI u r l) (hr : l.length = 0 ∨ r ≠ 0) : decI u (r / 10) (UInt8.ofNat (48 + r % 10) :: l) := by
  unfold decI at h ⊢
  have hd : decDigits r ++ l = decDigits u := by
    rcases h with ⟨rfl, rfl⟩ | ⟨h1, h2, _⟩ | ⟨_, _, h⟩
    · simp
    · rcases hr with hr | hr
      · exact absurd (List.eq_nil_of_length_eq_zero hr) h1
      · exact absurd h2 hr
    · exact h
  by_cases h10 : r < 10
  · refine .inr (.inl ⟨by simp, by omega, ?_⟩)
    rw [← hd, decDigits, dif_pos h10, Nat.mod_eq_of_lt h10]; rfl
  · refine .inr (.inr ⟨by simp, by omega, ?_⟩)
    rw [← hd, decDigits.eq_def r, dif_neg h10, List.append_assoc]; rfl
theorem digit_nat (r : Nat) : (UInt8.ofNat (48 + r % 10)).toNat = 48 + r % 10 := by
  have : r % 10 < 10 := Nat.mod_lt _ (by decide)
  simp; omega
theorem dec_len {u r : Nat} {l : List UInt8} (h : decI u r l) (hu : u < 18446744073709551616) : l.length ≤ 20 := by
  have hb := nDigits_le20 u hu
  rw [← decDigits_length] at hb
  unfold decI at h
  rcases h with ⟨rfl, _⟩ | ⟨_, _, rfl⟩ | ⟨_, _, h⟩
  · simp
  · exact hb
  · rw [← h, List.length_append] at hb; omega
/-- 'out = append(new, out...)': a fresh row of one element, then a row of the call's own. -/
theorem wpList_cons {P : Program} {wr : World} {ops : Array Oper} {rest : List Oper} {o : Oper} {a : Act} {Q : Exit → Act → World → Prop} (hgd : o.guard = none) (s x : Operand) (t : TypeId)
    (ho : o.op = .call { callee := .builtin .append, args := #[s, x], argTypes := #[t, t] })
    (base : Nat) (e : TypeId) (i : TypeInfo) (z : Value) (bytes : Nat) (ht : P.underlying t = some (.slice e)) (hi : P.info? e = some i) (hz : i.zero = some z)
    (hsize : i.size = 1) (hby : i.bytes = bytes) (hzs : z.cells.size = 1) (hb16 : bytes ≤ 16)
    (u : Value) (hs : a.eval s = .slice (some ⟨wr.heap.size, 0, none⟩) 1 1) (g m c : Nat) (xs : List Value) (hx : a.eval x = .slice (some ⟨g, 0, none⟩) m c)
    (hown : wr.ownsRow base e 1 (.slice (some ⟨g, 0, none⟩) m c) m xs) (h1 : ∀ u ∈ xs, u.oneCell' = true) (hm : m ≤ 1048576) (hbase : base ≤ wr.heap.size)
    (h : ∀ v' w', w'.ownsRow base e 1 v' (1 + m) (u :: xs) → Below base wr w' → (v' = .slice none 0 0 → False) → wpList P ops Q rest (a.put o.dst v') w') :
    wpList P ops Q (o :: rest) a (wr.alloc (.cells #[u] e)) := by
  have hl : (wr.alloc (.cells #[u] e)).ownsRow base e 1 (.slice (some ⟨wr.heap.size, 0, none⟩) 1 1) 1 [u] := own_base (World.ownsRow_lit wr #[u] 1 (Nat.le_refl _) (by unfold maxLen; omega) rfl) hbase
  have ho2 := hown.alloc (.cells #[u] e)
  refine wpList_append_own _ hgd s x t ho base e i z 1 bytes ht hi hz hsize hby hzs (by decide) _ 1 [u] hs hl ⟨g, 0, none⟩ m c xs hx (by have := hown.1; omega) (ho2.cells rfl) h1 (by unfold maxLen; omega) ?_ (by simp; omega) ?_
  · have : (1 + m) * bytes ≤ 1048577 * 16 := Nat.mul_le_mul (by omega) hb16
    omega
  · intro v' w' hown' hg hnil
    refine h v' w' hown' (((Below.refl base wr).alloc hbase _).grown hg (by simp; omega) fun k hk => (hl.lt k hk).1) fun e' => ?_
    have := (hnil.1 e').1
    cases this
theorem own_some {w : World} {base : Nat} {e : TypeId} {v : Value} {n : Nat} {xs : List Value} (h : w.ownsRow base e 1 v n xs) (hn : v = .slice none 0 0 → False) : ∃ g c, v = .slice (some ⟨g, 0, none⟩) n c := by
  rcases h.2 with ⟨h1, rfl⟩ | ⟨g, cap, cur, rfl, _⟩
  · exact absurd h1 hn
  · exact ⟨_, _, rfl⟩
theorem bytes_of_own {w : World} {base : Nat} {e : TypeId} {g n c : Nat} {l : List UInt8} (h : w.ownsRow base e 1 (.slice (some ⟨g, 0, none⟩) n c) n (bv l)) : Bytes w g 0 ⟨l.toArray⟩ := by
  intro i hi
  have hl : i < l.length := by simpa [ByteArray.size] using hi
  have hn : n = l.length := by have := h.1; rw [bv_len] at this; omega
  rw [Nat.zero_add, h.cellAt i (by omega)]
  unfold bv
  simp [hl]
  rfl
theorem wpList_wanted {P : Program} {ops : Array Oper} {rest : List Oper} {o : Oper} {a : Act} {w : World} {Q : Exit → Act → World → Prop} (hw : Region.wanted o (yielded ops a.tmps) = true)
    (h : ∀ K : Act → World → Prop, (∀ a w, wpList P ops Q rest a w → K a w) → o.wp P a w K Q) : wpList P ops Q (o :: rest) a w :=
  wpList_step fun K hK => by rw [if_pos hw]; exact h K hK
theorem wpList_conv {P : Program} {w : World} {ops : Array Oper} {rest : List Oper} {o : Oper} {a : Act} {Q : Exit → Act → World → Prop} (hgd : Region.wanted o (yielded ops a.tmps) = true) (src dst : TypeId) (x : Operand)
    (ho : o.op = .convert src dst x) (v u : Value) (hx : a.eval x = v) (hr : (convert src dst v).run P w = .ok u w) (h : wpList P ops Q rest (a.put o.dst u) w) : wpList P ops Q (o :: rest) a w := by
  refine wpList_wanted hgd fun K hK => ?_
  have he : (execOp a.eval o).run P w = .ok (.value u) w := by
    unfold execOp
    simp [ho, hx, hr]
  unfold Oper.wp
  rw [he]
  exact hK _ _ h
theorem conv_own {P : Program} {w : World} {base : Nat} {e src dst : TypeId} {g n c : Nat} {l : List UInt8} (hs : P.underlying src = some (.slice e)) (he : P.underlying e = some (.int .u8)) (hd : P.underlying dst = some .string)
    (h : w.ownsRow base e 1 (.slice (some ⟨g, 0, none⟩) n c) n (bv l)) : (convert src dst (.slice (some ⟨g, 0, none⟩) n c)).run P w = .ok (.string ⟨l.toArray⟩) w := by
  have hn : n = (⟨l.toArray⟩ : ByteArray).size := by have := h.1; rw [bv_len] at this; show n = l.toArray.size; simp; omega
  have hb := bytes_of_own h
  subst hn
  exact run_convert_whole w src e dst hs he hd g 0 _ hb c
theorem tmod_neg (r : Nat) : (-(r : Int)).tmod 10 = -((r % 10 : Nat) : Int) := by rw [Int.neg_tmod]; rfl
theorem tdiv_neg (r : Nat) : (-(r : Int)).tdiv 10 = -((r / 10 : Nat) : Int) := by rw [Int.neg_tdiv]; rfl
theorem bv_cons (r : Nat) (l : List UInt8) : (Value.int .u8 (48 + (r : Int) % 10)) :: bv l = bv (UInt8.ofNat (48 + r % 10) :: l) := by
  unfold bv
  rw [List.map_cons, digit_nat]
  simp
set_option maxHeartbeats 1600000 in
set_option maxRecDepth 8000 in
theorem l01Dec_pos (u : Nat) (w : World) (hu : u < 9223372036854775808) : Calls Tryd.prog 25 #[.int .i64 ((u : Int))] w fun e w' => e = .returned (.string ⟨(itoa ((u : Int))).toArray⟩) ∧ Below w.heap.size w w' := by
  obtain ⟨i0, hi0, hz0, hz1, hz2⟩ := info_parts info_u8
  have HO : Hid ((w.alloc (.cells #[] 5)).ownsRow w.heap.size 5 1 (.slice (some ⟨w.heap.size, 0, none⟩) 0 0) 0 (bv [])) := Lib.hid (own_lit w _)
  go_enter Tryd.func25, Tryd.ntmps25
  go_wp2
  go_loopg [3, 4] 100 (fun gg v q wr => ∃ (g m c r : Nat) (l : List UInt8), gg = 100 - m ∧ v = .slice (some ⟨g, 0, none⟩) m c ∧ q = .int .i64 ((r : Int)) ∧ r ≤ u ∧ m = l.length ∧ m ≤ 20 ∧ Hid (decI u r l) ∧ Hid (wr.ownsRow w.heap.size 5 1 (.slice (some ⟨g, 0, none⟩) m c) m (bv l)) ∧ Hid (Below w.heap.size w wr))
  case atStart => exact ⟨_, _, _, u, [], rfl, rfl, rfl, Nat.le_refl _, rfl, by omega, Lib.hid (decI_start u), HO, Lib.hid ((Below.refl _ _).alloc (Nat.le_refl _) _)⟩
  case round =>
    clear HO
    obtain ⟨g, m, c, r, l, hgg, rfl, rfl, hru, hml, hm20, hI, hO, hG⟩ := hrel
    have HML := Lib.hid hml
    have hsz := hG.out.size
    clear hml
    by_cases hgo : m = 0 ∨ r ≠ 0
    · have hb : ((m : Int) == 0 || (r : Int) != 0) = true := by simp; omega
      have hI2 := Lib.hid (decI_step hI.out (hgo.imp (fun h => HML.out ▸ h) id))
      have hl2 : 1 + m ≤ 20 := by have := dec_len hI2.out (by omega); have hm := HML.out; rw [List.length_cons] at this; omega
      skip
      have hs10 : (48 + (r : Int) % 10) % 256 = 48 + (r : Int) % 10 := by omega
      go_wp2_with (first
        | (at_builtin; refine wpList_cons rfl _ _ 48 rfl w.heap.size 5 i0 (.int .u8 0) 1 Tryd.underlying48 hi0 hz0 hz1 hz2 rfl (by decide) (.int .u8 (48 + (r : Int) % 10)) rfl g m c (bv l) rfl hO.out (bv_one l) (by omega) hsz ?_; intro v1 w1 ho1 hb1 hn1))
      · have HO1 : Hid ((wr.alloc (.cells #[.int .u8 (48 + (r : Int) % 10)] 5)).ownsRow w.heap.size 5 1 (.slice (some ⟨wr.heap.size, 0, none⟩) 1 1) 1 (bv (UInt8.ofNat (48 + r % 10) :: l))) := by
          have e : l = [] := List.eq_nil_of_length_eq_zero (by have := HML.out; omega)
          subst e
          have := own_base (World.ownsRow_lit (e := 5) wr #[.int .u8 (48 + (r : Int) % 10)] 1 (Nat.le_refl _) (by unfold maxLen; omega) rfl) hsz
          exact Lib.hid (by rw [← bv_cons]; exact this)
        have HM1 := HML.out
        go_roundg (100 - 1)
        case rel => exact ⟨wr.heap.size, 1, 1, r / 10, _, rfl, rfl, rfl, by omega, by rw [List.length_cons, ← HM1]; omega, by omega, hI2, HO1, Lib.hid (hG.out.alloc hsz _)⟩
        case measure => omega
      · obtain ⟨g2, c2, rfl⟩ := own_some ho1 hn1
        rw [bv_cons] at ho1
        have HM1 := HML.out
        have HO1 := Lib.hid ho1
        have HB1 := Lib.hid (hG.out.trans hb1)
        go_roundg (100 - (1 + m))
        case rel => exact ⟨g2, 1 + m, c2, r / 10, _, rfl, rfl, rfl, by omega, by rw [List.length_cons, ← HM1, Nat.add_comm], by omega, hI2, HO1, HB1⟩
        case measure => omega
    · obtain ⟨hm0, rfl⟩ : m ≠ 0 ∧ r = 0 := by omega
      have hb : ((m : Int) == 0 || ((0 : Nat) : Int) != 0) = false := by simp; omega
      have HL := Lib.hid (decI_end hI.out (HML.out ▸ hm0))
      go_wp2_with (refine wpList_conv rfl 48 9 _ rfl _ _ rfl (conv_own Tryd.underlying48 Tryd.underlying5 Tryd.underlying9 hO.out) ?_)
      go_ret
      refine ⟨?_, hG.out⟩
      rw [itoa_nonneg, ← HL.out]
      rfl
end Go.Proofs.YtlbhmjkghdhlpaaDoor
