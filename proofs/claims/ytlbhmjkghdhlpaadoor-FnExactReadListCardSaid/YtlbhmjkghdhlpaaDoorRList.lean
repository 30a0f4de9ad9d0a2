/-
  Contracts of ReadList and its twin: the numbers of a text.
-/
import Derived.Test.YtlbhmjkghdhlpaaDoorCutW
import Derived.Deep.AppendLies
namespace Go.Proofs.YtlbhmjkghdhlpaaDoor
open Go.RowKit Go.Lib

@[irreducible] def okAll (ps : List ByteArray) : Bool := ps.all fun p => rdB p.data.toList
@[irreducible] def numL (ps : List ByteArray) : List Value := (ps.map fun p => rdV p.data.toList).map (Value.int .i64)
def gp_ (ps : List ByteArray) (k : Nat) : ByteArray := ps.getD k ⟨#[]⟩
theorem ps_snoc (ps : List ByteArray) {k : Nat} (h : k < ps.length) : ps.take (k + 1) = ps.take k ++ [gp_ ps k] := by
  unfold gp_
  rw [List.take_add_one, List.getElem?_eq_getElem h]; simp [List.getD, List.getElem?_eq_getElem h]
theorem okAll_zero (ps : List ByteArray) : okAll (ps.take 0) = true := by unfold okAll; simp
theorem okAll_snoc {ps : List ByteArray} {k : Nat} (h : k < ps.length) : okAll (ps.take (k + 1)) = (okAll (ps.take k) && rdB (gp_ ps k).data.toList) := by
  unfold okAll; rw [ps_snoc ps h]; simp
theorem okAll_bad {ps : List ByteArray} {k : Nat} (h : k < ps.length) (hb : rdB (gp_ ps k).data.toList = false) : okAll ps = false := by
  unfold okAll
  refine Bool.eq_false_iff.2 fun ha => ?_
  rw [List.all_eq_true] at ha
  have := ha (gp_ ps k) (by unfold gp_; simp [List.getD, h])
  rw [hb] at this; cases this
theorem okAll_full {ps : List ByteArray} {k : Nat} (h : ps.length ≤ k) : okAll (ps.take k) = okAll ps := by rw [List.take_of_length_le h]
theorem numL_zero (ps : List ByteArray) : numL (ps.take 0) = [] := by unfold numL; simp
theorem numL_snoc {ps : List ByteArray} {k : Nat} (h : k < ps.length) : numL (ps.take (k + 1)) = numL (ps.take k) ++ [.int .i64 (rdV (gp_ ps k).data.toList)] := by
  unfold numL; rw [ps_snoc ps h]; simp
theorem numL_len (ps : List ByteArray) : (numL ps).length = ps.length := by unfold numL; simp
theorem strL_get (ps : List ByteArray) {k : Nat} (h : k < ps.length) : (strL ps)[k]? = some (.string (gp_ ps k)) := by
  unfold strL gp_; simp [List.getD, h]
theorem strL_len (ps : List ByteArray) : (strL ps).length = ps.length := by unfold strL; simp
theorem cell_block {w w' : World} {g : Nat} (h : w'.heap[g]? = w.heap[g]?) (j : Nat) : w'.cell? ⟨g, j, none⟩ = w.cell? ⟨g, j, none⟩ := by
  unfold World.cell?
  simp only [h]
/-- 'out = append(out, u)' onto a row of the call's own, beside another block. -/
theorem wpList_snoc2 {P : Program} {wr : World} {ops : Array Oper} {rest : List Oper} {o : Oper} {a : Act} {Q : Exit → Act → World → Prop} (hgd : o.guard = none) (s x : Operand) (t : TypeId)
    (ho : o.op = .call { callee := .builtin .append, args := #[s, x], argTypes := #[t, t] })
    (base : Nat) (e : TypeId) (i : TypeInfo) (z : Value) (bytes : Nat) (ht : P.underlying t = some (.slice e)) (hi : P.info? e = some i) (hz : i.zero = some z)
    (hsize : i.size = 1) (hby : i.bytes = bytes) (hzs : z.cells.size = 1) (hb16 : bytes ≤ 16)
    (v : Value) (n : Nat) (xs : List Value) (hs : a.eval s = v) (hown : wr.ownsRow base e 1 v n xs) (u : Value) (hu : u.oneCell' = true) (hx : a.eval x = .slice (some ⟨wr.heap.size, 0, none⟩) 1 1)
    (hn : n ≤ 1048576) (hbase : base ≤ wr.heap.size) (gp : Nat) (hgp : gp < wr.heap.size) (hfar : v.ownBlock ≠ some gp)
    (h : ∀ v' w', w'.ownsRow base e 1 v' (n + 1) (xs ++ [u]) → Below base wr w' → v'.ownBlock ≠ some gp → w'.heap[gp]? = wr.heap[gp]? → wpList P ops Q rest (a.put o.dst v') w') :
    wpList P ops Q (o :: rest) a (wr.alloc (.cells #[u] e)) := by
  refine wpList_append_lies _ hgd s x t ho base e i z 1 bytes ht hi hz hsize hby hzs (by decide) v n xs hs (hown.alloc _) ⟨wr.heap.size, 0, none⟩ 1 1 [u] hx rfl ?_ ?_ (by decide) ?_ ?_ ?_ _ rfl ?_
  · intro j u' hj
    match j, hj with
    | 0, hj => simp at hj; subst hj; simp [Addr.add]
  · intro u' hu'; simp at hu'; subst hu'; exact hu
  · unfold maxLen; omega
  · have : (n + 1) * bytes ≤ 1048577 * 16 := Nat.mul_le_mul (by omega) hb16
    omega
  · simp; omega
  · intro g cap w' hown' hg hat _
    have hsz : (wr.alloc (.cells #[u] e)).heap.size = wr.heap.size + 1 := by simp
    refine h _ w' hown' (((Below.refl base wr).alloc hbase _).grown hg (by simp; omega) fun k hk => (hown.lt k hk).1) ?_ ?_
    · intro e'
      have e2 : g = gp := Option.some.inj e'
      subst e2
      rcases hat with h1 | h1
      · exact hfar h1
      · omega
    · rw [hg.block gp (by omega) (Ne.symm hfar)]
      exact Below.heap_alloc wr _ gp hgp
@[irreducible] def rlN (s : ByteArray) : Bool := s.toList == [110, 111, 110, 101]
@[irreducible] def rlA (s : ByteArray) : Bool := rlN s || okAll (pcs s)
@[irreducible] def rlB (s : ByteArray) : Bool := rlN s || (decide ((pcs s).length ≤ 64) && okAll (pcs s))
@[irreducible] def rlX (s : ByteArray) : List ByteArray := if rlN s then [] else pcs s
@[irreducible] def rlV (s : ByteArray) : List Value := if rlB s then numL (rlX s) else []
@[irreducible] def rlW (s : ByteArray) : List Value := if rlA s then numL (rlX s) else []
theorem rl_none {s : ByteArray} (h : rlN s = true) : rlA s = true ∧ rlB s = true ∧ rlV s = [] ∧ rlW s = [] := by
  unfold rlV rlW rlA rlB rlX
  rw [h]
  refine ⟨rfl, rfl, ?_, ?_⟩ <;> simp [numL]
theorem rl_A {s : ByteArray} (h : rlN s = false) : rlA s = okAll (pcs s) := by unfold rlA; rw [h, Bool.false_or]
theorem rl_B {s : ByteArray} (h : rlN s = false) : rlB s = (decide ((pcs s).length ≤ 64) && okAll (pcs s)) := by unfold rlB; rw [h, Bool.false_or]
theorem rl_X {s : ByteArray} (h : rlN s = false) : rlX s = pcs s := by unfold rlX; rw [h]; rfl
theorem rlV_f {s : ByteArray} (h : rlB s = false) : rlV s = [] := by unfold rlV; rw [h]; rfl
theorem rlV_t {s : ByteArray} (h : rlB s = true) : rlV s = numL (rlX s) := by unfold rlV; rw [h]; rfl
theorem rlW_f {s : ByteArray} (h : rlA s = false) : rlW s = [] := by unfold rlW; rw [h]; rfl
theorem rlW_t {s : ByteArray} (h : rlA s = true) : rlW s = numL (rlX s) := by unfold rlW; rw [h]; rfl
theorem makes_no (w w' : World) (e : TypeId) {xs : List Value} {b : Bool} (hb' : Below w.heap.size w w') (hx : xs = []) (hb : b = false) : MakesB w e xs.length xs b (.returned (.tuple #[.slice none 0 0, .bool false])) w' := by
  subst hx; subst hb
  exact ⟨_, _, rfl, World.ownsRow_nil _ _ _ _, hb'⟩
theorem makes_yes {w w' : World} {e : TypeId} {n : Nat} {xs ys : List Value} {b : Bool} {v : Value} (h : w'.ownsRow w.heap.size e 1 v n xs) (hb : Below w.heap.size w w') (hx : ys = xs) (ht : b = true) :
    MakesB w e ys.length ys b (.returned (.tuple #[v, .bool true])) w' := by
  subst hx; subst ht
  obtain ⟨A, c, rfl⟩ := own_form h
  have hl : n = ys.length := by have := h.1; omega
  subst hl
  exact ⟨_, _, rfl, h, hb⟩
theorem own_lit_block (w : World) : (Value.slice (some ⟨w.heap.size, 0, none⟩) 0 0).ownBlock = some w.heap.size := rfl
set_option maxHeartbeats 2000000 in
set_option maxRecDepth 20000 in
theorem l01Numbers_any (s : ByteArray) (w : World) (hs : s.size ≤ 1048576) :
    Calls Tryd.prog 34 #[.string s] w (MakesB w 2 (rlV s).length (rlV s) (rlB s)) := by
  obtain ⟨i0, hi0, hz0, hz1, hz2⟩ := info_parts info64
  have hNe : (s.toList == [110, 111, 110, 101]) = rlN s := by unfold rlN; rfl
  have HO := Lib.hid (own_lit w 2)
  have HB0 := Lib.hid ((Below.refl w.heap.size w).alloc (Nat.le_refl _) (.cells #[] 2))
  rcases hN : rlN s
  · rw [hN] at hNe
    have HBB := Lib.hid (rl_B hN)
    have HXX := Lib.hid (rl_X hN)
    have HPP := Lib.hid (pcs_pos s)
    clear hN
    go_enter Tryd.func34, Tryd.ntmps34
    go_wp2_with fail
    refine (l01Cut_any s _ hs).mono ?_
    rintro e w2 ⟨A', c', rfl, own2, b2⟩
    obtain ⟨gp, rfl, hge, hlt2⟩ := own_addr own2 HPP.out
    have hsz0 : (w.alloc (.cells #[] 2)).heap.size = w.heap.size + 1 := by simp
    have HO2 := Lib.hid (own_below HO.out b2)
    have HB2 := Lib.hid (HB0.out.trans (b2.mono (by rw [hsz0]; omega)))
    have HC := Lib.hid (fun j => own2.cellAt j)
    have hfar : w.heap.size ≠ gp := by omega
    clear own2 b2 hge hsz0
    by_cases hL : (pcs s).length ≤ 64
    · have HOK := Lib.hid (show rlB s = okAll (pcs s) by rw [HBB.out, decide_eq_true hL, Bool.true_and])
      generalize hn : (pcs s).length = n at *
      have HL := Lib.hid hn
      clear hn
      go_wp2
      go_loopw [4, 6] (fun v i wr => ∃ k : Nat, k ≤ n ∧ i = .int .i64 k ∧ Hid (wr.ownsRow w.heap.size 2 1 v k (numL ((pcs s).take k))) ∧ Hid (v.ownBlock ≠ some gp) ∧ Hid (okAll ((pcs s).take k) = true) ∧ Hid (Below w.heap.size w wr) ∧ Hid (wr.heap[gp]? = w2.heap[gp]? ∧ gp < wr.heap.size)) (fun _ i _ => n - (Lib.intOf i).toNat)
      case atStart => exact ⟨0, Nat.zero_le _, rfl, Lib.hid (by rw [numL_zero]; exact HO2.out), Lib.hid (by rw [own_lit_block]; intro e; exact hfar (Option.some.inj e)), Lib.hid (okAll_zero _), HB2, Lib.hid ⟨rfl, hlt2⟩⟩
      case round =>
        clear HO HO2 HB0 HB2
        obtain ⟨k, hk, rfl, hO, hF, hA, hG, hP⟩ := hrel
        by_cases hlt : k < n
        · have hkl : k < (pcs s).length := by rw [HL.out]; exact hlt
          have hc : wr.cell? ⟨gp, k, none⟩ = some (.string (gp_ (pcs s) k)) := by
            rw [cell_block hP.out.1, HC.out k (by omega)]; exact strL_get _ hkl
          have HS := Lib.hid (numL_snoc hkl)
          have HS2 := Lib.hid (okAll_snoc hkl)
          have HBad := Lib.hid (okAll_bad hkl)
          clear hkl
          generalize gp_ (pcs s) k = p at *
          rcases hr : rdB p.data.toList
          · go_wp2_with (go_at_call 27; refine (l01Value_any p _).mono ?_; rintro e w3 ⟨rfl, b3⟩; simp only [hr])
            go_ret2
            exact makes_no _ _ _ (hG.out.trans (b3.mono hG.out.size)) (rlV_f (by rw [HOK.out, HBad.out hr])) (by rw [HOK.out, HBad.out hr])
          · have HA2 : Hid (okAll ((pcs s).take (k + 1)) = true) := Lib.hid (by rw [HS2.out, hA.out, hr]; rfl)
            go_wp2_with (first
              | (go_at_call 27; refine (l01Value_any p _).mono ?_; rintro e w3 ⟨rfl, b3⟩; simp only [hr]; have HO3 := Lib.hid (own_below hO.out b3); have HG3 := Lib.hid (hG.out.trans (b3.mono hG.out.size)); have HP3 := Lib.hid (And.intro ((b3.block gp hP.out.2).trans hP.out.1) (Nat.lt_of_lt_of_le hP.out.2 b3.size)); clear b3)
              | (at_builtin; refine wpList_snoc2 rfl _ _ 28 rfl w.heap.size 2 i0 (.int .i64 0) 8 Tryd.underlying28 hi0 hz0 hz1 hz2 rfl (by decide) u4 k _ rfl HO3.out _ rfl rfl (by omega) HG3.out.size gp HP3.out.2 hF.out ?_; intro v' w4 ho4 hb4 hf4 hp4))
            have HO4 : Hid (w4.ownsRow w.heap.size 2 1 v' (k + 1) (numL ((pcs s).take (k + 1)))) := Lib.hid (by rw [HS.out]; exact ho4)
            have HB4 := Lib.hid (HG3.out.trans hb4)
            have HF4 := Lib.hid hf4
            have HP4 := Lib.hid (And.intro (hp4.trans HP3.out.1) (Nat.lt_of_lt_of_le HP3.out.2 hb4.size))
            clear ho4 hb4 hf4 hp4
            go_wp2
            go_roundw
            case rel => exact ⟨k + 1, by omega, by go_num, HO4, HF4, HA2, HB4, HP4⟩
            case measure => simp [Lib.intOf]; omega
        · obtain rfl : k = n := by omega
          have h1 := hO.out
          have h2 := hA.out
          rw [List.take_of_length_le (by rw [HL.out]; exact Nat.le_refl _)] at h1
          rw [okAll_full (by rw [HL.out]; exact Nat.le_refl _)] at h2
          have HR := Lib.hid (show rlB s = true by rw [HOK.out, h2])
          have HO5 := Lib.hid h1
          clear h1 h2 hA hO
          go_wp2
          go_ret2
          exact makes_yes HO5.out hG.out (by rw [rlV_t HR.out, HXX.out]) HR.out
    · have HR := Lib.hid (show rlB s = false by rw [HBB.out, decide_eq_false hL]; rfl)
      generalize (pcs s).length = n at *
      go_wp2
      go_ret2
      exact makes_no _ _ _ HB2.out (rlV_f HR.out) HR.out
  · rw [hN] at hNe
    have HR := Lib.hid (rl_none hN)
    clear hN
    go_enter Tryd.func34, Tryd.ntmps34
    go_wp2
    go_ret2
    exact makes_yes HO.out HB0.out HR.out.2.2.1 HR.out.2.1
end Go.Proofs.YtlbhmjkghdhlpaaDoor
