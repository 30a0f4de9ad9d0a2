/-
  Contracts of ReadList and its twin: the program's side.
-/
import Derived.Test.YtlbhmjkghdhlpaaDoorRList
namespace Go.Proofs.YtlbhmjkghdhlpaaDoor
open Go.RowKit Go.Lib

/-- The library's variable of a greatest length holds some number. -/
def MaxT (w : World) : Prop := ∃ m, w.cell? ⟨5, 0, none⟩ = some (.int .i64 m)
theorem MaxT.below {w w' : World} (h : MaxT w) (hb : Below w.heap.size w w') : MaxT w' := by
  obtain ⟨m, hm⟩ := h
  exact ⟨m, cell_below' hb hm⟩
theorem Split_any (s : ByteArray) (w : World) (hs : s.size ≤ 1048576) (hM : MaxT w) :
    Calls Tryd.prog 54 #[.string s, .string ⟨#[44]⟩] w (Makes w 9 (pcs s).length (strL (pcs s))) := by
  obtain ⟨m, hm⟩ := hM
  refine (Tryd.strings_Split s ⟨#[44]⟩ m w (by omega) hm (by decide)).mono ?_
  rintro e w' ⟨rfl, rfl⟩
  have hle := pcs_le s
  have e1 := pcs_split s
  have e2 := pcs_len s
  rw [← e2, e1]
  refine ⟨_, _, rfl, ?_, (Below.refl _ _).alloc (Nat.le_refl _) _⟩
  have := World.ownsRow_lit (base := w.heap.size) (e := 9) (size := 1) w ((pcs s).map Value.string).toArray (pcs s).length (Nat.le_refl _) (by unfold maxLen; omega) (by simp)
  unfold strL
  simpa using this
set_option maxHeartbeats 400000 in
theorem pieces_some (s : ByteArray) (w : World) (hs : s.size ≤ 1048576) (hM : MaxT w) (hN : rlN s = false) :
    Calls Tryd.prog 43 #[.string s] w (Makes w 9 (pcs s).length (strL (pcs s))) := by
  have hNe : (s.toList == [110, 111, 110, 101]) = false := by rw [← hN]; unfold rlN; rfl
  have HS := Lib.hid (Split_any s w hs hM)
  clear hN hM
  go_enter Tryd.func43, Tryd.ntmps43
  go_wp2_with (go_at_call 54; refine HS.out.mono ?_; rintro e w' ⟨A', c', rfl, ho, hb⟩)
  go_ret
  exact ⟨_, _, rfl, ho, hb⟩
set_option maxHeartbeats 400000 in
theorem pieces_none (s : ByteArray) (w : World) (hN : rlN s = true) :
    Calls Tryd.prog 43 #[.string s] w fun e w' => e = .returned (.slice none 0 0) ∧ w = w' := by
  have hNe : (s.toList == [110, 111, 110, 101]) = true := by rw [← hN]; unfold rlN; rfl
  clear hN
  go_enter Tryd.func43, Tryd.ntmps43
  go_wp2
  go_ret
  exact ⟨rfl, rfl⟩
theorem ErrT.more {w w' : World} (h : ErrT w) (hb : Below w.heap.size w w') : ErrT w' := h.below hb
set_option maxHeartbeats 2000000 in
set_option maxRecDepth 20000 in
theorem readList_any (s : ByteArray) (w : World) (hs : s.size ≤ 1048576) (hM : MaxT w) (hT : PowT w) (hE : ErrT w) (hsm : ∀ p ∈ pcs s, p.size ≤ 1048576) :
    Calls Tryd.prog 35 #[.string s] w (MakesB w 2 (rlW s).length (rlW s) (rlA s)) := by
  obtain ⟨i0, hi0, hz0, hz1, hz2⟩ := info_parts info64
  have HO := Lib.hid (own_lit w 2)
  have HB0 := Lib.hid ((Below.refl w.heap.size w).alloc (Nat.le_refl _) (.cells #[] 2))
  have HM := Lib.hid (hM.below HB0.out)
  have HT := Lib.hid hT
  have HE := Lib.hid hE
  have HSM := Lib.hid hsm
  clear hM hT hE hsm
  rcases hN : rlN s
  · have HBB := Lib.hid (rl_A hN)
    have HXX := Lib.hid (rl_X hN)
    have HPP := Lib.hid (pcs_pos s)
    have HLE := Lib.hid (pcs_le s)
    have HNN := Lib.hid hN
    clear hN
    go_enter Tryd.func35, Tryd.ntmps35
    go_wp2_with fail
    refine (pieces_some s _ hs HM.out HNN.out).mono ?_
    rintro e w2 ⟨A', c', rfl, own2, b2⟩
    obtain ⟨gp, rfl, hge, hlt2⟩ := own_addr own2 HPP.out
    have hsz0 : (w.alloc (.cells #[] 2)).heap.size = w.heap.size + 1 := by simp
    have HO2 := Lib.hid (own_below HO.out b2)
    have HB2 := Lib.hid (HB0.out.trans (b2.mono (by rw [hsz0]; omega)))
    have HC := Lib.hid (fun j => own2.cellAt j)
    have hfar : w.heap.size ≠ gp := by omega
    clear own2 b2 hge hsz0
    generalize hn : (pcs s).length = n at *
    have HL := Lib.hid hn
    clear hn
    go_wp2
    go_loopw [4, 13] (fun v i wr => ∃ k : Nat, k ≤ n ∧ i = .int .i64 k ∧ Hid (wr.ownsRow w.heap.size 2 1 v k (numL ((pcs s).take k))) ∧ Hid (v.ownBlock ≠ some gp) ∧ Hid (okAll ((pcs s).take k) = true) ∧ Hid (Below w.heap.size w wr) ∧ Hid (wr.heap[gp]? = w2.heap[gp]? ∧ gp < wr.heap.size)) (fun _ i _ => n - (Lib.intOf i).toNat)
    case atStart => exact ⟨0, Nat.zero_le _, rfl, Lib.hid (by rw [numL_zero]; exact HO2.out), Lib.hid (by rw [own_lit_block]; intro e; exact hfar (Option.some.inj e)), Lib.hid (okAll_zero _), HB2, Lib.hid ⟨rfl, hlt2⟩⟩
    case round =>
      clear HO HO2 HB0 HB2 HM
      obtain ⟨k, hk, rfl, hO, hF, hA, hG, hP⟩ := hrel
      by_cases hlt : k < n
      · have hkl : k < (pcs s).length := by rw [HL.out]; exact hlt
        have hc : wr.cell? ⟨gp, k, none⟩ = some (.string (gp_ (pcs s) k)) := by
          rw [cell_block hP.out.1, HC.out k (by omega)]; exact strL_get _ hkl
        have HS := Lib.hid (numL_snoc hkl)
        have HS2 := Lib.hid (okAll_snoc hkl)
        have HBad := Lib.hid (okAll_bad hkl)
        have HPS : Hid ((gp_ (pcs s) k).size ≤ 1048576) := Lib.hid (HSM.out _ (by unfold gp_; simp [List.getD, hkl]))
        have HT1 := Lib.hid (HT.out.below hG.out)
        have HE1 := Lib.hid (HE.out.below hG.out)
        have hk1 : k ≤ 1048576 := by have := HLE.out; omega
        clear hkl
        generalize gp_ (pcs s) k = p at *
        rcases hr : rdB p.data.toList
        · go_wp2_with (go_at_call 13; refine (ReadDecimal_any p _ HPS.out HT1.out HE1.out).mono ?_; rintro e w3 ⟨rfl, b3⟩; simp only [hr])
          go_ret2
          exact makes_no _ _ _ (hG.out.trans (b3.mono hG.out.size)) (rlW_f (by rw [HBB.out, HBad.out hr])) (by rw [HBB.out, HBad.out hr])
        · have HA2 : Hid (okAll ((pcs s).take (k + 1)) = true) := Lib.hid (by rw [HS2.out, hA.out, hr]; rfl)
          go_wp2_with (first
            | (go_at_call 13; refine (ReadDecimal_any p _ HPS.out HT1.out HE1.out).mono ?_; rintro e w3 ⟨rfl, b3⟩; simp only [hr]; have HO3 := Lib.hid (own_below hO.out b3); have HG3 := Lib.hid (hG.out.trans (b3.mono hG.out.size)); have HP3 := Lib.hid (And.intro ((b3.block gp hP.out.2).trans hP.out.1) (Nat.lt_of_lt_of_le hP.out.2 b3.size)); clear b3)
            | (at_builtin; refine wpList_snoc2 rfl _ _ 28 rfl w.heap.size 2 i0 (.int .i64 0) 8 Tryd.underlying28 hi0 hz0 hz1 hz2 rfl (by decide) u4 k _ rfl HO3.out _ rfl rfl hk1 HG3.out.size gp HP3.out.2 hF.out ?_; intro v' w4 ho4 hb4 hf4 hp4))
          have HO4 : Hid (w4.ownsRow w.heap.size 2 1 v' (k + 1) (numL ((pcs s).take (k + 1)))) := Lib.hid (by rw [HS.out]; exact ho4)
          have HB4 := Lib.hid (HG3.out.trans hb4)
          have HF4 := Lib.hid hf4
          have HP4 := Lib.hid (And.intro (hp4.trans HP3.out.1) (Nat.lt_of_lt_of_le HP3.out.2 hb4.size))
          clear ho4 hb4 hf4 hp4
          go_wp2
          go_roundw
          case rel => exact ⟨k + 1, by omega, by go_num, HO4, HF4, HA2, HB4, HP4⟩
          case measure => simp [Lib.intOf]; omega
      · obtain rfl : k = n := by omega
        have h1 := hO.out
        have h2 := hA.out
        rw [List.take_of_length_le (by rw [HL.out]; exact Nat.le_refl _)] at h1
        rw [okAll_full (by rw [HL.out]; exact Nat.le_refl _)] at h2
        have HR := Lib.hid (show rlA s = true by rw [HBB.out, h2])
        have HO5 := Lib.hid h1
        clear h1 h2 hA hO
        go_wp2
        go_ret2
        exact makes_yes HO5.out hG.out (by rw [rlW_t HR.out, HXX.out]) HR.out
  · have HR := Lib.hid (rl_none hN)
    have HNN := Lib.hid hN
    clear hN
    go_enter Tryd.func35, Tryd.ntmps35
    go_wp2_with fail
    refine (pieces_none s _ HNN.out).mono ?_
    rintro e w2 ⟨rfl, rfl⟩
    go_wp2
    refine wp_loop_rounds 1 ?_
    rw [rounds_succ]
    go_wp2
    go_ret2
    exact makes_yes HO.out HB0.out HR.out.2.2.2 HR.out.1
theorem piece_small {s p : ByteArray} (h : p ∈ pcs s) : p.size ≤ s.size := by
  rw [← pcs_split] at h
  have key : ∀ (k : Nat) (t : ByteArray), ∀ q ∈ splitB ⟨#[44]⟩ 0 k t, q.size ≤ t.size := by
    intro k
    induction k with
    | zero => intro t q hq; rw [splitB_zero, List.mem_singleton] at hq; rw [hq]; exact Nat.le_refl _
    | succ k ih =>
      intro t q hq
      unfold splitB at hq
      split at hq
      · rw [List.mem_singleton] at hq; rw [hq]; exact Nat.le_refl _
      · rw [List.mem_cons] at hq
        rcases hq with rfl | hq
        · rw [ByteArray.size_extract]; omega
        · have := ih _ q hq
          rw [ByteArray.size_extract] at this; omega
  exact key _ _ _ h
theorem rl_link {s : ByteArray} : (rlA s = true ∧ (rlW s).length ≤ 64 → rlB s = true ∧ rlV s = rlW s) ∧ (¬ (rlA s = true ∧ (rlW s).length ≤ 64) → rlB s = false) := by
  rcases hN : rlN s
  · have h1 := rl_A hN
    have h2 := rl_B hN
    have h3 := rl_X hN
    constructor
    · rintro ⟨ha, hl⟩
      have hw := rlW_t ha
      rw [hw, h3, numL_len] at hl
      have hb : rlB s = true := by rw [h2, decide_eq_true hl, ← h1, ha]; rfl
      exact ⟨hb, by rw [rlV_t hb, hw]⟩
    · intro hn
      rcases hb : rlB s
      · rfl
      · rw [h2, Bool.and_eq_true, decide_eq_true_eq] at hb
        have ha : rlA s = true := by rw [h1]; exact hb.2
        exact absurd ⟨ha, by rw [rlW_t ha, h3, numL_len]; exact hb.1⟩ hn
  · obtain ⟨a, b, c, d⟩ := rl_none hN
    exact ⟨fun _ => ⟨b, by rw [c, d]⟩, fun hn => absurd ⟨a, by rw [d]; exact Nat.zero_le _⟩ hn⟩
set_option maxHeartbeats 1000000 in
theorem ReadList_any (s : ByteArray) (w : World) (hs : s.size ≤ 1048576) (hM : MaxT w) (hT : PowT w) (hE : ErrT w) :
    Calls Tryd.prog 19 #[.string s] w (MakesB w 2 (rlV s).length (rlV s) (rlB s)) := by
  have HC := Lib.hid (readList_any s w hs hM hT hE (fun p hp => Nat.le_trans (piece_small hp) hs))
  have HL := Lib.hid (rl_link (s := s))
  clear hM hT hE
  rcases ha : rlA s
  · have HB := Lib.hid (HL.out.2 (fun h => by rw [ha] at h; cases h.1))
    rw [ha] at HC
    clear ha HL
    go_enter Tryd.func19, Tryd.ntmps19
    go_wp2_with (go_at_call 35; refine HC.out.mono ?_; rintro e w' ⟨A', c', rfl, ho, hb⟩)
    go_ret2
    exact makes_no _ _ _ hb (rlV_f HB.out) HB.out
  · rw [ha] at HC
    by_cases hl : (rlW s).length ≤ 64
    · have HB := Lib.hid (HL.out.1 ⟨ha, hl⟩)
      clear ha HL
      go_enter Tryd.func19, Tryd.ntmps19
      go_wp2_with (go_at_call 35; refine HC.out.mono ?_; rintro e w' ⟨A', c', rfl, ho, hb⟩)
      go_ret2
      exact makes_yes ho hb HB.out.2 HB.out.1
    · have HB := Lib.hid (HL.out.2 (fun h => hl h.2))
      clear ha HL
      go_enter Tryd.func19, Tryd.ntmps19
      go_wp2_with (go_at_call 35; refine HC.out.mono ?_; rintro e w' ⟨A', c', rfl, ho, hb⟩)
      go_ret2
      exact makes_no _ _ _ hb (rlV_f HB.out) HB.out
set_option maxHeartbeats 400000 in
theorem sReadList_any (s : ByteArray) (w : World) (hs : s.size ≤ 1048576) :
    Calls Tryd.prog 18 #[.string s] w (MakesB w 2 (rlV s).length (rlV s) (rlB s)) := by
  go_enter Tryd.func18, Tryd.ntmps18
  go_wp2_with (go_at_call 34; refine (l01Numbers_any s _ hs).mono ?_; rintro e w' ⟨A', c', rfl, ho, hb⟩)
  go_ret2
  exact ⟨_, _, rfl, ho, hb⟩
theorem rlV_ints (s : ByteArray) : ∃ ys : List Int, rlV s = ys.map (Value.int .i64) := by
  unfold rlV
  split
  · exact ⟨_, by unfold numL; rfl⟩
  · exact ⟨[], rfl⟩
theorem rlV_le (s : ByteArray) : (rlV s).length ≤ 1048576 := by
  rcases hb : rlB s
  · rw [rlV_f hb]; simp
  · rcases hN : rlN s
    · have h2 := rl_B hN
      rw [hb] at h2
      have := (Bool.and_eq_true _ _).mp h2.symm
      have hl := of_decide_eq_true this.1
      rw [rlV_t hb, rl_X hN, numL_len]; omega
    · rw [(rl_none hN).2.2.1]; simp
end Go.Proofs.YtlbhmjkghdhlpaaDoor
