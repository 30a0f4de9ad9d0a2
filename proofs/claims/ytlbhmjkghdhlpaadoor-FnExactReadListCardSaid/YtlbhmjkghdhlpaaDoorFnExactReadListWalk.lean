/- The walk of the law FnExactReadList: it returns true, for all arguments, where the listed variables hold what is listed. -/
import Derived.Test.YtlbhmjkghdhlpaaDoorRList2
namespace Go.Proofs.YtlbhmjkghdhlpaaDoor.fnExactReadList
open Go.RowKit Go.Lib
set_option maxHeartbeats 2000000 in
set_option maxRecDepth 100000 in
theorem walk (s : ByteArray) (w : World) (_ws : s.size ≤ maxLen) (hL : laidMet Tryd.prog Rows.fnExactReadListRow.laid w) (hM : MaxT w) :
    Calls Tryd.prog 7 #[.string s] w fun e w' => e = .returned (.bool true) ∧ Below w.heap.size w w' := by
  have HT := Lib.hid (show PowT w from pow_of hL.tail.tail)
  have HE := Lib.hid (show ErrT w from ⟨errS_of hL.tail.tail.tail.tail.tail, errR_of hL.tail.tail.tail.tail⟩)
  have HM := Lib.hid hM
  clear hL hM
  by_cases hs : s.size ≤ 1048576
  · obtain ⟨ys, hys⟩ := rlV_ints s
    have hyl : ys.length ≤ 1048576 := by have := rlV_le s; rw [hys] at this; simpa using this
    have HS : Hid (∀ (W : World), Calls Tryd.prog 18 #[.string s] W (MakesB W 2 ys.length (ys.map (Value.int .i64)) (rlB s))) := Lib.hid (by
      intro W
      have := sReadList_any s W hs
      rw [hys] at this; simpa using this)
    have HI : Hid (∀ (W : World), MaxT W → PowT W → ErrT W → Calls Tryd.prog 19 #[.string s] W (MakesB W 2 ys.length (ys.map (Value.int .i64)) (rlB s))) := Lib.hid (by
      intro W h1 h2 h3
      have := ReadList_any s W hs h1 h2 h3
      rw [hys] at this; simpa using this)
    clear hys
    generalize rlB s = bb at *
    go_enter Tryd.func7, Tryd.ntmps7
    go_wp2_with fail
    refine (HS.out _).mono ?_
    rintro e w2 ⟨A0, c0, rfl, own0, b2⟩
    have lt0 := fun k hk => (own0.lt k hk).2
    have HT2 := Lib.hid (HT.out.below b2)
    have HE2 := Lib.hid (HE.out.below b2)
    have HM2 := Lib.hid (HM.out.below b2)
    go_wp2_with fail
    refine (HI.out _ HM2.out HT2.out HE2.out).mono ?_
    rintro e w4 ⟨Ag, cg, rfl, owng, bb4⟩
    have b4 := b2.trans (bb4.mono b2.size)
    have own0 := own_below own0 bb4
    go_wp2_with fail
    refine (eqS_any _ _ _ _ _ _ _ _ _ _ _ (Lies.of_own owng) (Lies.of_own own0) hyl hyl).mono ?_
    rintro e w' ⟨m, rfl, rfl⟩
    simp only [decide_true]
    have b4 := below_dn b4 m
    have own0 := own_dn own0 m
    have owng := own_dn owng m
    generalize w4.drewN m = w5 at *
    go_wp2_with fail
    refine (markS_any _ _ _ _ 1 _ _ owng hyl (by decide)).mono ?_
    rintro e w8 ⟨rfl, owng8, hg8⟩
    have own0 := own0.kept hg8 (own_apart lt0 owng)
    have b8 := b4.grown hg8 b4.size (fun k hk => by have := (owng.lt k hk).1; have := b2.size; omega)
    clear owng hg8
    go_wp2_with fail
    refine (heldS_any _ _ _ _ 1 _ (Lies.of_own owng8) hyl (by decide)).mono ?_
    rintro e w' ⟨m, rfl, rfl⟩
    have b8 := below_dn b8 m
    have own0 := own_dn own0 m
    have owng8 := own_dn owng8 m
    generalize w8.drewN m = w9 at *
    have HT9 := Lib.hid (HT.out.below b8)
    have HE9 := Lib.hid (HE.out.below b8)
    have HM9 := Lib.hid (HM.out.below b8)
    go_wp2_with fail
    refine (HI.out _ HM9.out HT9.out HE9.out).mono ?_
    rintro e w13 ⟨Ah, ch, rfl, ownh, bb13⟩
    have b13 := b8.trans (bb13.mono b8.size)
    have own0 := own_below own0 bb13
    have owng8 := own_below owng8 bb13
    go_wp2_with fail
    refine (eqS_any _ _ _ _ _ _ _ _ _ _ _ (Lies.of_own ownh) (Lies.of_own own0) hyl hyl).mono ?_
    rintro e w' ⟨m, rfl, rfl⟩
    simp only [decide_true]
    have b13 := below_dn b13 m
    have owng8 := own_dn owng8 m
    generalize w13.drewN m = w14 at *
    go_wp2_with fail
    refine (heldS_any _ _ _ _ 1 _ (Lies.of_own owng8) hyl (by decide)).mono ?_
    rintro e w' ⟨m, rfl, rfl⟩
    have b13 := below_dn b13 m
    go_wp2
    go_ret
    exact ⟨rfl, b13⟩
  · go_enter Tryd.func7, Tryd.ntmps7
    go_wp2
    go_ret
    exact ⟨rfl, Below.refl _ _⟩
end Go.Proofs.YtlbhmjkghdhlpaaDoor.fnExactReadList
