/- The walk of the law FnExactSpreadOfKeys: it returns true, for all arguments. -/
import Derived.Test.YtcimnklgkdnaaaaSpread
namespace Go.Proofs.Ytcimnklgkdnaaaa.fnExactSpreadOfKeys
open Go.RowKit
set_option maxHeartbeats 2000000 in
set_option maxRecDepth 100000 in
theorem walk (A : Option Addr) (n c : Nat) (zs : List Int) (s m0 : Int) (w : World) (h0 : Arg .i64 w A n zs) (_ws : (Lit.int .i64 s).wf = true) (_wm : (Lit.int .i64 m0).wf = true) :
    Calls Try.prog 7 #[.slice A n c, .int .i64 s, .int .i64 m0] w fun e w' => e = .returned (.bool true) ∧ Below w.heap.size w w' := by
  obtain ⟨h, _⟩ := h0
  by_cases hn : n ≤ 1048576
  · have hyl : (sprV zs s m0).length ≤ 1048576 := Nat.le_trans (sprV_len zs s m0) (by decide)
    have hS : ∀ (B : Nat) (A' : Option Addr) (c' : Nat) (W : World), Lies W W.heap.size A' n (zs.map (Value.int .i64)) → Calls Try.prog 23 #[.slice A' n c', .int .i64 s, .int .i64 m0] W (MakesB W 2 (sprV zs s m0).length ((sprV zs s m0).map (Value.int .i64)) (sprB zs s m0)) :=
      fun B A' c' W hW => sSpreadOfKeys_any A' n c' zs s m0 W hW hn
    have hI : ∀ (A' : Option Addr) (c' : Nat) (W : World), Lies W W.heap.size A' n (zs.map (Value.int .i64)) → Calls Try.prog 24 #[.slice A' n c', .int .i64 s, .int .i64 m0] W (MakesB W 2 (sprV zs s m0).length ((sprV zs s m0).map (Value.int .i64)) (sprB zs s m0)) :=
      fun A' c' W hW => SpreadOfKeys_any A' n c' zs s m0 W hW hn
    have HS := Lib.hid hS
    have HI := Lib.hid hI
    clear hS hI
    generalize sprB zs s m0 = bb at *
    generalize sprV zs s m0 = ys at *
    go_enter Try.func7, Try.ntmps7
    go_wp2_with fail
    refine (toS_any _ _ _ _ _ h hn).mono ?_
    rintro e w1 ⟨rfl, ho1, hg1⟩
    have b1 := below_of_grown hg1 (by simp)
    go_wp2_with fail
    refine (HS.out 0 _ _ _ (Lies.of_own ho1)).mono ?_
    rintro e w2 ⟨A0, c0, rfl, own0, bb2⟩
    have b2 := b1.trans (bb2.mono b1.size)
    have lt0 := fun k hk => (own0.lt k hk).2
    clear ho1 hg1
    go_wp2_with fail
    refine (toS_any _ _ _ _ _ ((h.below b2).more b2.size) hn).mono ?_
    rintro e w3 ⟨rfl, ownx, hg3⟩
    have bb3 := below_of_grown hg3 (by simp)
    have b3 := b2.trans (bb3.mono b2.size)
    have own0 := own_below own0 bb3
    have ltx : ∀ k, (Value.slice (some ⟨w2.heap.size, 0, none⟩) n n).ownBlock = some k → k < w3.heap.size := fun k hk => (ownx.lt k hk).2
    clear hg3
    go_wp2_with fail
    refine (HI.out _ _ _ (Lies.of_own ownx)).mono ?_
    rintro e w4 ⟨Ag, cg, rfl, owng, bb4⟩
    have b4 := b3.trans (bb4.mono b3.size)
    have own0 := own_below own0 bb4
    have ownx := own_below ownx bb4
    go_wp2_with fail
    refine (eqS_any _ _ _ _ _ _ _ _ _ _ _ (Lies.of_own owng) (Lies.of_own own0) hyl hyl).mono ?_
    rintro e w' ⟨m, rfl, rfl⟩
    simp only [decide_true]
    have b4 := below_dn b4 m
    have own0 := own_dn own0 m
    have ownx := own_dn ownx m
    have owng := own_dn owng m
    generalize w4.drewN m = w5 at *
    go_wp2_with fail
    refine (toS_any _ _ _ _ _ ((h.below b4).more b4.size) hn).mono ?_
    rintro e w6 ⟨rfl, ho6, hg6⟩
    have bb6 := below_of_grown hg6 (by simp)
    have b6 := b4.trans (bb6.mono b4.size)
    have own0 := own_below own0 bb6
    have ownx := own_below ownx bb6
    have owng := own_below owng bb6
    go_wp2_with fail
    refine (eqS_any _ _ _ _ _ _ _ _ _ _ _ (Lies.of_own ownx) (Lies.of_own ho6) hn hn).mono ?_
    rintro e w' ⟨m, rfl, rfl⟩
    simp only [decide_true]
    have b6 := below_dn b6 m
    have own0 := own_dn own0 m
    have ownx := own_dn ownx m
    have owng := own_dn owng m
    clear ho6 hg6
    generalize w6.drewN m = w7 at *
    go_wp2_with fail
    refine (markS_any _ _ _ _ 1 _ _ ownx hn (by decide)).mono ?_
    rintro e w8 ⟨rfl, ownx8, hg8⟩
    have own0 := own0.kept hg8 (own_apart lt0 ownx)
    have owng := owng.kept hg8 (own_apart2 ltx owng)
    have b8 := b6.grown hg8 b6.size (fun k hk => by have := (ownx.lt k hk).1; have := b2.size; omega)
    clear ownx8 ownx hg8
    go_wp2_with fail
    refine (eqS_any _ _ _ _ _ _ _ _ _ _ _ (Lies.of_own owng) (Lies.of_own own0) hyl hyl).mono ?_
    rintro e w' ⟨m, rfl, rfl⟩
    simp only [decide_true]
    have b8 := below_dn b8 m
    have own0 := own_dn own0 m
    have owng := own_dn owng m
    generalize w8.drewN m = w9 at *
    go_wp2_with fail
    refine (markS_any _ _ _ _ 1 _ _ owng hyl (by decide)).mono ?_
    rintro e w10 ⟨rfl, owng10, hg10⟩
    have own0 := own0.kept hg10 (own_apart (fun k hk => Nat.lt_of_lt_of_le (lt0 k hk) bb3.size) owng)
    have b10 := b8.grown hg10 b8.size (fun k hk => by have := (owng.lt k hk).1; have := b3.size; omega)
    clear owng hg10
    go_wp2_with fail
    refine (heldS_any _ _ _ _ 1 _ (Lies.of_own owng10) hyl (by decide)).mono ?_
    rintro e w' ⟨m, rfl, rfl⟩
    have b10 := below_dn b10 m
    have own0 := own_dn own0 m
    have owng10 := own_dn owng10 m
    generalize w10.drewN m = w11 at *
    go_wp2_with fail
    refine (toS_any _ _ _ _ _ ((h.below b10).more b10.size) hn).mono ?_
    rintro e w12 ⟨rfl, ho12, hg12⟩
    have bb12 := below_of_grown hg12 (by simp)
    have b12 := b10.trans (bb12.mono b10.size)
    have own0 := own_below own0 bb12
    have owng10 := own_below owng10 bb12
    go_wp2_with fail
    refine (HI.out _ _ _ (Lies.of_own ho12)).mono ?_
    rintro e w13 ⟨Ah, ch, rfl, ownh, bb13⟩
    have b13 := b12.trans (bb13.mono b12.size)
    have own0 := own_below own0 bb13
    have owng10 := own_below owng10 bb13
    clear ho12 hg12
    go_wp2_with fail
    refine (eqS_any _ _ _ _ _ _ _ _ _ _ _ (Lies.of_own ownh) (Lies.of_own own0) hyl hyl).mono ?_
    rintro e w' ⟨m, rfl, rfl⟩
    simp only [decide_true]
    have b13 := below_dn b13 m
    have owng10 := own_dn owng10 m
    generalize w13.drewN m = w14 at *
    go_wp2_with fail
    refine (heldS_any _ _ _ _ 1 _ (Lies.of_own owng10) hyl (by decide)).mono ?_
    rintro e w' ⟨m, rfl, rfl⟩
    have b13 := below_dn b13 m
    go_wp2
    go_ret
    exact ⟨rfl, b13⟩
  · go_enter Try.func7, Try.ntmps7
    go_wp2
    go_ret
    exact ⟨rfl, Below.refl _ _⟩
end Go.Proofs.Ytcimnklgkdnaaaa.fnExactSpreadOfKeys
