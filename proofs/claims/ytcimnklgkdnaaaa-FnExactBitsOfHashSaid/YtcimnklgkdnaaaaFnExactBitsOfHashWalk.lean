/- The walk of the law FnExactBitsOfHash: it returns true, for all arguments. -/
import Derived.Test.YtcimnklgkdnaaaaBits
namespace Go.Proofs.Ytcimnklgkdnaaaa.fnExactBitsOfHash
open Go.RowKit
set_option maxHeartbeats 2000000 in
set_option maxRecDepth 100000 in
theorem walk (k s m0 : Int) (w : World) (_wk : (Lit.int .i64 k).wf = true) (_ws : (Lit.int .i64 s).wf = true) (_wm : (Lit.int .i64 m0).wf = true) :
    Calls Try.prog 10 #[.int .i64 k, .int .i64 s, .int .i64 m0] w fun e w' => e = .returned (.bool true) ∧ Below w.heap.size w w' := by
  have hyl : (btV k s m0).length ≤ 1048576 := Nat.le_trans (btV_len k s m0) (by decide)
  have HS := Lib.hid (fun W => sBitsOfHash_any k s m0 W)
  have HI := Lib.hid (fun W => BitsOfHash_any k s m0 W)
  generalize btB k s m0 = bb at *
  generalize btV k s m0 = ys at *
  go_enter Try.func10, Try.ntmps10
  go_wp2_with fail
  refine (HS.out _).mono ?_
  rintro e w2 ⟨A0, c0, rfl, own0, b2⟩
  have lt0 := fun k hk => (own0.lt k hk).2
  go_wp2_with fail
  refine (HI.out _).mono ?_
  rintro e w4 ⟨Ag, cg, rfl, owng, bb4⟩
  have b4 := b2.trans (bb4.mono b2.size)
  have own0 := own_below own0 bb4
  go_wp2_with fail
  refine (eqB_any _ _ _ _ _ _ _ _ _ _ _ (Lies.of_own owng) (Lies.of_own own0) hyl hyl).mono ?_
  rintro e w' ⟨m, rfl, rfl⟩
  simp only [decide_true]
  have b4 := below_dn b4 m
  have own0 := own_dn own0 m
  have owng := own_dn owng m
  generalize w4.drewN m = w5 at *
  go_wp2_with fail
  refine (markB_any _ _ _ _ 1 _ _ owng hyl (by decide)).mono ?_
  rintro e w10 ⟨rfl, owng10, hg10⟩
  have own0 := own0.kept hg10 (own_apart lt0 owng)
  have b10 := b4.grown hg10 b4.size (fun k hk => by have := (owng.lt k hk).1; have := b2.size; omega)
  clear owng hg10
  go_wp2_with fail
  refine (heldB_any _ _ _ _ 1 _ (Lies.of_own owng10) hyl (by decide)).mono ?_
  rintro e w' ⟨m, rfl, rfl⟩
  have b10 := below_dn b10 m
  have own0 := own_dn own0 m
  have owng10 := own_dn owng10 m
  generalize w10.drewN m = w11 at *
  go_wp2_with fail
  refine (HI.out _).mono ?_
  rintro e w13 ⟨Ah, ch, rfl, ownh, bb13⟩
  have b13 := b10.trans (bb13.mono b10.size)
  have own0 := own_below own0 bb13
  have owng10 := own_below owng10 bb13
  go_wp2_with fail
  refine (eqB_any _ _ _ _ _ _ _ _ _ _ _ (Lies.of_own ownh) (Lies.of_own own0) hyl hyl).mono ?_
  rintro e w' ⟨m, rfl, rfl⟩
  simp only [decide_true]
  have b13 := below_dn b13 m
  have owng10 := own_dn owng10 m
  generalize w13.drewN m = w14 at *
  go_wp2_with fail
  refine (heldB_any _ _ _ _ 1 _ (Lies.of_own owng10) hyl (by decide)).mono ?_
  rintro e w' ⟨m, rfl, rfl⟩
  have b13 := below_dn b13 m
  go_wp2
  go_ret
  exact ⟨rfl, b13⟩
end Go.Proofs.Ytcimnklgkdnaaaa.fnExactBitsOfHash
