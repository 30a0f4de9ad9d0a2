/-
  Contracts of the laws' helpers b10Long, b10At, b10Gap.
-/
import Derived.Test.YtlcmldgjkpjjfaaList
import Derived.Test.YtlcmldgjkpjjfaaPowC
namespace Go.Proofs.Ytlcmldgjkpjjfaa
open Go.RowKit

section
open Go.ChangeShapes Go.WideShapes
theorem row_len {H : Type} {enc : TypeId × Value → H} {P : Program} {w : World} {base : Nat} {spare : Nat → Bool} {held : Bool} {t e : TypeId} {k : IntKind} {A : Option Addr} {n c : Nat} {d : DataW H} {ps : List MemPlace}
    (ht : P.underlying t = some (.slice e)) (he : P.underlying e = some (.int k)) (hc : P.cellsOf e = 1) (h : DataW.Trod enc P w base spare held t (.slice A n c) d ps) : n ≤ maxLen := by
  obtain ⟨fuel, hf⟩ := h
  rcases open_ints ht he hc hf with ⟨hcs, _⟩ | ⟨x, l, c', zs, hcs, _, hl, hm, _⟩
  · simp [Value.cells] at hcs
    obtain ⟨rfl, rfl, rfl⟩ := hcs
    exact Nat.zero_le _
  · simp [Value.cells] at hcs
    obtain ⟨rfl, rfl, rfl⟩ := hcs
    omega
end
set_option maxHeartbeats 400000 in
theorem b10Long_any (A A' : Option Addr) (n c n' c' : Nat) (w : World) (hn : n ≤ maxLen) (hn' : n' ≤ maxLen) :
    Calls Try.prog 24 #[.slice A n c, .slice A' n' c'] w fun e w' => e = .returned (.bool (decide (1048576 < n ∨ 1048576 < n'))) ∧ w = w' := by
  unfold maxLen at hn hn'
  by_cases h1 : 1048576 < n
  · go_enter Try.func24, Try.ntmps24
    go_wp2
    go_ret
    exact ⟨retB (by first | rfl | (rw [Bool.eq_iff_iff]; first | (simp; done) | (simp; omega))), rfl⟩
  · by_cases h2 : 1048576 < n'
    · go_enter Try.func24, Try.ntmps24
      go_wp2
      go_ret
      exact ⟨retB (by first | rfl | (rw [Bool.eq_iff_iff]; first | (simp; done) | (simp; omega))), rfl⟩
    · go_enter Try.func24, Try.ntmps24
      go_wp2
      go_ret
      exact ⟨retB (by first | rfl | (rw [Bool.eq_iff_iff]; first | (simp; done) | (simp; omega))), rfl⟩
set_option maxHeartbeats 800000 in
theorem b10At_any (A : Option Addr) (n c B i m : Nat) (zs : List Int) (w : World) (h : Lies w B A n (zs.map (Value.int .u8))) (hz : ∀ z ∈ zs, (Lit.int .u8 z).wf = true) (_hn : n ≤ 1048576) (hi : i ≤ 1000) (hm1 : 1 < m) (hm2 : m ≤ 1000) :
    Calls Try.prog 25 #[.slice A n c, .int .i64 i, .int .i64 m] w fun e w' => ∃ r : Nat, e = .returned (.int .i64 (r : Int)) ∧ r < m ∧ w = w' := by
  have hzl : zs.length = n := by have := h.1; simpa using this
  by_cases hin : i < n
  · obtain ⟨ad, rfl, hab, hc⟩ := h.at_ hin
    rw [ints_getD .u8 zs (by omega)] at hc
    have hw := hz (zs.getD i 0) (by simp [List.getD, show i < zs.length by omega])
    obtain ⟨q, HQ⟩ : ∃ q, Hid (zs.getD i 0 = q) := ⟨_, Lib.hid rfl⟩
    rw [HQ.out] at hc hw
    simp [Lit.wf, IntKind.min, IntKind.max, IntKind.signed, IntKind.bits] at hw
    obtain ⟨z, rfl⟩ : ∃ z : Nat, q = z := ⟨q.toNat, by omega⟩
    have hz255 : z ≤ 255 := by omega
    clear hw hzl hz
    go_enter Try.func25, Try.ntmps25
    go_wp2
    go_ret
    exact ⟨z % m, ret1 (by simp), Nat.mod_lt _ (by omega), rfl⟩
  · clear hzl hz
    go_enter Try.func25, Try.ntmps25
    go_wp2
    go_ret
    exact ⟨(i * 37 + 11) % m, ret1 (by simp), Nat.mod_lt _ (by omega), rfl⟩
set_option maxHeartbeats 400000 in
theorem b10Gap_any (a b : Nat) (w : World) : Calls Try.prog 26 #[.float .f64 a, .float .f64 b] w fun e w' => ∃ r n, e = .returned (.float .f64 r) ∧ w' = w.drewN n ∧ cn .f64 r = gapC (cn .f64 a) (cn .f64 b) := by
  have ho := fun a b => order_cn .f64 a b
  have HG : Hid (gapC (cn .f64 a) (cn .f64 b) = if ford .f64 (cn .f64 a) (cn .f64 b) == some .lt then fop .sub .f64 (cn .f64 b) (cn .f64 a) else fop .sub .f64 (cn .f64 a) (cn .f64 b)) := Lib.hid (by unfold gapC; rfl)
  rcases hl : (ford .f64 (cn .f64 a) (cn .f64 b) == some Ordering.lt)
  all_goals
    rw [hl] at HG
    go_enter Try.func26, Try.ntmps26
    go_wp2_with (refine wpList_fop rfl _ _ _ _ _ rfl (by decide) _ _ _ rfl rfl ?_; intro r n hr hrb; have HR := Lib.hid hr; clear hr)
    go_ret
    first | exact ⟨_, _, rfl, rfl, by rw [HG.out, HR.out]; rfl⟩ | exact ⟨_, rfl, ⟨_, rfl⟩, by rw [HG.out, HR.out]; rfl⟩
/-! ### At the tables -/
theorem exp_at {s : Nat} (h : s < 129) (w : World) : Calls Try.prog 11 #[.float .f32 (XS s)] w fun e w' => ∃ n, e = .returned (.float .f32 (ES s)) ∧ w' = w.drewN n := by
  obtain ⟨e1, e2, e3, e4, e5, e6, e7, e8⟩ := tabE h
  have hf : fits .f64 .f32 (exW (cvF .f32 .f64 (cn .f32 (XS s)))) := by rw [e6]; unfold fits; exact .inr (by rw [e1]; rfl)
  refine (ExpNumber_small (XS s) w (by rw [e6]; exact e4) (by rw [e6]; exact e5) hf).mono ?_
  rintro e w' ⟨r, n, rfl, rfl, hr⟩
  rw [e6, e1] at hr
  obtain rfl := (cn_some hr).1
  exact ⟨n, rfl, rfl⟩
theorem exp_zero (w : World) : Calls Try.prog 11 #[.float .f32 0] w fun e w' => ∃ n, e = .returned (.float .f32 1065353216) ∧ w' = w.drewN n := by
  have := exp_at (s := 64) (by decide) w
  rw [tab64.1, tab64.2] at this
  exact this
theorem log_at_one (w : World) : Calls Try.prog 16 #[.float .f32 1065353216] w fun e w' => ∃ n, e = .returned (.float .f32 0) ∧ w' = w.drewN n := by
  refine (LogNumber_any 1065353216 w (by decide)).mono ?_
  rintro e w' ⟨r, n, rfl, rfl, hr⟩
  rw [show cn .f32 1065353216 = some 1065353216 from cn_num (by decide), log_one] at hr
  obtain rfl := (cn_some hr).1
  exact ⟨n, rfl, rfl⟩
theorem ES_lt (s : Nat) : ES s < 4294967296 := by unfold ES; exact Nat.mod_lt _ (by decide)
end Go.Proofs.Ytlcmldgjkpjjfaa
