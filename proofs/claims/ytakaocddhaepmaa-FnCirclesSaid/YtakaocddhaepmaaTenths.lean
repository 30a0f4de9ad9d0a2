/-
  Contracts of math.Floor, TenthsOf and its twin.
-/
import Derived.Test.YtakaocddhaepmaaTen0
import Derived.Test.YtakaocddhaepmaaFlo
namespace Go.Proofs.Ytakaocddhaepmaa
open Go.RowKit

theorem call_floor (b : Nat) (hb : fin .f64 b) (w : World) : (callFunc 38 #[.float .f64 b]).run Try.prog w = .ok (.value (.float .f64 (flo b))) w := by
  rw [run_callFunc_extern (e := Extern.MathFloor.toIntegral Try.f38.name .down) Try.func38 (by kernel_rfl) (by kernel_rfl) (by kernel_rfl) (by kernel_rfl)]
  obtain ⟨m, e, hr, _, _⟩ := read_fin64 hb
  have hd : FloatKind.f64.decode b = .number (sg .f64 b) m e := hr
  change ((match FloatKind.f64.decode b with
    | .nan _ _ => _
    | d => pure (.float .f64 (FloatKind.f64.encode (d.integral .down))) : Sem Value).run _ w).andThen _ = _
  rw [hd]
  unfold flo
  rw [hd]
  rfl
set_option maxHeartbeats 400000 in
theorem Floor_any (b : Nat) (hb : fin .f64 b) (w : World) : Calls Try.prog 29 #[.float .f64 b] w fun e w' => e = .returned (.float .f64 (flo b)) ∧ w = w' := by
  have hf := call_floor b hb
  go_enter Try.func29, Try.ntmps29
  go_wp2
  go_ret
  exact ⟨rfl, rfl⟩
theorem retT {v v' : Int} {b b' : Bool} (h1 : v = v') (h2 : b = b') : Ending.returned (.tuple #[.int .i64 v, .bool b]) = .returned (.tuple #[.int .i64 v', .bool b']) := by rw [h1, h2]
@[irreducible] def tnB (x : Option Nat) : Bool := isFin .f32 x && !(ford .f32 x (some 0) == some Ordering.lt || ford .f32 x (some 0) == some Ordering.eq)
@[irreducible] def tnC (x : Option Nat) : Option Nat := fop .add .f64 (fop .mul .f64 (lgN x) (some 4631308968768463603)) (some 4602678819172646912)
@[irreducible] def tnV (x : Option Nat) : Int := if tnB x then ((tnC (cvF .f32 .f64 x)).bind fun t => floatToIntVal .f64 (flo t) .i64).getD 0 else 0
theorem tnV_f {x : Option Nat} (h : tnB x = false) : tnV x = 0 := by unfold tnV; simp [h]
theorem tnB_t {b : Nat} (h : tnB (cn .f32 b) = true) : ∃ y t v, cvF .f32 .f64 (cn .f32 b) = some y ∧ ps (some y) (-150) ∧ le2 (some y) 128 ∧ tnC (some y) = some t ∧ fin .f64 t ∧ floatToIntVal .f64 (flo t) .i64 = some v ∧ tnV (cn .f32 b) = v := by
  have hB := h
  unfold tnB at h
  rw [Bool.and_eq_true] at h
  obtain ⟨h1, h2⟩ := h
  rcases cn_own .f32 b with ha | ha
  · rw [ha, isFin_none] at h1; cases h1
  · rw [ha] at h1 h2 hB ⊢
    have hle := cn_rg ha
    rw [isFin_some ha] at h1
    rw [lt_zero hle, eq_zero hle] at h2
    have hfb : rg .f32 b < FloatKind.f32.format.infRung := by simpa using h1
    have h0 : ¬ rg .f32 b = 0 := by intro e; rw [e] at h2; simp at h2
    have hs : sg .f32 b = false := by
      cases hs : sg .f32 b
      · rfl
      · rw [hs] at h2
        have : 0 < rg .f32 b := by omega
        simp [this] at h2
    obtain ⟨y, hy, hys, hyz⟩ := up_word ha
    have hk := okL_up b
    rw [ha, hy] at hk
    unfold okL at hk
    obtain ⟨_, k2⟩ := hk y rfl
    have y0 : 0 < rg .f64 y := by
      have : ¬ rg .f64 y = 0 := fun e => h0 (hyz.1 e)
      omega
    have hyf : rg .f64 y < FloatKind.f64.format.infRung := by
      obtain ⟨r, hr, fr, _⟩ := up_fin (b := b) hfb
      rw [hy] at hr; cases hr; exact fr
    obtain ⟨p1, p2⟩ := k2 (by rw [hys]; exact hs) y0 hyf
    have h3 : sl (tnC (some y)) 22 := by
      unfold tnC
      exact sl_add (p := 21) (sl_mul (q := 6) (lgN_sl p1 p2) (sl_c (by decide)) (inP_of' (by omega) (by omega)) (inP_of' (by omega) (by omega)) (inP_of' (by omega) (by omega))) (sl_c (by decide)) (inP_of' (by omega) (by omega)) (inP_of' (by omega) (by omega))
    unfold sl at h3
    obtain ⟨t, ht, hrt⟩ := h3
    obtain ⟨hft, v, hv⟩ := sl_int (Nat.le_trans hrt (RD_mono (show (22 : Int) ≤ 30 by omega)))
    refine ⟨y, t, v, hy, p1, p2, ht, hft, hv, ?_⟩
    unfold tnV
    rw [if_pos hB, hy, ht]
    simp [hv]
theorem d_43 : cn .f64 4631308968768463603 = some 4631308968768463603 := cn_num (by decide)
theorem d_half : cn .f64 4602678819172646912 = some 4602678819172646912 := cn_num (by decide)
set_option maxHeartbeats 1000000 in
theorem TenthsOf_any (b : Nat) (w : World) : Calls Try.prog 15 #[.float .f32 b] w fun e w' => ∃ n, e = .returned (.tuple #[.int .i64 (tnV (cn .f32 b)), .bool (tnB (cn .f32 b))]) ∧ w' = w.drewN n := by
  have ho := fun a b => order_cn .f32 a b
  have c0 : cn .f32 0 = some 0 := cn_num (by decide)
  rcases hB : tnB (cn .f32 b)
  · have HV := Lib.hid (tnV_f hB)
    unfold tnB at hB
    rcases hf : isFin .f32 (cn .f32 b)
    · clear hB
      go_enter Try.func15, Try.ntmps15
      go_wp2_with (go_at_call 28; refine (IsFinite_any _ _).mono ?_; rintro e w' ⟨n, rfl, rfl⟩)
      go_ret2
      exact ⟨_, retT HV.out.symm rfl, rfl⟩
    · rw [hf] at hB
      simp only [Bool.true_and, Bool.not_eq_false'] at hB
      go_enter Try.func15, Try.ntmps15
      go_wp2_with (go_at_call 28; refine (IsFinite_any _ _).mono ?_; rintro e w' ⟨n, rfl, rfl⟩)
      go_ret2
      exact ⟨_, retT HV.out.symm rfl, rfl⟩
  · obtain ⟨y, t, v, hy, p1, p2, ht, hft, hv, hV⟩ := tnB_t hB
    have HY := Lib.hid hy
    have P1 := Lib.hid p1
    have P2 := Lib.hid p2
    have HT := Lib.hid ht
    have HF := Lib.hid hft
    have HV := Lib.hid hV
    have HC : Hid (tnC (some y) = fop .add .f64 (fop .mul .f64 (lgN (some y)) (some 4631308968768463603)) (some 4602678819172646912)) := Lib.hid (by unfold tnC; rfl)
    have r3 := fun w => run_convert_float_int (P := Try.prog) w 22 2 .f64 .i64 _ _ (by rw [Try.underlying22]; rfl) Try.underlying2 hv
    unfold tnB at hB
    rw [Bool.and_eq_true, Bool.not_eq_true'] at hB
    obtain ⟨hf, hz⟩ := hB
    have c1 := d_43
    have c2 := d_half
    clear hy p1 p2 ht hft hV hv
    go_enter Try.func15, Try.ntmps15
    go_wp2_with (first
      | (go_at_call 28; refine (IsFinite_any _ _).mono ?_; rintro e w' ⟨n, rfl, rfl⟩)
      | (refine wpList_up rfl _ _ _ rfl _ rfl Try.underlying31 Try.underlying22 ?_; intro r n hr hrb; rw [HY.out] at hr)
      | (go_at_call 30; refine (naturalLog_any _ _ (by rw [hr]; exact P1.out) (by rw [hr]; exact P2.out)).mono ?_; rintro e w' ⟨q, n, rfl, rfl, hq, _⟩; rw [hr] at hq)
      | (go_at_call 29; obtain rfl := (cn_some (show cn .f64 r2 = some t by rw [← HT.out, HC.out]; simp only [*])).1; refine (Floor_any _ HF.out _).mono ?_; rintro e w' ⟨rfl, rfl⟩)
      | (refine wpList_fop rfl _ _ _ _ _ rfl (by decide) _ _ _ rfl rfl ?_; intro r2 n hr2 hrb2))
    go_ret2
    exact ⟨_, retT HV.out.symm rfl, rfl⟩
end Go.Proofs.Ytakaocddhaepmaa
