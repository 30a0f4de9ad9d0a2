/-
  FnCircles: PhasorOf and TenthsOf at what the law hands on.
-/
import Derived.Test.YtakaocddhaepmaaCircB
namespace Go.Proofs.Ytakaocddhaepmaa
open Ieee Go.RowKit

theorem Phasor_at {n : Nat} (hn : n < 512) {r : Nat} (hr : cn .f64 r = fop .quo .f64 (cn .f64 (floatOfInt .f64 ((n : Int) - 256))) (some 4634204016564240384)) (w : World) :
    Calls Try.prog 6 #[.float .f64 r] w fun e w' => ∃ m, e = .returned (.complex .f32 (PX (n % 64)) (PY (n % 64))) ∧ w' = w.drewN m := by
  obtain ⟨t1, t2⟩ := tabN hn hr
  refine (PhasorOf_any r w).mono ?_
  rintro e w' ⟨re, im, m, rfl, rfl, h1, h2⟩
  rw [t1] at h1
  rw [t2] at h2
  obtain rfl := (cn_some h1).1
  obtain rfl := (cn_some h2).1
  exact ⟨m, rfl, rfl⟩
theorem chkK_norm {k : Nat} (c : chkK k = true) : 8388608 ≤ KB k ∧ KB k < 2139095040 := by
  unfold chkK at c
  simp only [stB_eq, Bool.and_eq_true] at c
  obtain ⟨_, c, _⟩ := c
  exact (upC_ok c).2
theorem Tenths_at {k : Nat} (c : chkK k = true) (w : World) : Calls Try.prog 15 #[.float .f32 (KB k)] w fun e w' => ∃ m, e = .returned (.tuple #[.int .i64 ((TT k : Int) - 182), .bool true]) ∧ w' = w.drewN m := by
  obtain ⟨h1, h2, h3⟩ := chkK_at c
  refine (TenthsOf_any (KB k) w).mono ?_
  rintro e w' ⟨m, rfl, rfl⟩
  rw [h1, h2, h3]
  exact ⟨m, rfl, rfl⟩
theorem chkU_at {m n : Nat} (hm : m < 200) (hn : n < 200) : chkU (m + 1) (n + 1) = true := by
  have key : ∀ a, chkUR a 50 = true → a ≤ m → m < a + 50 → chkU (m + 1) (n + 1) = true := by
    intro a ha h1 h2
    unfold chkUR at ha
    have := List.all_eq_true.1 ha (m - a) (List.mem_range.2 (by omega))
    have := List.all_eq_true.1 this n (List.mem_range.2 hn)
    rwa [show a + (m - a) + 1 = m + 1 by omega] at this
  by_cases h0 : m < 50
  · exact key 0 chkUR_0 (by omega) (by omega)
  by_cases h1 : m < 100
  · exact key 50 chkUR_50 (by omega) (by omega)
  by_cases h2 : m < 150
  · exact key 100 chkUR_100 (by omega) (by omega)
  · exact key 150 chkUR_150 (by omega) (by omega)
theorem tabU {m n : Nat} (hm : m < 200) (hn : n < 200) : TT (8 * (m + 1)) ≠ 0 ∧ TT (8 * (n + 1)) ≠ 0 ∧ TT ((m + 1) * (n + 1)) ≠ 0 ∧ TT (8 * (m + 1)) + TT (8 * (n + 1)) ≤ TT ((m + 1) * (n + 1)) + 183 ∧ TT ((m + 1) * (n + 1)) + 181 ≤ TT (8 * (m + 1)) + TT (8 * (n + 1)) ∧
    szS (KB (8 * (m + 1))) * szS (KB (8 * (n + 1))) = szS (KB ((m + 1) * (n + 1))) * 2 ^ 149 := by
  have c := chkU_at hm hn
  unfold chkU chkU3 at c
  simp only [stB_eq, Bool.and_eq_true] at c
  obtain ⟨⟨c1, c2, c3⟩, ⟨c4, c5⟩, c6⟩ := c
  have c1 := Nat.le_of_ble_eq_true c1
  have c2 := Nat.le_of_ble_eq_true c2
  have c3 := Nat.le_of_ble_eq_true c3
  have c4 : TT (8 * (m + 1)) + TT (8 * (n + 1)) ≤ TT ((m + 1) * (n + 1)) + 183 := Nat.le_of_ble_eq_true c4
  have c5 : TT ((m + 1) * (n + 1)) + 181 ≤ TT (8 * (m + 1)) + TT (8 * (n + 1)) := Nat.le_of_ble_eq_true c5
  exact ⟨Nat.ne_of_gt c1, Nat.ne_of_gt c2, Nat.ne_of_gt c3, c4, c5, Nat.eq_of_beq_eq_true c6⟩
theorem prod_le {m n : Nat} (hm : m < 200) (hn : n < 200) : 0 < (m + 1) * (n + 1) ∧ (m + 1) * (n + 1) ≤ 40000 := by
  refine ⟨Nat.mul_pos (by omega) (by omega), ?_⟩
  have := Nat.mul_le_mul (show m + 1 ≤ 200 by omega) (show n + 1 ≤ 200 by omega)
  omega
theorem sz_S {b : Nat} (h1 : 8388608 ≤ b) (h2 : b < 2139095040) : sz .f32 b = szS b := by
  obtain ⟨r1, _⟩ := rg_self32 (b := b) (by omega)
  unfold sz mg
  rw [r1, S_bin, if_neg (by omega)]
  rfl
/-- The product of two eighths. -/
theorem prod_at {m n : Nat} (hm : m < 200) (hn : n < 200) : fop .mul .f32 (some (KB (8 * (m + 1)))) (some (KB (8 * (n + 1)))) = some (KB ((m + 1) * (n + 1))) := by
  obtain ⟨t1, t2, t3, _, _, he⟩ := tabU hm hn
  obtain ⟨q1, q2⟩ := prod_le hm hn
  obtain ⟨a1, a2⟩ := chkK_norm (chkK_all (by omega) (by omega) t1)
  obtain ⟨b1, b2⟩ := chkK_norm (chkK_all (by omega) (by omega) t2)
  obtain ⟨c1, c2⟩ := chkK_norm (chkK_all q1 q2 t3)
  have za := sz_S a1 a2
  have zb := sz_S b1 b2
  have zc := sz_S c1 c2
  generalize KB (8 * (m + 1)) = a at *
  generalize KB (8 * (n + 1)) = b at *
  generalize KB ((m + 1) * (n + 1)) = c at *
  obtain ⟨ra, sa⟩ := rg_self32 (b := a) (by omega)
  obtain ⟨rb, sb⟩ := rg_self32 (b := b) (by omega)
  obtain ⟨rc, sc⟩ := rg_self32 (b := c) (by omega)
  have fa : fin .f32 a := by unfold fin; rw [ra, S_inf]; omega
  have fb : fin .f32 b := by unfold fin; rw [rb, S_inf]; omega
  have hL : LP .f32 = -149 := by unfold LP; exact S_lp
  obtain ⟨r, hr, hs, h1, h2⟩ := mul_mono fa fb (by rw [hL]; decide)
  have hmg : mg FloatKind.f32.format c = szS c := by
    have : sz .f32 c = mg FloatKind.f32.format (rg .f32 c) := rfl
    rw [rc] at this
    rw [← this]; exact zc
  have hp : (-LP .f32).toNat = 149 := by rw [hL]; rfl
  have e1 := h1 c (by rw [S_inf]; omega) (by rw [hmg, hp, za, zb, he]; exact Nat.le_refl _)
  have e2 := h2 c (by rw [hmg, hp, za, zb, he]; exact Nat.le_refl _)
  rw [fop_some, hr]
  have hlt : r < 4294967296 := by
    have := fop_lt (op := .mul) (k := .f32) (x := some a) (y := some b) (b := r) (by rw [fop_some, hr])
    exact this
  have w1 := word_split32 hlt
  rw [hs, sa, sb] at w1
  simp at w1
  congr 1; omega
theorem tabX {i : Nat} (h : i < 200) : fop .quo .f32 (cn .f32 (floatOfInt .f32 ((i : Int) + 1))) (some 1090519040) = some (KB (8 * (i + 1))) := by
  have c := List.all_eq_true.1 chkX_all i (List.mem_range.2 h)
  unfold chkX at c
  rw [Bool.and_eq_true, beq_iff_eq] at c
  rw [num32_cn c.2]; exact c.1
theorem Phasor_at2 {n s : Nat} (hn : n < 512) (hs : n % 64 = s) {r : Nat} {z : Int} (hz : z = (n : Int) - 256) (hr : cn .f64 r = fop .quo .f64 (cn .f64 (floatOfInt .f64 z)) (cn .f64 4634204016564240384)) (w : World) :
    Calls Try.prog 6 #[.float .f64 r] w fun e w' => ∃ m, e = .returned (.complex .f32 (PX s) (PY s)) ∧ w' = w.drewN m := by
  subst hs; subst hz
  exact Phasor_at hn (by rw [hr, show cn .f64 4634204016564240384 = some 4634204016564240384 from cn_num (by decide)]) w
theorem t16 : ∀ i : Fin 256, ((((i.val : Int) - 128).tmod 16 == 0) = decide (i.val % 16 = 0)) := by decide +kernel
theorem TT_lt (k : Nat) : TT k < 512 := by unfold TT; exact Nat.mod_lt _ (by decide)
theorem Tenths_one (w : World) : Calls Try.prog 15 #[.float .f32 1065353216] w fun e w' => ∃ m, e = .returned (.tuple #[.int .i64 0, .bool true]) ∧ w' = w.drewN m := by
  have := Tenths_at (chkK_all (k := 64) (by decide) (by decide) (by rw [one_64.2]; decide)) w
  rw [one_64.1, one_64.2] at this
  exact this
end Go.Proofs.Ytakaocddhaepmaa
