/-
  Contracts of SumNumbers and DotNumbers and their twins; a list of float32 as an argument.
-/
import Derived.Test.YtcimnklgkdnaaaaFlist2
namespace Go.Proofs.Ytcimnklgkdnaaaa
open Go.RowKit

section
open Go.ChangeShapes Go.WideShapes
theorem float_cell {H : Type} {enc : TypeId × Value → H} {P : Program} {w : World} {base : Nat} {spare : Nat → Bool} {held : Bool} {e : TypeId} {k : FloatKind} {v : Value} {n : Nat} {z : DataW H × List MemPlace}
    (he : P.underlying e = some (.float k)) (h : DataW.trod enc P w base spare held n e [v] = some z) : ∃ b, v = .float k b ∧ (Lit.float k b).wf = true := by
  cases n with
  | zero => simp [DataW.trod] at h
  | succ n =>
    cases v <;> simp [DataW.trod, he] at h
    obtain ⟨⟨rfl, hw⟩, _⟩ := h
    exact ⟨_, rfl, hw⟩
theorem open_rowF {H : Type} {enc : TypeId × Value → H} {P : Program} {w : World} {base : Nat} {spare : Nat → Bool} {held : Bool} {t e : TypeId} {A : Option Addr} {n c : Nat} {d : DataW H} {ps : List MemPlace}
    (ht : P.underlying t = some (.slice e)) (he : P.underlying e = some (.float .f32)) (hc : P.cellsOf e = 1) (h : DataW.Trod enc P w base spare held t (.slice A n c) d ps) : ∃ zs, ArgF w A n zs := by
  obtain ⟨fuel, hf⟩ := h
  rcases Deep.open_slice1 ht hc hf with ⟨hcs, _⟩ | ⟨x, l, c', m, q, V, D, Pl, hcs, _, hl, hm, hmm, _, hcell⟩
  · simp [Value.cells] at hcs
    obtain ⟨rfl, rfl, rfl⟩ := hcs
    exact ⟨[], ⟨by simp, fun hn => absurd hn (by omega)⟩, by simp⟩
  · simp [Value.cells] at hcs
    obtain ⟨rfl, rfl, rfl⟩ := hcs
    have hle : n ≤ m := by rw [hmm]; split <;> omega
    have hall : ∀ i, i < n → ∃ b, V i = .float .f32 b ∧ (Lit.float .f32 b).wf = true := fun i hi => float_cell he (hcell i (by omega)).2
    obtain ⟨f, hF⟩ := Deep.choose_lt (α := Nat) hall
    refine ⟨(List.range n).map f, ⟨by simp, fun hn => ⟨x, rfl, ?_, fun j u hu => ?_⟩⟩, fun z hz => ?_⟩
    · have := World.block_lt_of_cell? w (x.add 0) (hcell 0 (by omega)).1
      rwa [addb] at this
    · have hj : j < n := by
        have := (List.getElem?_eq_some_iff.1 hu).1
        simpa using this
      rw [(hcell j (by omega)).1, (hF j hj).1, ← hu]
      simp [hj]
    · obtain ⟨i, hi, rfl⟩ := List.mem_map.1 hz
      exact (hF i (List.mem_range.1 hi)).2
end
@[irreducible] def fsB (zs : List Nat) : Bool := decide (zs.length ≤ 256)
@[irreducible] def fsV (zs : List Nat) : Option Nat := if fsB zs then fsm zs else some 0
theorem fsB_t {zs : List Nat} (h : zs.length ≤ 256) : fsB zs = true := by unfold fsB; exact decide_eq_true h
theorem fsB_f {zs : List Nat} (h : ¬ zs.length ≤ 256) : fsB zs = false := by unfold fsB; exact decide_eq_false h
theorem fsV_t {zs : List Nat} (h : fsB zs = true) : fsV zs = fsm zs := by unfold fsV; rw [if_pos h]
theorem fsV_f {zs : List Nat} (h : fsB zs = false) : fsV zs = some 0 := by unfold fsV; rw [if_neg (by rw [h]; decide)]
@[irreducible] def fdB (xs ys : List Nat) : Bool := decide (xs.length ≤ 256 ∧ xs.length = ys.length)
@[irreducible] def fdV (xs ys : List Nat) : Option Nat := if fdB xs ys then fdt xs ys xs.length else some 0
theorem fdB_t {xs ys : List Nat} (h : xs.length ≤ 256 ∧ xs.length = ys.length) : fdB xs ys = true := by unfold fdB; exact decide_eq_true h
theorem fdB_f {xs ys : List Nat} (h : ¬ (xs.length ≤ 256 ∧ xs.length = ys.length)) : fdB xs ys = false := by unfold fdB; exact decide_eq_false h
theorem fdV_t {xs ys : List Nat} (h : fdB xs ys = true) : fdV xs ys = fdt xs ys xs.length := by unfold fdV; rw [if_pos h]
theorem fdV_f {xs ys : List Nat} (h : fdB xs ys = false) : fdV xs ys = some 0 := by unfold fdV; rw [if_neg (by rw [h]; decide)]
theorem c0f : cn .f32 0 = some 0 := cn_num (by decide)
/-- A number up to the choice of a NaN, beside a truth value. -/
def MakesF (w : World) (x : Option Nat) (b : Bool) (en : Ending) (w' : World) : Prop := ∃ r m, en = .returned (.tuple #[.float .f32 r, .bool b]) ∧ cn .f32 r = x ∧ w' = w.drewN m
theorem makesF_no (w : World) {x : Option Nat} {b : Bool} (hx : x = some 0) (hb : b = false) : MakesF w x b (.returned (.tuple #[.float .f32 0, .bool false])) w := by
  subst hx; subst hb
  exact ⟨0, 0, rfl, c0f, rfl⟩
theorem makesF_yes {w : World} {x : Option Nat} {b : Bool} {r m : Nat} (hr : cn .f32 r = x) (hb : b = true) : MakesF w x b (.returned (.tuple #[.float .f32 r, .bool true])) (w.drewN m) := by
  subst hb
  exact ⟨r, m, rfl, hr, rfl⟩

set_option maxHeartbeats 400000 in
theorem l01Few_any (A : Option Addr) (n c : Nat) (w : World) (hn : n ≤ 1048576) : Calls Try.prog 61 #[.slice A n c] w fun e w' => e = .returned (.bool (decide (n ≤ 256))) ∧ w = w' := by
  go_enter Try.func61, Try.ntmps61
  go_wp2
  go_ret
  exact ⟨retB (by rw [decide_eq_decide]; omega), rfl⟩
set_option maxHeartbeats 400000 in
theorem sSumNumbers_any (A : Option Addr) (n c B : Nat) (zs : List Nat) (w : World) (h : Lies w B A n (zs.map (Value.float .f32))) (hn : n ≤ 1048576) :
    Calls Try.prog 41 #[.slice A n c] w (MakesF w (fsV zs) (fsB zs)) := by
  have hzl : zs.length = n := by have := h.1; simpa using this
  by_cases hL : n ≤ 256
  · have hb := Lib.hid (fsB_t (zs := zs) (by omega))
    have hd : decide (n ≤ 256) = true := decide_eq_true hL
    clear hzl
    go_enter Try.func41, Try.ntmps41
    go_wp2_with (first | (go_at_call 61; refine (l01Few_any _ _ _ _ hn).mono ?_; rintro e w' ⟨rfl, rfl⟩) | (go_at_call 63; refine (l01Sum_any _ _ _ _ _ _ h hn).mono ?_; rintro e w' ⟨r, m, rfl, hr, rfl⟩; have HR := Lib.hid hr; clear hr))
    go_ret2
    exact makesF_yes (by rw [fsV_t hb.out]; exact HR.out) hb.out
  · have hb := Lib.hid (fsB_f (zs := zs) (by omega))
    have hd : decide (n ≤ 256) = false := decide_eq_false hL
    clear hzl
    go_enter Try.func41, Try.ntmps41
    go_wp2_with (go_at_call 61; refine (l01Few_any _ _ _ _ hn).mono ?_; rintro e w' ⟨rfl, rfl⟩)
    go_ret2
    exact makesF_no _ (fsV_f hb.out) hb.out
set_option maxHeartbeats 800000 in
theorem SumNumbers_any (A : Option Addr) (n c B : Nat) (zs : List Nat) (w : World) (h : Lies w B A n (zs.map (Value.float .f32))) (hn : n ≤ 1048576) :
    Calls Try.prog 42 #[.slice A n c] w (MakesF w (fsV zs) (fsB zs)) := by
  have hzl : zs.length = n := by have := h.1; simpa using this
  have HZ := Lib.hid hzl
  by_cases hL : n ≤ 256
  · have hb := Lib.hid (fsB_t (zs := zs) (by omega))
    clear hzl
    go_enter Try.func42, Try.ntmps42
    go_wp2
    go_loopw [4, 12] (fun v i wr => ∃ k m r : Nat, k ≤ n ∧ i = .int .i64 k ∧ v = .float .f32 r ∧ Hid (cn .f32 r = fsm (zs.take k)) ∧ wr = w.drewN m) (fun _ i _ => n - (intOf i).toNat)
    case atStart => exact ⟨0, 0, _, Nat.zero_le _, rfl, rfl, Lib.hid (by rw [fsm_zero]; exact c0f), rfl⟩
    case round =>
      obtain ⟨k, m, r, hk, rfl, rfl, hr, rfl⟩ := hrel
      by_cases hlt : k < n
      · obtain ⟨ad, rfl, hab, hc⟩ := h.at_ hlt
        rw [flo_getD zs (by have := HZ.out; omega)] at hc
        have HS := Lib.hid (fsm_snoc (zs := zs) (k := k) (by have := HZ.out; omega))
        generalize zs.getD k 0 = x at *
        go_wp2_with (refine wpList_fop rfl _ _ _ _ _ rfl (by decide) _ _ _ rfl rfl ?_; intro r1 n1 hr1 hrb1; have HR := Lib.hid hr1; clear hr1)
        go_roundw
        case rel => exact ⟨k + 1, _, _, by omega, by go_num, rfl, Lib.hid (by rw [HS.out, HR.out, hr.out]), rfl⟩
        case measure => simp [intOf]; omega
      · go_wp2
        go_ret2
        have h1 := hr.out
        rw [List.take_of_length_le (by have := HZ.out; omega)] at h1
        exact makesF_yes (by rw [fsV_t hb.out]; exact h1) hb.out
  · have hb := Lib.hid (fsB_f (zs := zs) (by omega))
    clear hzl
    go_enter Try.func42, Try.ntmps42
    go_wp2
    go_ret2
    exact makesF_no _ (fsV_f hb.out) hb.out
set_option maxHeartbeats 800000 in
theorem sDotNumbers_any (A A' : Option Addr) (n n' c c' B B' : Nat) (xs ys : List Nat) (w : World) (h : Lies w B A n (xs.map (Value.float .f32))) (h' : Lies w B' A' n' (ys.map (Value.float .f32))) (hn : n ≤ 1048576) (hn' : n' ≤ 1048576) :
    Calls Try.prog 36 #[.slice A n c, .slice A' n' c'] w (MakesF w (fdV xs ys) (fdB xs ys)) := by
  have hxl : xs.length = n := by have := h.1; simpa using this
  have hyl : ys.length = n' := by have := h'.1; simpa using this
  have HX := Lib.hid hxl
  have HY := Lib.hid hyl
  clear hxl hyl
  by_cases hL : n ≤ 256
  · have hd : decide (n ≤ 256) = true := decide_eq_true hL
    by_cases hnn : n = n'
    · obtain rfl := hnn
      have hb := Lib.hid (fdB_t (xs := xs) (ys := ys) ⟨by have := HX.out; omega, by have := HX.out; have := HY.out; omega⟩)
      go_enter Try.func36, Try.ntmps36
      go_wp2_with (first | (go_at_call 61; refine (l01Few_any _ _ _ _ hn).mono ?_; rintro e w' ⟨rfl, rfl⟩) | (go_at_call 62; refine (l01Dot_any _ _ _ _ _ _ _ _ _ _ h h' hn).mono ?_; rintro e w' ⟨r, m, rfl, hr, rfl⟩; have HR := Lib.hid hr; clear hr))
      go_ret2
      exact makesF_yes (by rw [fdV_t hb.out, HX.out]; exact HR.out) hb.out
    · have hb := Lib.hid (fdB_f (xs := xs) (ys := ys) (fun q => hnn (by have := HX.out; have := HY.out; omega)))
      go_enter Try.func36, Try.ntmps36
      go_wp2_with (go_at_call 61; refine (l01Few_any _ _ _ _ hn).mono ?_; rintro e w' ⟨rfl, rfl⟩)
      go_ret2
      exact makesF_no _ (fdV_f hb.out) hb.out
  · have hd : decide (n ≤ 256) = false := decide_eq_false hL
    have hb := Lib.hid (fdB_f (xs := xs) (ys := ys) (fun q => hL (by have := HX.out; omega)))
    go_enter Try.func36, Try.ntmps36
    go_wp2_with (go_at_call 61; refine (l01Few_any _ _ _ _ hn).mono ?_; rintro e w' ⟨rfl, rfl⟩)
    go_ret2
    exact makesF_no _ (fdV_f hb.out) hb.out
set_option maxHeartbeats 1600000 in
theorem DotNumbers_any (A A' : Option Addr) (n n' c c' B B' : Nat) (xs ys : List Nat) (w : World) (h : Lies w B A n (xs.map (Value.float .f32))) (h' : Lies w B' A' n' (ys.map (Value.float .f32))) (hn : n ≤ 1048576) (hn' : n' ≤ 1048576) :
    Calls Try.prog 38 #[.slice A n c, .slice A' n' c'] w (MakesF w (fdV xs ys) (fdB xs ys)) := by
  have hxl : xs.length = n := by have := h.1; simpa using this
  have hyl : ys.length = n' := by have := h'.1; simpa using this
  have HX := Lib.hid hxl
  have HY := Lib.hid hyl
  clear hxl hyl
  by_cases hL : n ≤ 256
  · by_cases hnn : n = n'
    · obtain rfl := hnn
      have hb := Lib.hid (fdB_t (xs := xs) (ys := ys) ⟨by have := HX.out; omega, by have := HX.out; have := HY.out; omega⟩)
      go_enter Try.func38, Try.ntmps38
      go_wp2
      go_loopw [6, 20] (fun v i wr => ∃ k m r : Nat, k ≤ n ∧ i = .int .i64 k ∧ v = .float .f32 r ∧ Hid (cn .f32 r = fdt xs ys k) ∧ wr = w.drewN m) (fun _ i _ => n - (intOf i).toNat)
      case atStart => exact ⟨0, 0, _, Nat.zero_le _, rfl, rfl, Lib.hid (by rw [fdt_zero]; exact c0f), rfl⟩
      case round =>
        obtain ⟨k, m, r, hk, rfl, rfl, hr, rfl⟩ := hrel
        by_cases hlt : k < n
        · obtain ⟨ad, rfl, hab, hc⟩ := h.at_ hlt
          obtain ⟨ad', rfl, hab', hc'⟩ := h'.at_ hlt
          rw [flo_getD xs (by have := HX.out; omega)] at hc
          rw [flo_getD ys (by have := HY.out; omega)] at hc'
          have HS := Lib.hid (fdt_succ xs ys k)
          generalize xs.getD k 0 = x at *
          generalize ys.getD k 0 = y at *
          have t1 : True := trivial
          go_wp2
          go_region_with (first | (have _t := t1; refine upon_fop .mul rfl _ _ _ _ ?_; intro r1 n1 hr1 hrb1; have HM := Lib.hid hr1; clear hr1 t1) | (refine upon_fop .add rfl _ _ _ _ ?_; intro r2 n2 hr2 hrb2; have HR := Lib.hid hr2; clear hr2))
          all_goals
            go_wp2
            go_roundw
            case rel => exact ⟨k + 1, _, _, by omega, by go_num, rfl, Lib.hid (by rw [HS.out, HR.out, HM.out, hr.out]), rfl⟩
            case measure => simp [intOf]; omega
        · go_wp2
          go_ret2
          obtain rfl : k = n := by omega
          exact makesF_yes (by rw [fdV_t hb.out, HX.out]; exact hr.out) hb.out
    · have hb := Lib.hid (fdB_f (xs := xs) (ys := ys) (fun q => hnn (by have := HX.out; have := HY.out; omega)))
      have hne : ((n : Int) != (n' : Int)) = true := by simp; omega
      go_enter Try.func38, Try.ntmps38
      go_wp2
      go_ret2
      exact makesF_no _ (fdV_f hb.out) hb.out
  · have hb := Lib.hid (fdB_f (xs := xs) (ys := ys) (fun q => hL (by have := HX.out; omega)))
    go_enter Try.func38, Try.ntmps38
    go_wp2
    go_ret2
    exact makesF_no _ (fdV_f hb.out) hb.out
end Go.Proofs.Ytcimnklgkdnaaaa
