/-
  Contracts of HomeOf and its twin: the index at which a hash is greatest.
-/
import Derived.Test.YtcimnklgkdnaaaaRow
namespace Go.Proofs.Ytcimnklgkdnaaaa
open Go.RowKit

theorem quiet_l {P : Program} {f : FuncId} {args : Array Value} {w : World} {n : Nat} {v : Value}
    (h : Calls P f args (w.drewN n) fun e w' => e = .returned v ∧ w.drewN n = w') : Calls P f args (w.drewN n) fun e w'' => e = .returned v ∧ ∃ m, w'' = w.drewN m :=
  h.mono fun _ _ ⟨he, hm⟩ => ⟨he, n, hm.symm⟩
theorem quiet_la {P : Program} {f : FuncId} {args : Array Value} {w : World} {a n : Nat} {v : Value}
    (h : Calls P f args (w.drewN (a + n)) fun e w' => e = .returned v ∧ w.drewN (a + n) = w') : Calls P f args (w.drewN (a + n)) fun e w'' => e = .returned v ∧ ∃ m, w'' = w.drewN (a + m) :=
  h.mono fun _ _ ⟨he, hm⟩ => ⟨he, n, hm.symm⟩
/-- The first of the best among the first n. -/
@[irreducible] def bst (g : Nat → Nat → Bool) (n : Nat) : Nat := n.rec 0 fun k b => if g k b then k else b
theorem bst_zero (g : Nat → Nat → Bool) : bst g 0 = 0 := by unfold bst; rfl
theorem bst_t {g : Nat → Nat → Bool} {k : Nat} (h : g k (bst g k) = true) : bst g (k + 1) = k := by
  unfold bst at h ⊢
  show (if g k _ then k else _) = k
  rw [if_pos h]
theorem bst_f {g : Nat → Nat → Bool} {k : Nat} (h : g k (bst g k) = false) : bst g (k + 1) = bst g k := by
  unfold bst at h ⊢
  show (if g k _ then k else _) = _
  rw [if_neg (by rw [h]; decide)]
theorem bst_lt (g : Nat → Nat → Bool) (k : Nat) : bst g (k + 1) ≤ k := by
  induction k with
  | zero =>
    rcases h : g 0 (bst g 0)
    · rw [bst_f h, bst_zero]; exact Nat.le_refl _
    · rw [bst_t h]; exact Nat.le_refl _
  | succ k ih =>
    rcases h : g (k + 1) (bst g (k + 1))
    · rw [bst_f h]; omega
    · rw [bst_t h]; exact Nat.le_refl _
theorem bst_one (g : Nat → Nat → Bool) : bst g 1 = 0 := Nat.le_zero.1 (bst_lt g 0)
theorem bst_lt' (g : Nat → Nat → Bool) {k n : Nat} (h : k ≤ n) (hn : 0 < n) : bst g k < n := by
  rcases k with _ | k
  · rw [bst_zero]; exact hn
  · have := bst_lt g k; omega
@[irreducible] def hmG (key : Int) (zs : List Int) (i b : Nat) : Bool := decide (hsh key (zs.getD b 0) < hsh key (zs.getD i 0))
@[irreducible] def hmB (key : Int) (zs : List Int) : Bool := isK key && (decide (1 ≤ zs.length ∧ zs.length ≤ 64) && allK zs)
@[irreducible] def hmV (key : Int) (zs : List Int) : Int := if hmB key zs then (bst (hmG key zs) zs.length : Nat) else 0
theorem hmV_t {key : Int} {zs : List Int} (h : hmB key zs = true) : hmV key zs = (bst (hmG key zs) zs.length : Nat) := by unfold hmV; rw [if_pos h]
theorem hmV_f {key : Int} {zs : List Int} (h : hmB key zs = false) : hmV key zs = 0 := by unfold hmV; rw [if_neg (by rw [h]; decide)]
theorem hmB_t {key : Int} {zs : List Int} (h1 : isK key = true) (h2 : 1 ≤ zs.length ∧ zs.length ≤ 64) (h3 : allK zs = true) : hmB key zs = true := by unfold hmB; rw [h1, decide_eq_true h2, h3]; rfl
theorem hmB_f1 {key : Int} {zs : List Int} (h1 : isK key = false) : hmB key zs = false := by unfold hmB; rw [h1]; rfl
theorem hmB_f2 {key : Int} {zs : List Int} (h2 : ¬ (1 ≤ zs.length ∧ zs.length ≤ 64)) : hmB key zs = false := by unfold hmB; rw [decide_eq_false h2]; simp
theorem hmB_f3 {key : Int} {zs : List Int} (h3 : allK zs = false) : hmB key zs = false := by unfold hmB; rw [h3]; simp
theorem keys_all {zs : List Int} (h : keysB zs = true) : allK zs = true := by unfold keysB at h; rw [Bool.and_eq_true] at h; exact h.2
theorem keys_none {zs : List Int} (h : keysB zs = false) (hl : zs.length ≤ 256) : allK zs = false := by rw [← keysB_short hl]; exact h
set_option maxHeartbeats 1600000 in
theorem sHomeOf_any (A : Option Addr) (n c B : Nat) (zs : List Int) (key : Int) (w : World) (h : Lies w B A n (zs.map (Value.int .i64))) (hn : n ≤ 1048576) :
    Calls Try.prog 17 #[.int .i64 key, .slice A n c] w fun e w' => ∃ m, e = .returned (.tuple #[.int .i64 (hmV key zs), .bool (hmB key zs)]) ∧ w' = w.drewN m := by
  have hzl : zs.length = n := by have := h.1; simpa using this
  have HZ := Lib.hid hzl
  clear hzl
  rcases h1 : isK key
  · have hb := Lib.hid (hmB_f1 (zs := zs) h1)
    go_enter Try.func17, Try.ntmps17
    go_wp2_with (first | (go_at_call 45; refine (l02Key_any _ _).mono ?_; rintro e w' ⟨rfl, rfl⟩) | (go_at_call 43; refine (l02Keys_any _ _ _ _ _ _ h hn).mono ?_; rintro e w' ⟨rfl, rfl⟩))
    go_ret2
    first | exact ⟨0, ret2 (hmV_f hb.out).symm hb.out.symm, rfl⟩ | exact ⟨ret2 (hmV_f hb.out).symm hb.out.symm, 0, rfl⟩
  · rcases h4 : keysB zs
    · have hb : Hid (hmB key zs = false) := Lib.hid (by
        by_cases q : 1 ≤ zs.length ∧ zs.length ≤ 64
        · exact hmB_f3 (keys_none h4 (by omega))
        · exact hmB_f2 q)
      go_enter Try.func17, Try.ntmps17
      go_wp2_with (first | (go_at_call 45; refine (l02Key_any _ _).mono ?_; rintro e w' ⟨rfl, rfl⟩) | (go_at_call 43; refine (l02Keys_any _ _ _ _ _ _ h hn).mono ?_; rintro e w' ⟨rfl, rfl⟩))
      go_ret2
      first | exact ⟨0, ret2 (hmV_f hb.out).symm hb.out.symm, rfl⟩ | exact ⟨ret2 (hmV_f hb.out).symm hb.out.symm, 0, rfl⟩
    · by_cases h2 : 1 ≤ n
      · by_cases h3 : n ≤ 64
        · have hb := Lib.hid (hmB_t h1 ⟨by have := HZ.out; omega, by have := HZ.out; omega⟩ (keys_all h4))
          have hk : Hid (∀ k, k < zs.length → 0 ≤ zs.getD k 0 ∧ zs.getD k 0 ≤ 4294967295) := Lib.hid (keys_of h4).2
          have HX := Lib.hid (isK_of h1)
          go_enter Try.func17, Try.ntmps17
          go_wp2_with (first | (go_at_call 45; refine (l02Key_any _ _).mono ?_; rintro e w' ⟨rfl, rfl⟩) | (go_at_call 43; refine (l02Keys_any _ _ _ _ _ _ h hn).mono ?_; rintro e w' ⟨rfl, rfl⟩))
          go_loopw [6, 7] (fun b i wr => ∃ k m : Nat, 1 ≤ k ∧ k ≤ n ∧ i = .int .i64 k ∧ b = .int .i64 (bst (hmG key zs) k : Nat) ∧ wr = w.drewN m) (fun _ i _ => n - (intOf i).toNat)
          case atStart => exact ⟨1, 0, Nat.le_refl _, by omega, rfl, by rw [bst_one]; rfl, rfl⟩
          case round =>
            obtain ⟨k, m, hk0, hk1, rfl, rfl, rfl⟩ := hrel
            by_cases hlt : k < n
            · have hj := bst_lt' (hmG key zs) hk1 (by omega)
              have HG1 := Lib.hid (bst_t (g := hmG key zs) (k := k))
              have HG2 := Lib.hid (bst_f (g := hmG key zs) (k := k))
              have HG : Hid (hmG key zs k (bst (hmG key zs) k) = decide (hsh key (zs.getD (bst (hmG key zs) k) 0) < hsh key (zs.getD k 0))) := Lib.hid (by unfold hmG; rfl)
              generalize bst (hmG key zs) k = j at *
              obtain ⟨ad, hA, hab, hc⟩ := h.at_ hlt
              obtain ⟨ad', hA', hab', hc'⟩ := h.at_ hj
              rw [hA] at hA'
              obtain rfl : ad = ad' := by injection hA'
              subst hA
              clear hA'
              rw [ints_getD .i64 zs (by have := HZ.out; omega)] at hc hc'
              have hx := hk.out k (by have := HZ.out; omega)
              have hy := hk.out j (by have := HZ.out; omega)
              generalize zs.getD k 0 = x at *
              generalize zs.getD j 0 = y at *
              by_cases hgt : hsh key y < hsh key x
              · have HR := Lib.hid (HG1.out (by rw [HG.out]; exact decide_eq_true hgt))
                go_wp2
                go_quiet ((go_at_call 46; exact quiet_la (l02Hash_any _ _ _ HX.out (by first | exact hx | exact hy))))
                go_wp2
                go_roundw
                case rel => exact ⟨k + 1, _, by omega, by omega, by go_num, by rw [HR.out], rfl⟩
                case measure => simp [intOf]; omega
              · have HR := Lib.hid (HG2.out (by rw [HG.out]; exact decide_eq_false hgt))
                go_wp2
                go_quiet ((go_at_call 46; exact quiet_la (l02Hash_any _ _ _ HX.out (by first | exact hx | exact hy))))
                go_wp2
                go_roundw
                case rel => exact ⟨k + 1, _, by omega, by omega, by go_num, by rw [HR.out], rfl⟩
                case measure => simp [intOf]; omega
            · go_wp2
              go_ret2
              obtain rfl : k = n := by omega
              exact ⟨_, ret2 (by rw [hmV_t hb.out, HZ.out]) hb.out.symm, rfl⟩
        · have hb := Lib.hid (hmB_f2 (key := key) (zs := zs) (fun q => h3 (by have := HZ.out; omega)))
          go_enter Try.func17, Try.ntmps17
          go_wp2_with (first | (go_at_call 45; refine (l02Key_any _ _).mono ?_; rintro e w' ⟨rfl, rfl⟩) | (go_at_call 43; refine (l02Keys_any _ _ _ _ _ _ h hn).mono ?_; rintro e w' ⟨rfl, rfl⟩))
          go_ret2
          first | exact ⟨0, ret2 (hmV_f hb.out).symm hb.out.symm, rfl⟩ | exact ⟨ret2 (hmV_f hb.out).symm hb.out.symm, 0, rfl⟩
      · have hb := Lib.hid (hmB_f2 (key := key) (zs := zs) (fun q => h2 (by have := HZ.out; omega)))
        go_enter Try.func17, Try.ntmps17
        go_wp2_with (first | (go_at_call 45; refine (l02Key_any _ _).mono ?_; rintro e w' ⟨rfl, rfl⟩) | (go_at_call 43; refine (l02Keys_any _ _ _ _ _ _ h hn).mono ?_; rintro e w' ⟨rfl, rfl⟩))
        go_ret2
        first | exact ⟨0, ret2 (hmV_f hb.out).symm hb.out.symm, rfl⟩ | exact ⟨ret2 (hmV_f hb.out).symm hb.out.symm, 0, rfl⟩
set_option maxHeartbeats 1600000 in
theorem HomeOf_any (A : Option Addr) (n c B : Nat) (zs : List Int) (key : Int) (w : World) (h : Lies w B A n (zs.map (Value.int .i64))) (hn : n ≤ 1048576) :
    Calls Try.prog 18 #[.int .i64 key, .slice A n c] w fun e w' => ∃ m, e = .returned (.tuple #[.int .i64 (hmV key zs), .bool (hmB key zs)]) ∧ w' = w.drewN m := by
  have hzl : zs.length = n := by have := h.1; simpa using this
  have HZ := Lib.hid hzl
  clear hzl
  rcases h1 : isK key
  · have hb := Lib.hid (hmB_f1 (zs := zs) h1)
    go_enter Try.func18, Try.ntmps18
    go_wp2_with (first | (go_at_call 47; refine (IsKey_any _ _).mono ?_; rintro e w' ⟨rfl, rfl⟩) | (go_at_call 44; refine (areAllKeys_any _ _ _ _ _ _ h hn).mono ?_; rintro e w' ⟨rfl, rfl⟩))
    go_ret2
    first | exact ⟨0, ret2 (hmV_f hb.out).symm hb.out.symm, rfl⟩ | exact ⟨ret2 (hmV_f hb.out).symm hb.out.symm, 0, rfl⟩
  · by_cases h2 : 1 ≤ n
    · by_cases h3 : n ≤ 64
      · rcases h4 : allK zs
        · have hb := Lib.hid (hmB_f3 (key := key) h4)
          go_enter Try.func18, Try.ntmps18
          go_wp2_with (first | (go_at_call 47; refine (IsKey_any _ _).mono ?_; rintro e w' ⟨rfl, rfl⟩) | (go_at_call 44; refine (areAllKeys_any _ _ _ _ _ _ h hn).mono ?_; rintro e w' ⟨rfl, rfl⟩))
          go_ret2
          first | exact ⟨0, ret2 (hmV_f hb.out).symm hb.out.symm, rfl⟩ | exact ⟨ret2 (hmV_f hb.out).symm hb.out.symm, 0, rfl⟩
        · have hb := Lib.hid (hmB_t h1 ⟨by have := HZ.out; omega, by have := HZ.out; omega⟩ h4)
          have hk : Hid (∀ k, k < zs.length → 0 ≤ zs.getD k 0 ∧ zs.getD k 0 ≤ 4294967295) := Lib.hid fun k hk => isK_of (allK_at h4 hk)
          have HX := Lib.hid (isK_of h1)
          go_enter Try.func18, Try.ntmps18
          go_wp2_with (first | (go_at_call 47; refine (IsKey_any _ _).mono ?_; rintro e w' ⟨rfl, rfl⟩) | (go_at_call 44; refine (areAllKeys_any _ _ _ _ _ _ h hn).mono ?_; rintro e w' ⟨rfl, rfl⟩))
          go_loopw [6, 29] (fun b i wr => ∃ k m : Nat, 0 ≤ k ∧ k ≤ n ∧ i = .int .i64 k ∧ b = .int .i64 (bst (hmG key zs) k : Nat) ∧ wr = w.drewN m) (fun _ i _ => n - (intOf i).toNat)
          case atStart => exact ⟨0, 0, Nat.le_refl _, by omega, rfl, by rw [bst_zero]; rfl, rfl⟩
          case round =>
            obtain ⟨k, m, hk0, hk1, rfl, rfl, rfl⟩ := hrel
            by_cases hlt : k < n
            · have hj := bst_lt' (hmG key zs) hk1 (by omega)
              have HG1 := Lib.hid (bst_t (g := hmG key zs) (k := k))
              have HG2 := Lib.hid (bst_f (g := hmG key zs) (k := k))
              have HG : Hid (hmG key zs k (bst (hmG key zs) k) = decide (hsh key (zs.getD (bst (hmG key zs) k) 0) < hsh key (zs.getD k 0))) := Lib.hid (by unfold hmG; rfl)
              generalize bst (hmG key zs) k = j at *
              obtain ⟨ad, hA, hab, hc⟩ := h.at_ hlt
              obtain ⟨ad', hA', hab', hc'⟩ := h.at_ hj
              rw [hA] at hA'
              obtain rfl : ad = ad' := by injection hA'
              subst hA
              clear hA'
              rw [ints_getD .i64 zs (by have := HZ.out; omega)] at hc hc'
              have hx := hk.out k (by have := HZ.out; omega)
              have hy := hk.out j (by have := HZ.out; omega)
              generalize zs.getD k 0 = x at *
              generalize zs.getD j 0 = y at *
              by_cases hgt : hsh key y < hsh key x
              · have HR := Lib.hid (HG1.out (by rw [HG.out]; exact decide_eq_true hgt))
                go_wp2
                go_quiet ((go_at_call 48; exact quiet_la (hash_any _ _ _ HX.out (by first | exact hx | exact hy))))
                go_wp2
                go_roundw
                case rel => exact ⟨k + 1, _, by omega, by omega, by go_num, by rw [HR.out], rfl⟩
                case measure => simp [intOf]; omega
              · have HR := Lib.hid (HG2.out (by rw [HG.out]; exact decide_eq_false hgt))
                go_wp2
                go_quiet ((go_at_call 48; exact quiet_la (hash_any _ _ _ HX.out (by first | exact hx | exact hy))))
                go_wp2
                go_roundw
                case rel => exact ⟨k + 1, _, by omega, by omega, by go_num, by rw [HR.out], rfl⟩
                case measure => simp [intOf]; omega
            · go_wp2
              go_ret2
              obtain rfl : k = n := by omega
              exact ⟨_, ret2 (by rw [hmV_t hb.out, HZ.out]) hb.out.symm, rfl⟩
      · have hb := Lib.hid (hmB_f2 (key := key) (zs := zs) (fun q => h3 (by have := HZ.out; omega)))
        go_enter Try.func18, Try.ntmps18
        go_wp2_with (first | (go_at_call 47; refine (IsKey_any _ _).mono ?_; rintro e w' ⟨rfl, rfl⟩) | (go_at_call 44; refine (areAllKeys_any _ _ _ _ _ _ h hn).mono ?_; rintro e w' ⟨rfl, rfl⟩))
        go_ret2
        first | exact ⟨0, ret2 (hmV_f hb.out).symm hb.out.symm, rfl⟩ | exact ⟨ret2 (hmV_f hb.out).symm hb.out.symm, 0, rfl⟩
    · have hb := Lib.hid (hmB_f2 (key := key) (zs := zs) (fun q => h2 (by have := HZ.out; omega)))
      go_enter Try.func18, Try.ntmps18
      go_wp2_with (first | (go_at_call 47; refine (IsKey_any _ _).mono ?_; rintro e w' ⟨rfl, rfl⟩) | (go_at_call 44; refine (areAllKeys_any _ _ _ _ _ _ h hn).mono ?_; rintro e w' ⟨rfl, rfl⟩))
      go_ret2
      first | exact ⟨0, ret2 (hmV_f hb.out).symm hb.out.symm, rfl⟩ | exact ⟨ret2 (hmV_f hb.out).symm hb.out.symm, 0, rfl⟩
end Go.Proofs.Ytcimnklgkdnaaaa
