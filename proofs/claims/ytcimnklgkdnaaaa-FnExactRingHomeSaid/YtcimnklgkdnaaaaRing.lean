/-
  Contracts of RingHome and its twin: the first point that is at least a hash.
-/
import Derived.Test.YtcimnklgkdnaaaaHome
import Derived.IntWalk
namespace Go.Proofs.Ytcimnklgkdnaaaa
open Go.RowKit

@[irreducible] def srtB (zs : List Int) : Bool := (List.range (zs.length - 1)).all fun i => decide (zs.getD i 0 ≤ zs.getD (i + 1) 0)
theorem srtB_t {zs : List Int} (h : ∀ i, i + 1 < zs.length → zs.getD i 0 ≤ zs.getD (i + 1) 0) : srtB zs = true := by
  unfold srtB
  rw [List.all_eq_true]
  intro i hi
  have := List.mem_range.1 hi
  exact decide_eq_true (h i (by omega))
theorem srtB_f {zs : List Int} {i : Nat} (hi : i + 1 < zs.length) (h : zs.getD (i + 1) 0 < zs.getD i 0) : srtB zs = false := by
  refine Bool.eq_false_iff.2 fun ht => ?_
  unfold srtB at ht
  rw [List.all_eq_true] at ht
  have := of_decide_eq_true (ht i (List.mem_range.2 (by omega)))
  omega
@[irreducible] def fstGe (zs : List Int) (h : Int) : Nat := if zs.findIdx (fun z => decide (h ≤ z)) < zs.length then zs.findIdx (fun z => decide (h ≤ z)) else 0
theorem fstGe_at {zs : List Int} {h : Int} {k : Nat} (hk : k < zs.length) (h1 : h ≤ zs.getD k 0) (h2 : ∀ j, j < k → zs.getD j 0 < h) : fstGe zs h = k := by
  have e : zs.findIdx (fun z => decide (h ≤ z)) = k := by
    rw [List.findIdx_eq hk]
    refine ⟨decide_eq_true (by simpa [List.getD, List.getElem?_eq_getElem hk] using h1), fun j hj => decide_eq_false ?_⟩
    have hj' : j < zs.length := by omega
    have := h2 j hj
    simp [List.getD, List.getElem?_eq_getElem hj'] at this
    omega
  unfold fstGe
  rw [e, if_pos hk]
theorem fstGe_no {zs : List Int} {h : Int} (h2 : ∀ j, j < zs.length → zs.getD j 0 < h) : fstGe zs h = 0 := by
  unfold fstGe
  rw [if_neg]
  intro hlt
  have hp := List.findIdx_getElem (w := hlt)
  have h3 := h2 _ hlt
  simp only [decide_eq_true_eq] at hp
  rw [List.getD_eq_getElem?_getD, List.getElem?_eq_getElem hlt, Option.getD_some] at h3
  omega
@[irreducible] def rhB (key s : Int) (zs : List Int) : Bool := bothK key s && (keysB zs && (decide (1 ≤ zs.length) && srtB zs))
@[irreducible] def rhV (key s : Int) (zs : List Int) : Int := if rhB key s zs then (fstGe zs (hsh key s) : Nat) else 0
theorem rhB_t {key s : Int} {zs : List Int} (h1 : bothK key s = true) (h2 : keysB zs = true) (h3 : 1 ≤ zs.length) (h4 : srtB zs = true) : rhB key s zs = true := by unfold rhB; rw [h1, h2, decide_eq_true h3, h4]; rfl
theorem rhB_f1 {key s : Int} {zs : List Int} (h1 : bothK key s = false) : rhB key s zs = false := by unfold rhB; rw [h1]; rfl
theorem rhB_f2 {key s : Int} {zs : List Int} (h2 : keysB zs = false) : rhB key s zs = false := by unfold rhB; rw [h2]; simp
theorem rhB_f3 {key s : Int} {zs : List Int} (h3 : ¬ 1 ≤ zs.length) : rhB key s zs = false := by unfold rhB; rw [decide_eq_false h3]; simp
theorem rhB_f4 {key s : Int} {zs : List Int} (h4 : srtB zs = false) : rhB key s zs = false := by unfold rhB; rw [h4]; simp
theorem rhV_t {key s : Int} {zs : List Int} (h : rhB key s zs = true) : rhV key s zs = (fstGe zs (hsh key s) : Nat) := by unfold rhV; rw [if_pos h]
theorem rhV_f {key s : Int} {zs : List Int} (h : rhB key s zs = false) : rhV key s zs = 0 := by unfold rhV; rw [if_neg (by rw [h]; decide)]

set_option maxHeartbeats 2000000 in
theorem sRingHome_any (A : Option Addr) (n c : Nat) (zs : List Int) (key s : Int) (w : World) (h : Lies w w.heap.size A n (zs.map (Value.int .i64))) (hn : n ≤ 1048576) :
    Calls Try.prog 21 #[.int .i64 key, .int .i64 s, .slice A n c] w fun e w' => e = .returned (.tuple #[.int .i64 (rhV key s zs), .bool (rhB key s zs)]) ∧ Below w.heap.size w w' := by
  have hzl : zs.length = n := by have := h.1; simpa using this
  have HZ := Lib.hid hzl
  clear hzl
  rcases h1 : bothK key s
  · have hb := Lib.hid (rhB_f1 (zs := zs) h1)
    go_enter Try.func21, Try.ntmps21
    go_wp2_with (go_at_call 53; refine (l02Both_any _ _ _).mono ?_; rintro e w' ⟨rfl, rfl⟩)
    go_ret2
    exact ⟨ret2 (rhV_f hb.out).symm hb.out.symm, Below.refl _ _⟩
  · have hks : Hid ((0 ≤ key ∧ key ≤ 4294967295) ∧ 0 ≤ s ∧ s ≤ 4294967295) := Lib.hid (by unfold bothK at h1; rw [Bool.and_eq_true] at h1; exact ⟨isK_of h1.1, isK_of h1.2⟩)
    rcases h2 : keysB zs
    · have hb := Lib.hid (rhB_f2 (key := key) (s := s) h2)
      go_enter Try.func21, Try.ntmps21
      go_wp2_with (first | (go_at_call 53; refine (l02Both_any _ _ _).mono ?_; rintro e w' ⟨rfl, rfl⟩) | (go_at_call 43; refine (l02Keys_any _ _ _ _ _ _ h hn).mono ?_; rintro e w' ⟨rfl, rfl⟩))
      go_ret2
      exact ⟨ret2 (rhV_f hb.out).symm hb.out.symm, Below.refl _ _⟩
    · rcases Nat.eq_zero_or_pos n with rfl | hpos
      · have hb := Lib.hid (rhB_f3 (key := key) (s := s) (zs := zs) (by have := HZ.out; omega))
        go_enter Try.func21, Try.ntmps21
        go_wp2_with (first | (go_at_call 53; refine (l02Both_any _ _ _).mono ?_; rintro e w' ⟨rfl, rfl⟩) | (go_at_call 43; refine (l02Keys_any _ _ _ _ _ _ h hn).mono ?_; rintro e w' ⟨rfl, rfl⟩))
        go_ret2
        exact ⟨ret2 (rhV_f hb.out).symm hb.out.symm, Below.refl _ _⟩
      · have HB1 : Hid (bothK key s = true) := Lib.hid h1
        have HB2 : Hid (keysB zs = true) := Lib.hid h2
        go_enter Try.func21, Try.ntmps21
        go_wp2_with (first | (go_at_call 53; refine (l02Both_any _ _ _).mono ?_; rintro e w' ⟨rfl, rfl⟩) | (go_at_call 43; refine (l02Keys_any _ _ _ _ _ _ h hn).mono ?_; rintro e w' ⟨rfl, rfl⟩))
        clear h1 h2
        go_loopw [8] (fun i wr => ∃ K m : Nat, 1 ≤ K ∧ K ≤ n ∧ i = .int .i64 (K : Int) ∧ wr = w.drewN m ∧ Hid (∀ j, j + 1 < K → zs.getD j 0 ≤ zs.getD (j + 1) 0)) (fun i _ => n - (intOf i).toNat)
        case atStart => exact ⟨1, 0, Nat.le_refl _, hpos, rfl, rfl, Lib.hid (fun j hj => absurd hj (by omega))⟩
        case round =>
          obtain ⟨K, m, hK1, hK2, rfl, rfl, hS⟩ := hrel
          by_cases hlt : K < n
          · obtain ⟨k, hKk⟩ : ∃ k, K = k + 1 := ⟨K - 1, by omega⟩
            have hkn : k < n := by omega
            have hsub : IntKind.i64.wrap ((K : Int) - 1) = (k : Int) := by rw [IntWalk.i64_in _ (by omega)]; omega
            have HKk := Lib.hid hKk
            obtain ⟨ad, rfl, hab, hc⟩ := h.at_ hlt
            obtain ⟨ad', hA', hab', hc'⟩ := h.at_ hkn
            clear hKk
            obtain rfl : ad = ad' := by injection hA'
            clear hA'
            rw [ints_getD .i64 zs (by have := HZ.out; omega)] at hc hc'
            obtain ⟨x, HX⟩ : ∃ x, Hid (zs.getD K 0 = x) := ⟨_, Lib.hid rfl⟩
            obtain ⟨y, HY⟩ : ∃ y, Hid (zs.getD k 0 = y) := ⟨_, Lib.hid rfl⟩
            rw [HX.out] at hc
            rw [HY.out] at hc'
            by_cases hgt : x < y
            · have hb : Hid (rhB key s zs = false) := Lib.hid (rhB_f4 (srtB_f (i := k) (by have := HZ.out; have := HKk.out; omega) (by rw [← HKk.out, HX.out, HY.out]; exact hgt)))
              go_wp2
              go_quiet (fail)
              go_wp2
              go_ret2
              exact ⟨ret2 (rhV_f hb.out).symm hb.out.symm, below_dn (below_dn (Below.refl _ _) _) _⟩
            · go_wp2
              go_quiet (fail)
              go_wp2
              go_roundw
              case rel => exact ⟨K + 1, _, by omega, by omega, by go_num, rfl, Lib.hid (fun j hj => by
                by_cases e : j = k
                · subst e; rw [← HKk.out, HX.out, HY.out]; omega
                · exact hS.out j (by have := HKk.out; omega))⟩
              case measure => simp [intOf]; omega
          · have hb := Lib.hid (rhB_t HB1.out HB2.out (by have := HZ.out; omega) (srtB_t fun i hi => hS.out i (by have := HZ.out; omega)))
            have hh := hsh_bd key s
            have HV := Lib.hid (rhV_t hb.out)
            have HF := Lib.hid (fun k => fstGe_at (zs := zs) (h := hsh key s) (k := k))
            have HN := Lib.hid (fstGe_no (zs := zs) (h := hsh key s))
            go_wp2_with (go_at_call 46; refine (l02Hash_any _ _ _ hks.out.1 hks.out.2).mono ?_; rintro e w' ⟨rfl, rfl⟩)
            generalize hsh key s = t at *
            clear hS hlt
            go_loop [10] (fun i => ∃ k : Nat, k ≤ n ∧ i = .int .i64 k ∧ Hid (∀ j, j < k → zs.getD j 0 < t)) (fun i => n - (intOf i).toNat)
            case atStart => exact ⟨0, Nat.zero_le _, rfl, Lib.hid (fun j hj => absurd hj (by omega))⟩
            case round =>
              obtain ⟨k, hk1, rfl, hS⟩ := hrel
              by_cases hlt : k < n
              · obtain ⟨ad, rfl, hab, hc⟩ := h.at_ hlt
                rw [ints_getD .i64 zs (by have := HZ.out; omega)] at hc
                obtain ⟨x, HX⟩ : ∃ x, Hid (zs.getD k 0 = x) := ⟨_, Lib.hid rfl⟩
                rw [HX.out] at hc
                by_cases hge : t ≤ x
                · have HR := Lib.hid (HF.out k (by have := HZ.out; omega) (by rw [HX.out]; exact hge) hS.out)
                  go_wp2
                  go_ret2
                  exact ⟨ret2 (by rw [HV.out, HR.out]) hb.out.symm, below_dn (Below.refl _ _) _⟩
                · go_wp2
                  go_round
                  case rel => exact ⟨k + 1, by omega, by go_num, Lib.hid (fun j hj => by
                    by_cases e : j = k
                    · subst e; rw [HX.out]; omega
                    · exact hS.out j (by omega))⟩
                  case measure => simp [intOf]; omega
              · have HR := Lib.hid (HN.out fun j hj => hS.out j (by have := HZ.out; omega))
                go_wp2
                go_ret2
                exact ⟨ret2 (by rw [HV.out, HR.out]; rfl) hb.out.symm, below_dn (Below.refl _ _) _⟩
set_option maxHeartbeats 400000 in
theorem isNaN_any (x : Int) (w : World) : Calls Try.prog 71 #[.int .i64 x] w fun e w' => e = .returned (.bool false) ∧ w = w' := by
  go_enter Try.func71, Try.ntmps71
  go_wp2
  go_ret
  exact ⟨retB (by simp), rfl⟩
set_option maxHeartbeats 400000 in
theorem Less_any (x y : Int) (w : World) : Calls Try.prog 68 #[.int .i64 x, .int .i64 y] w fun e w' => e = .returned (.bool (decide (x < y))) ∧ w = w' := by
  go_enter Try.func68, Try.ntmps68
  go_wp2_with (go_at_call 71; refine (isNaN_any _ _).mono ?_; rintro e w' ⟨rfl, rfl⟩)
  go_ret
  exact ⟨rfl, rfl⟩
set_option maxHeartbeats 1600000 in
theorem IsSorted_any (A : Option Addr) (n c B : Nat) (zs : List Int) (w : World) (h : Lies w B A (n + 1) (zs.map (Value.int .i64))) (hn : n ≤ 1048576) :
    Calls Try.prog 54 #[.slice A (n + 1) c] w fun e w' => ∃ m, e = .returned (.bool (srtB zs)) ∧ w' = w.drewN m := by
  have hzl : zs.length = n + 1 := by have := h.1; simpa using this
  have HZ := Lib.hid hzl
  clear hzl
  go_enter Try.func54, Try.ntmps54
  go_wp2
  go_loopw [3] (fun i wr => ∃ k m : Nat, k ≤ n ∧ i = .int .i64 k ∧ wr = w.drewN m ∧ Hid (∀ j, k ≤ j → j < n → zs.getD j 0 ≤ zs.getD (j + 1) 0)) (fun i _ => (intOf i).toNat)
  case atStart => exact ⟨n, 0, Nat.le_refl _, by go_num, rfl, Lib.hid (fun j h1 h2 => absurd h1 (by omega))⟩
  case round =>
    obtain ⟨k, m, hk1, rfl, rfl, hS⟩ := hrel
    rcases k with _ | k
    · have HR := Lib.hid (srtB_t (zs := zs) fun i hi => hS.out i (Nat.zero_le _) (by have := HZ.out; omega))
      go_wp2
      go_ret
      exact ⟨_, retB HR.out.symm, rfl⟩
    · obtain ⟨K, hKk⟩ : ∃ K, K = k + 1 := ⟨_, rfl⟩
      rw [← hKk] at hk1 hS ⊢
      have hsub : IntKind.i64.wrap ((K : Int) - 1) = (k : Int) := by rw [IntWalk.i64_in _ (by omega)]; omega
      have hK0 : 0 < K := by omega
      have HKk := Lib.hid hKk
      have hKn : K < n + 1 := by omega
      have hkn : k < n + 1 := by omega
      obtain ⟨ad, rfl, hab, hc⟩ := h.at_ hKn
      obtain ⟨ad', hA', hab', hc'⟩ := h.at_ hkn
      clear hKk
      obtain rfl : ad = ad' := by injection hA'
      clear hA'
      rw [ints_getD .i64 zs (by have := HZ.out; omega)] at hc hc'
      obtain ⟨x, HX⟩ : ∃ x, Hid (zs.getD K 0 = x) := ⟨_, Lib.hid rfl⟩
      obtain ⟨y, HY⟩ : ∃ y, Hid (zs.getD k 0 = y) := ⟨_, Lib.hid rfl⟩
      rw [HX.out] at hc
      rw [HY.out] at hc'
      by_cases hgt : x < y
      · have HR : Hid (srtB zs = false) := Lib.hid (srtB_f (i := k) (by have := HZ.out; have := HKk.out; omega) (by rw [← HKk.out, HX.out, HY.out]; exact hgt))
        go_wp2
        go_quiet ((go_at_call 68; exact quiet_la (Less_any _ _ _)))
        go_wp2
        go_ret
        exact ⟨_, retB HR.out.symm, World.drewN_drewN _ _ _⟩
      · go_wp2
        go_quiet ((go_at_call 68; exact quiet_la (Less_any _ _ _)))
        go_wp2
        go_roundw
        case rel => exact ⟨k, _, by omega, by go_num, rfl, Lib.hid (fun j h1 h2 => by
          by_cases e : j = k
          · subst e; rw [← HKk.out, HX.out, HY.out]; omega
          · exact hS.out j (by have := HKk.out; omega) h2)⟩
        case measure => have := HKk.out; simp [intOf]; omega
set_option maxHeartbeats 400000 in
theorem geq_any (z t : Int) (g : Nat) (w : World) (hc : w.cell? ⟨g, 0, none⟩ = some (.int .i64 t)) : Calls Try.prog 56 #[.int .i64 z, .pointer (some ⟨g, 0, none⟩)] w fun e w' => e = .returned (.bool (decide (t ≤ z))) ∧ w = w' := by
  go_enter Try.func56, Try.ntmps56
  go_wp2
  go_ret
  exact ⟨rfl, rfl⟩
set_option maxHeartbeats 800000 in
theorem ixGe_any (A : Option Addr) (n c B g : Nat) (zs : List Int) (t : Int) (w : World) (h : Lies w B A n (zs.map (Value.int .i64))) (hn : n ≤ 1048576) (hg : w.cell? ⟨g, 0, none⟩ = some (.int .i64 t)) :
    Calls Try.prog 55 #[.slice A n c, .func (.func 56) #[] #[.pointer (some ⟨g, 0, none⟩)]] w fun e w' => ∃ r : Int, e = .returned (.int .i64 r) ∧ Hid (max 0 r = (fstGe zs t : Nat)) ∧ -1 ≤ r ∧ r ≤ 1048576 ∧ w = w' := by
  have hzl : zs.length = n := by have := h.1; simpa using this
  have HZ := Lib.hid hzl
  clear hzl
  have HF := Lib.hid (fun k => fstGe_at (zs := zs) (h := t) (k := k))
  have HN := Lib.hid (fstGe_no (zs := zs) (h := t))
  go_enter Try.func55, Try.ntmps55
  go_wp2
  go_loop [8] (fun i => ∃ k : Nat, k ≤ n ∧ i = .int .i64 k ∧ Hid (∀ j, j < k → zs.getD j 0 < t)) (fun i => n - (intOf i).toNat)
  case atStart => exact ⟨0, Nat.zero_le _, rfl, Lib.hid (fun j hj => absurd hj (by omega))⟩
  case round =>
    obtain ⟨k, hk, rfl, hS⟩ := hrel
    by_cases hlt : k < n
    · obtain ⟨ad, rfl, hab, hc⟩ := h.at_ hlt
      rw [ints_getD .i64 zs (by have := HZ.out; omega)] at hc
      obtain ⟨x, HX⟩ : ∃ x, Hid (zs.getD k 0 = x) := ⟨_, Lib.hid rfl⟩
      rw [HX.out] at hc
      by_cases hge : t ≤ x
      · have HR := Lib.hid (HF.out k (by have := HZ.out; omega) (by rw [HX.out]; exact hge) hS.out)
        go_wp2_with (go_at_call 56; refine (geq_any _ _ _ _ hg).mono ?_; rintro e w' ⟨rfl, rfl⟩)
        go_ret
        exact ⟨_, rfl, Lib.hid (by rw [HR.out]; omega), by omega, by omega, rfl⟩
      · go_wp2_with (go_at_call 56; refine (geq_any _ _ _ _ hg).mono ?_; rintro e w' ⟨rfl, rfl⟩)
        go_round
        case rel => exact ⟨k + 1, by omega, by go_num, Lib.hid (fun j hj => by
          by_cases e : j = k
          · subst e; rw [HX.out]; omega
          · exact hS.out j (by omega))⟩
        case measure => simp [intOf]; omega
    · have HR := Lib.hid (HN.out fun j hj => hS.out j (by have := HZ.out; omega))
      go_wp2
      go_ret
      exact ⟨_, rfl, Lib.hid (by rw [HR.out]; rfl), by omega, by omega, rfl⟩
set_option maxHeartbeats 2000000 in
theorem RingHome_any (A : Option Addr) (n c : Nat) (zs : List Int) (key s : Int) (w : World) (h : Lies w w.heap.size A n (zs.map (Value.int .i64))) (hn : n ≤ 1048576) :
    Calls Try.prog 22 #[.int .i64 key, .int .i64 s, .slice A n c] w fun e w' => e = .returned (.tuple #[.int .i64 (rhV key s zs), .bool (rhB key s zs)]) ∧ Below w.heap.size w w' := by
  have hmf : ∀ (fn : Fn) (first cap : Array Value) (w : World), (Instr.makeFunc fn first cap).run Try.prog w = .ok (.func fn first cap) w := fun _ _ _ _ => rfl
  have hzl : zs.length = n := by have := h.1; simpa using this
  have HZ := Lib.hid hzl
  clear hzl
  rcases h1 : isK key
  · have hb := Lib.hid (rhB_f1 (zs := zs) (bothK_f1 (s := s) h1))
    go_enter Try.func22, Try.ntmps22
    go_wp2_with (go_at_call 47; refine (IsKey_any _ _).mono ?_; rintro e w' ⟨rfl, rfl⟩)
    go_ret2
    exact ⟨ret2 (rhV_f hb.out).symm hb.out.symm, Below.refl _ _⟩
  rcases h2 : isK s
  · have hb := Lib.hid (rhB_f1 (zs := zs) (bothK_f2 (k := key) h2))
    go_enter Try.func22, Try.ntmps22
    go_wp2_with (go_at_call 47; refine (IsKey_any _ _).mono ?_; rintro e w' ⟨rfl, rfl⟩)
    go_ret2
    exact ⟨ret2 (rhV_f hb.out).symm hb.out.symm, Below.refl _ _⟩
  rcases n with _ | n
  · have hb := Lib.hid (rhB_f3 (key := key) (s := s) (zs := zs) (by have := HZ.out; omega))
    go_enter Try.func22, Try.ntmps22
    go_wp2_with (go_at_call 47; refine (IsKey_any _ _).mono ?_; rintro e w' ⟨rfl, rfl⟩)
    go_ret2
    exact ⟨ret2 (rhV_f hb.out).symm hb.out.symm, Below.refl _ _⟩
  rcases h3 : keysB zs
  · have hb := Lib.hid (rhB_f2 (key := key) (s := s) h3)
    go_enter Try.func22, Try.ntmps22
    go_wp2_with (first | (go_at_call 47; refine (IsKey_any _ _).mono ?_; rintro e w' ⟨rfl, rfl⟩) | (go_at_call 15; refine (AreKeys_any _ _ _ _ _ _ h hn).mono ?_; rintro e w' ⟨rfl, rfl⟩))
    go_ret2
    exact ⟨ret2 (rhV_f hb.out).symm hb.out.symm, Below.refl _ _⟩
  rcases h4 : srtB zs
  · have hb := Lib.hid (rhB_f4 (key := key) (s := s) h4)
    go_enter Try.func22, Try.ntmps22
    go_wp2_with (first | (go_at_call 47; refine (IsKey_any _ _).mono ?_; rintro e w' ⟨rfl, rfl⟩) | (go_at_call 15; refine (AreKeys_any _ _ _ _ _ _ h hn).mono ?_; rintro e w' ⟨rfl, rfl⟩) | (go_at_call 54; refine (IsSorted_any _ _ _ _ _ _ h (by omega)).mono ?_; rintro e w' ⟨m, rfl, rfl⟩))
    go_ret2
    exact ⟨ret2 (rhV_f hb.out).symm hb.out.symm, below_dn (Below.refl _ _) _⟩
  · have hb := Lib.hid (rhB_t (bothK_t h1 h2) h3 (by have := HZ.out; omega) h4)
    have hk := Lib.hid (isK_of h1)
    have hs := Lib.hid (isK_of h2)
    have HV := Lib.hid (rhV_t hb.out)
    go_enter Try.func22, Try.ntmps22
    go_wp2_with (first | (go_at_call 47; refine (IsKey_any _ _).mono ?_; rintro e w' ⟨rfl, rfl⟩) | (go_at_call 15; refine (AreKeys_any _ _ _ _ _ _ h hn).mono ?_; rintro e w' ⟨rfl, rfl⟩))
    refine (IsSorted_any _ _ _ _ _ _ h (by omega)).mono ?_
    rintro e w' ⟨m, rfl, rfl⟩
    have b1 := below_dn (Below.refl w.heap.size w) m
    have h1 := (h.dn m).more b1.size
    generalize w.drewN m = w1 at *
    go_wp2_with (go_at_call 48; refine (hash_any _ _ _ hk.out hs.out).mono ?_; rintro e w' ⟨rfl, rfl⟩)
    refine (ixGe_any _ _ _ _ _ zs (hsh key s) _ (h1.below ((Below.refl _ _).alloc (Nat.le_refl _) _)) hn (by simp)).mono ?_
    rintro e w' ⟨r, rfl, hr, hr1, hr2, rfl⟩
    go_wp2
    all_goals
      go_ret2
      exact ⟨ret2 (by rw [HV.out, ← hr.out]; omega) hb.out.symm, b1.trans (((Below.refl _ _).alloc (Nat.le_refl _) _).mono b1.size)⟩
end Go.Proofs.Ytcimnklgkdnaaaa
