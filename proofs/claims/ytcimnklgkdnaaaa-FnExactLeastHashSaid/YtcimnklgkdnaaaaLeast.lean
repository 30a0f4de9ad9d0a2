/-
  Contracts of LeastHash and its twin: the least hash and the first index of it.
-/
import Derived.Test.YtcimnklgkdnaaaaHome
namespace Go.Proofs.Ytcimnklgkdnaaaa
open Go.RowKit

@[irreducible] def lsL (zs : List Int) (s : Int) : List Int := zs.map fun z => hsh z s
theorem lsL_row (zs : List Int) (s : Int) : rowL zs s = (lsL zs s).map (Value.int .i64) := by unfold rowL lsL; rfl
theorem lsL_len (zs : List Int) (s : Int) : (lsL zs s).length = zs.length := by unfold lsL; simp
theorem lsL_at {zs : List Int} {s : Int} {i : Nat} (h : i < zs.length) : (lsL zs s).getD i 0 = hsh (zs.getD i 0) s := by
  unfold lsL; simp [List.getD, List.getElem?_eq_getElem h]
@[irreducible] def lsG (l : List Int) (i b : Nat) : Bool := decide (l.getD i 0 < l.getD b 0)
theorem lsG_eq (l : List Int) (i b : Nat) : lsG l i b = decide (l.getD i 0 < l.getD b 0) := by unfold lsG; rfl
/-- The first of the least. -/
theorem bst_least (l : List Int) (k : Nat) : (∀ j, j < k + 1 → l.getD (bst (lsG l) (k + 1)) 0 ≤ l.getD j 0) ∧ ∀ j, j < bst (lsG l) (k + 1) → l.getD (bst (lsG l) (k + 1)) 0 < l.getD j 0 := by
  induction k with
  | zero =>
    rw [bst_one]
    exact ⟨fun j hj => by obtain rfl : j = 0 := by omega
                          exact Int.le_refl _, fun j hj => absurd hj (by omega)⟩
  | succ k ih =>
    rcases h : lsG l (k + 1) (bst (lsG l) (k + 1))
    · rw [bst_f h]
      rw [lsG_eq] at h
      have h' := of_decide_eq_false h
      refine ⟨fun j hj => ?_, ih.2⟩
      by_cases e : j = k + 1
      · subst e; omega
      · exact ih.1 j (by omega)
    · rw [bst_t h]
      rw [lsG_eq] at h
      have h' := of_decide_eq_true h
      refine ⟨fun j hj => ?_, fun j hj => ?_⟩
      · by_cases e : j = k + 1
        · subst e; exact Int.le_refl _
        · have := ih.1 j (by omega); omega
      · have := ih.1 j (by omega); omega
@[irreducible] def lsB (zs : List Int) (s : Int) : Bool := keysB zs && (decide (1 ≤ zs.length) && isK s)
@[irreducible] def lsI (zs : List Int) (s : Int) : Int := if lsB zs s then (bst (lsG (lsL zs s)) zs.length : Nat) else 0
@[irreducible] def lsV (zs : List Int) (s : Int) : Int := if lsB zs s then (lsL zs s).getD (bst (lsG (lsL zs s)) zs.length) 0 else 0
theorem lsB_t {zs : List Int} {s : Int} (h1 : keysB zs = true) (h2 : 1 ≤ zs.length) (h3 : isK s = true) : lsB zs s = true := by unfold lsB; rw [h1, decide_eq_true h2, h3]; rfl
theorem lsB_f1 {zs : List Int} {s : Int} (h1 : keysB zs = false) : lsB zs s = false := by unfold lsB; rw [h1]; rfl
theorem lsB_f2 {zs : List Int} {s : Int} (h2 : ¬ 1 ≤ zs.length) : lsB zs s = false := by unfold lsB; rw [decide_eq_false h2]; simp
theorem lsB_f3 {zs : List Int} {s : Int} (h3 : isK s = false) : lsB zs s = false := by unfold lsB; rw [h3]; simp
theorem lsI_t {zs : List Int} {s : Int} (h : lsB zs s = true) : lsI zs s = (bst (lsG (lsL zs s)) zs.length : Nat) := by unfold lsI; rw [if_pos h]
theorem lsI_f {zs : List Int} {s : Int} (h : lsB zs s = false) : lsI zs s = 0 := by unfold lsI; rw [if_neg (by rw [h]; decide)]
theorem lsV_t {zs : List Int} {s : Int} (h : lsB zs s = true) : lsV zs s = (lsL zs s).getD (bst (lsG (lsL zs s)) zs.length) 0 := by unfold lsV; rw [if_pos h]
theorem lsV_f {zs : List Int} {s : Int} (h : lsB zs s = false) : lsV zs s = 0 := by unfold lsV; rw [if_neg (by rw [h]; decide)]
theorem ret3 {v v' u u' : Int} {b b' : Bool} (h1 : v = v') (h2 : u = u') (h3 : b = b') : Ending.returned (.tuple #[.int .i64 v, .int .i64 u, .bool b]) = .returned (.tuple #[.int .i64 v', .int .i64 u', .bool b']) := by rw [h1, h2, h3]
theorem ret2i {v v' u u' : Int} (h1 : v = v') (h2 : u = u') : Ending.returned (.tuple #[.int .i64 v, .int .i64 u]) = .returned (.tuple #[.int .i64 v', .int .i64 u']) := by rw [h1, h2]

set_option maxHeartbeats 1600000 in
theorem l02LeastAt_any (A : Option Addr) (n c B : Nat) (zs : List Int) (s : Int) (w : World) (h : Lies w B A n (zs.map (Value.int .i64))) (hn : n ≤ 1048576) (h0 : 0 < n) (hz : ∀ k, k < zs.length → 0 ≤ zs.getD k 0 ∧ zs.getD k 0 ≤ 4294967295) (hs : 0 ≤ s ∧ s ≤ 4294967295) :
    Calls Try.prog 59 #[.slice A n c, .int .i64 s] w fun e w' => ∃ m, e = .returned (.int .i64 (bst (lsG (lsL zs s)) n : Nat)) ∧ w' = w.drewN m := by
  have hzl : zs.length = n := by have := h.1; simpa using this
  have HZ := Lib.hid hzl
  have HK := Lib.hid hz
  clear hzl hz
  go_enter Try.func59, Try.ntmps59
  go_wp2
  go_loopw [5, 6] (fun b i wr => ∃ k m : Nat, 1 ≤ k ∧ k ≤ n ∧ i = .int .i64 k ∧ b = .int .i64 (bst (lsG (lsL zs s)) k : Nat) ∧ wr = w.drewN m) (fun _ i _ => n - (intOf i).toNat)
  case atStart => exact ⟨1, 0, Nat.le_refl _, h0, rfl, by rw [bst_one]; rfl, rfl⟩
  case round =>
    obtain ⟨k, m, hk0, hk1, rfl, rfl, rfl⟩ := hrel
    by_cases hlt : k < n
    · have hj := bst_lt' (lsG (lsL zs s)) hk1 (by omega)
      have HG1 := Lib.hid (bst_t (g := lsG (lsL zs s)) (k := k))
      have HG2 := Lib.hid (bst_f (g := lsG (lsL zs s)) (k := k))
      have HG : Hid (lsG (lsL zs s) k (bst (lsG (lsL zs s)) k) = decide (hsh (zs.getD k 0) s < hsh (zs.getD (bst (lsG (lsL zs s)) k) 0) s)) := Lib.hid (by rw [lsG_eq, lsL_at (by have := HZ.out; omega), lsL_at (by have := HZ.out; omega)])
      generalize bst (lsG (lsL zs s)) k = j at *
      obtain ⟨ad, hA, hab, hc⟩ := h.at_ hlt
      obtain ⟨ad', hA', hab', hc'⟩ := h.at_ hj
      rw [hA] at hA'
      obtain rfl : ad = ad' := by injection hA'
      subst hA
      clear hA'
      rw [ints_getD .i64 zs (by have := HZ.out; omega)] at hc hc'
      have hx := HK.out k (by have := HZ.out; omega)
      have hy := HK.out j (by have := HZ.out; omega)
      generalize zs.getD k 0 = x at *
      generalize zs.getD j 0 = y at *
      by_cases hgt : hsh x s < hsh y s
      · have HR := Lib.hid (HG1.out (by rw [HG.out]; exact decide_eq_true hgt))
        go_wp2
        go_quiet ((go_at_call 46; exact quiet_la (l02Hash_any _ _ _ (by first | exact hx | exact hy) hs)))
        go_wp2
        go_roundw
        case rel => exact ⟨k + 1, _, by omega, by omega, by go_num, by rw [HR.out], rfl⟩
        case measure => simp [intOf]; omega
      · have HR := Lib.hid (HG2.out (by rw [HG.out]; exact decide_eq_false hgt))
        go_wp2
        go_quiet ((go_at_call 46; exact quiet_la (l02Hash_any _ _ _ (by first | exact hx | exact hy) hs)))
        go_wp2
        go_roundw
        case rel => exact ⟨k + 1, _, by omega, by omega, by go_num, by rw [HR.out], rfl⟩
        case measure => simp [intOf]; omega
    · go_wp2
      go_ret
      obtain rfl : k = n := by omega
      exact ⟨_, rfl, rfl⟩
set_option maxHeartbeats 1600000 in
theorem Min_any (A : Option Addr) (n c B : Nat) (l : List Int) (w : World) (h : Lies w B A n (l.map (Value.int .i64))) (hn : n ≤ 1048576) (h0 : 0 < n) :
    Calls Try.prog 69 #[.slice A n c] w fun e w' => e = .returned (.int .i64 (l.getD (bst (lsG l) n) 0)) ∧ w = w' := by
  have hzl : l.length = n := by have := h.1; simpa using this
  have HZ := Lib.hid hzl
  obtain ⟨ad0, rfl, hab0, hc0⟩ := h.at_ h0
  rw [ints_getD .i64 l (by omega)] at hc0
  have ha0 : ad0.add 0 = ad0 := by simp [Addr.add]
  rw [ha0] at hc0
  clear hzl ha0
  go_enter Try.func69, Try.ntmps69
  go_wp2
  go_loop [3, 4] (fun b i => ∃ k : Nat, 1 ≤ k ∧ k ≤ n ∧ i = .int .i64 k ∧ b = .int .i64 (l.getD (bst (lsG l) k) 0)) (fun _ i => n - (intOf i).toNat)
  case atStart => exact ⟨1, Nat.le_refl _, h0, rfl, by rw [bst_one, List.getD_eq_getElem?_getD]⟩
  case round =>
    clear hc0
    obtain ⟨k, hk0, hk1, rfl, rfl⟩ := hrel
    by_cases hlt : k < n
    · have HG1 := Lib.hid (bst_t (g := lsG l) (k := k))
      have HG2 := Lib.hid (bst_f (g := lsG l) (k := k))
      have HG := Lib.hid (lsG_eq l k (bst (lsG l) k))
      generalize bst (lsG l) k = j at *
      obtain ⟨ad, hA, hab, hc⟩ := h.at_ hlt
      obtain rfl : ad0 = ad := by injection hA
      clear hA
      rw [ints_getD .i64 l (by have := HZ.out; omega)] at hc
      obtain ⟨x, HX⟩ : ∃ x, Hid (l.getD k 0 = x) := ⟨_, Lib.hid rfl⟩
      obtain ⟨y, HY⟩ : ∃ y, Hid (l.getD j 0 = y) := ⟨_, Lib.hid rfl⟩
      rw [HX.out] at hc
      rw [HY.out]
      by_cases hgt : x < y
      · have HR := Lib.hid (HG1.out (by rw [HG.out, HX.out, HY.out]; exact decide_eq_true hgt))
        go_wp2
        go_round
        case rel => exact ⟨k + 1, by omega, by omega, by go_num, by rw [HR.out, HX.out]⟩
        case measure => simp [intOf]; omega
      · have HR := Lib.hid (HG2.out (by rw [HG.out, HX.out, HY.out]; exact decide_eq_false hgt))
        go_wp2
        go_round
        case rel => exact ⟨k + 1, by omega, by omega, by go_num, by rw [HR.out, HY.out]⟩
        case measure => simp [intOf]; omega
    · go_wp2
      go_ret
      obtain rfl : k = n := by omega
      exact ⟨rfl, rfl⟩
set_option maxHeartbeats 1600000 in
theorem Index_any (A : Option Addr) (n c B : Nat) (l : List Int) (v : Int) (b : Nat) (w : World) (h : Lies w B A n (l.map (Value.int .i64))) (hn : n ≤ 1048576) (hb : b < n) (hv : l.getD b 0 = v) (hf : ∀ j, j < b → v < l.getD j 0) :
    Calls Try.prog 70 #[.slice A n c, .int .i64 v] w fun e w' => e = .returned (.int .i64 (b : Int)) ∧ w = w' := by
  have hzl : l.length = n := by have := h.1; simpa using this
  have HZ := Lib.hid hzl
  have HV := Lib.hid hv
  have HF := Lib.hid hf
  clear hzl hv hf
  go_enter Try.func70, Try.ntmps70
  go_wp2
  go_loop [8] (fun i => ∃ k : Nat, k ≤ b ∧ i = .int .i64 k) (fun i => n - (intOf i).toNat)
  case atStart => exact ⟨0, Nat.zero_le _, rfl⟩
  case round =>
    obtain ⟨k, hk, rfl⟩ := hrel
    have hlt : k < n := by omega
    obtain ⟨ad, rfl, hab, hc⟩ := h.at_ hlt
    rw [ints_getD .i64 l (by have := HZ.out; omega)] at hc
    by_cases e : k = b
    · obtain rfl := e
      rw [HV.out] at hc
      go_wp2
      go_ret
      exact ⟨rfl, rfl⟩
    · have hkb : k < b := by omega
      have hlt2 := HF.out k hkb
      obtain ⟨x, HX⟩ : ∃ x, Hid (l.getD k 0 = x) := ⟨_, Lib.hid rfl⟩
      rw [HX.out] at hc hlt2
      have hne : (v == x) = false := by rw [beq_eq_false_iff_ne]; omega
      clear e
      go_wp2
      go_round
      case rel => exact ⟨k + 1, by omega, by go_num⟩
      case measure => simp [intOf]; omega
set_option maxHeartbeats 800000 in
theorem least_any (A : Option Addr) (n c : Nat) (zs : List Int) (s : Int) (w : World) (h : Lies w w.heap.size A n (zs.map (Value.int .i64))) (hn : n ≤ 1048576) (h0 : 0 < n) (hz : ∀ k, k < zs.length → 0 ≤ zs.getD k 0 ∧ zs.getD k 0 ≤ 4294967295) (hs : 0 ≤ s ∧ s ≤ 4294967295) :
    Calls Try.prog 60 #[.slice A n c, .int .i64 s] w fun e w' => e = .returned (.tuple #[.int .i64 ((lsL zs s).getD (bst (lsG (lsL zs s)) n) 0), .int .i64 (bst (lsG (lsL zs s)) n : Nat)]) ∧ Below w.heap.size w w' := by
  have HZ : Hid ((lsL zs s).length = n) := Lib.hid (by rw [lsL_len]; have := h.1; simpa using this)
  have HC := Lib.hid (fun W => hashRow_any A n c zs s W)
  have hlb := bst_lt' (lsG (lsL zs s)) (Nat.le_refl n) h0
  have HF : Hid (∀ j, j < bst (lsG (lsL zs s)) n → (lsL zs s).getD (bst (lsG (lsL zs s)) n) 0 < (lsL zs s).getD j 0) := Lib.hid (by
    obtain ⟨k, rfl⟩ : ∃ k, n = k + 1 := ⟨n - 1, by omega⟩
    exact (bst_least _ k).2)
  go_enter Try.func60, Try.ntmps60
  go_wp2_with fail
  refine (hashRow_any _ _ _ _ _ _ h hn hz hs).mono ?_
  rintro e w1 ⟨A1, c1, rfl, ho, hb⟩
  rw [lsL_row] at ho
  go_wp2_with fail
  refine (Min_any _ _ _ _ (lsL zs s) _ (Lies.of_own ho) hn h0).mono ?_
  rintro e w' ⟨rfl, rfl⟩
  go_wp2_with fail
  refine (Index_any _ _ _ _ (lsL zs s) _ _ _ (Lies.of_own ho) hn hlb rfl HF.out).mono ?_
  rintro e w' ⟨rfl, rfl⟩
  go_wp2
  go_ret2
  exact ⟨rfl, hb⟩
set_option maxHeartbeats 1600000 in
theorem sLeastHash_any (A : Option Addr) (n c : Nat) (zs : List Int) (s : Int) (w : World) (h : Lies w w.heap.size A n (zs.map (Value.int .i64))) (hn : n ≤ 1048576) :
    Calls Try.prog 29 #[.slice A n c, .int .i64 s] w fun e w' => e = .returned (.tuple #[.int .i64 (lsV zs s), .int .i64 (lsI zs s), .bool (lsB zs s)]) ∧ Below w.heap.size w w' := by
  have hzl : zs.length = n := by have := h.1; simpa using this
  have HZ := Lib.hid hzl
  clear hzl
  rcases h1 : keysB zs
  · have hb := Lib.hid (lsB_f1 (s := s) h1)
    go_enter Try.func29, Try.ntmps29
    go_wp2_with (first | (go_at_call 43; refine (l02Keys_any _ _ _ _ _ _ h hn).mono ?_; rintro e w' ⟨rfl, rfl⟩) | (go_at_call 45; refine (l02Key_any _ _).mono ?_; rintro e w' ⟨rfl, rfl⟩))
    go_ret3
    exact ⟨ret3 (lsV_f hb.out).symm (lsI_f hb.out).symm hb.out.symm, Below.refl _ _⟩
  · by_cases h2 : 0 < n
    · have hk := Lib.hid (keys_of h1).2
      rcases h3 : isK s
      · have hb := Lib.hid (lsB_f3 (zs := zs) h3)
        go_enter Try.func29, Try.ntmps29
        go_wp2_with (first | (go_at_call 43; refine (l02Keys_any _ _ _ _ _ _ h hn).mono ?_; rintro e w' ⟨rfl, rfl⟩) | (go_at_call 45; refine (l02Key_any _ _).mono ?_; rintro e w' ⟨rfl, rfl⟩))
        go_ret3
        exact ⟨ret3 (lsV_f hb.out).symm (lsI_f hb.out).symm hb.out.symm, Below.refl _ _⟩
      have hb := Lib.hid (lsB_t h1 (by have := HZ.out; omega) h3)
      have hs := Lib.hid (isK_of h3)
      go_enter Try.func29, Try.ntmps29
      go_wp2_with (first | (go_at_call 43; refine (l02Keys_any _ _ _ _ _ _ h hn).mono ?_; rintro e w' ⟨rfl, rfl⟩) | (go_at_call 45; refine (l02Key_any _ _).mono ?_; rintro e w' ⟨rfl, rfl⟩))
      refine (l02LeastAt_any _ _ _ _ _ _ _ h hn h2 hk.out hs.out).mono ?_
      rintro e w1 ⟨m, rfl, rfl⟩
      have hlb := bst_lt' (lsG (lsL zs s)) (Nat.le_refl n) h2
      have HA : Hid ((lsL zs s).getD (bst (lsG (lsL zs s)) n) 0 = hsh (zs.getD (bst (lsG (lsL zs s)) n) 0) s) := Lib.hid (lsL_at (by have := HZ.out; omega))
      have HV := Lib.hid (lsV_t hb.out)
      have HI := Lib.hid (lsI_t hb.out)
      rw [HZ.out] at HV HI
      generalize bst (lsG (lsL zs s)) n = j at *
      obtain ⟨ad, rfl, hab, hc⟩ := h.at_ hlb
      rw [ints_getD .i64 zs (by have := HZ.out; omega)] at hc
      have hx := hk.out j (by have := HZ.out; omega)
      generalize zs.getD j 0 = x at *
      go_wp2_with (go_at_call 46; refine (l02Hash_any _ _ _ hx hs.out).mono ?_; rintro e w' ⟨rfl, rfl⟩)
      go_ret3
      exact ⟨ret3 (by rw [HV.out, HA.out]) (by rw [HI.out]) hb.out.symm, below_dn (Below.refl _ _) _⟩
    · have hb := Lib.hid (lsB_f2 (zs := zs) (s := s) (fun q => h2 (by have := HZ.out; omega)))
      obtain rfl : n = 0 := by omega
      go_enter Try.func29, Try.ntmps29
      go_wp2_with (first | (go_at_call 43; refine (l02Keys_any _ _ _ _ _ _ h hn).mono ?_; rintro e w' ⟨rfl, rfl⟩) | (go_at_call 45; refine (l02Key_any _ _).mono ?_; rintro e w' ⟨rfl, rfl⟩))
      go_ret3
      exact ⟨ret3 (lsV_f hb.out).symm (lsI_f hb.out).symm hb.out.symm, Below.refl _ _⟩
set_option maxHeartbeats 1600000 in
theorem LeastHash_any (A : Option Addr) (n c : Nat) (zs : List Int) (s : Int) (w : World) (h : Lies w w.heap.size A n (zs.map (Value.int .i64))) (hn : n ≤ 1048576) :
    Calls Try.prog 30 #[.slice A n c, .int .i64 s] w fun e w' => e = .returned (.tuple #[.int .i64 (lsV zs s), .int .i64 (lsI zs s), .bool (lsB zs s)]) ∧ Below w.heap.size w w' := by
  have hzl : zs.length = n := by have := h.1; simpa using this
  have HZ := Lib.hid hzl
  clear hzl
  rcases h1 : keysB zs
  · have hb := Lib.hid (lsB_f1 (s := s) h1)
    go_enter Try.func30, Try.ntmps30
    go_wp2_with (first | (go_at_call 15; refine (AreKeys_any _ _ _ _ _ _ h hn).mono ?_; rintro e w' ⟨rfl, rfl⟩) | (go_at_call 47; refine (IsKey_any _ _).mono ?_; rintro e w' ⟨rfl, rfl⟩))
    go_ret3
    exact ⟨ret3 (lsV_f hb.out).symm (lsI_f hb.out).symm hb.out.symm, Below.refl _ _⟩
  · by_cases h2 : 0 < n
    · have hk := Lib.hid (keys_of h1).2
      rcases h3 : isK s
      · have hb := Lib.hid (lsB_f3 (zs := zs) h3)
        go_enter Try.func30, Try.ntmps30
        go_wp2_with (first | (go_at_call 15; refine (AreKeys_any _ _ _ _ _ _ h hn).mono ?_; rintro e w' ⟨rfl, rfl⟩) | (go_at_call 47; refine (IsKey_any _ _).mono ?_; rintro e w' ⟨rfl, rfl⟩))
        go_ret3
        exact ⟨ret3 (lsV_f hb.out).symm (lsI_f hb.out).symm hb.out.symm, Below.refl _ _⟩
      have hb := Lib.hid (lsB_t h1 (by have := HZ.out; omega) h3)
      have hs := Lib.hid (isK_of h3)
      go_enter Try.func30, Try.ntmps30
      go_wp2_with (first | (go_at_call 15; refine (AreKeys_any _ _ _ _ _ _ h hn).mono ?_; rintro e w' ⟨rfl, rfl⟩) | (go_at_call 47; refine (IsKey_any _ _).mono ?_; rintro e w' ⟨rfl, rfl⟩))
      refine (least_any _ _ _ _ _ _ h hn h2 hk.out hs.out).mono ?_
      rintro e w1 ⟨rfl, hb1⟩
      go_wp2
      go_ret3
      exact ⟨ret3 (by rw [lsV_t hb.out, HZ.out, List.getD_eq_getElem?_getD]) (by rw [lsI_t hb.out, HZ.out]) hb.out.symm, hb1⟩
    · have hb := Lib.hid (lsB_f2 (zs := zs) (s := s) (fun q => h2 (by have := HZ.out; omega)))
      obtain rfl : n = 0 := by omega
      go_enter Try.func30, Try.ntmps30
      go_wp2_with (first | (go_at_call 15; refine (AreKeys_any _ _ _ _ _ _ h hn).mono ?_; rintro e w' ⟨rfl, rfl⟩) | (go_at_call 47; refine (IsKey_any _ _).mono ?_; rintro e w' ⟨rfl, rfl⟩))
      go_ret3
      exact ⟨ret3 (lsV_f hb.out).symm (lsI_f hb.out).symm hb.out.symm, Below.refl _ _⟩
end Go.Proofs.Ytcimnklgkdnaaaa
