/-
  Contracts of MeetingsOf and its twin: how many keys fall on the number of one before them.
-/
import Derived.Test.YtcimnklgkdnaaaaHome
import Derived.Test.YtcimnklgkdnaaaaSpread
import Derived.Maps.OwnSet
namespace Go.Proofs.Ytcimnklgkdnaaaa
open Go.RowKit Go.Maps

@[irreducible] def mtM (zs : List Int) (s n : Int) (k : Nat) (c : Int) : Bool := (List.range k).any fun j => decide (bel (zs.getD j 0) s n = c)
theorem mtM_zero (zs : List Int) (s n c : Int) : mtM zs s n 0 c = false := by unfold mtM; rfl
theorem mtM_succ (zs : List Int) (s n : Int) (k : Nat) (c : Int) : mtM zs s n (k + 1) c = (mtM zs s n k c || decide (bel (zs.getD k 0) s n = c)) := by
  unfold mtM; rw [List.range_succ, List.any_append]; simp
theorem mtM_t {zs : List Int} {s n : Int} {k j : Nat} {c : Int} (hj : j < k) (h : bel (zs.getD j 0) s n = c) : mtM zs s n k c = true := by
  unfold mtM; rw [List.any_eq_true]; exact ⟨j, List.mem_range.2 hj, decide_eq_true h⟩
theorem mtM_f {zs : List Int} {s n : Int} {k : Nat} {c : Int} (h : ∀ j, j < k → bel (zs.getD j 0) s n ≠ c) : mtM zs s n k c = false := by
  unfold mtM
  rw [List.any_eq_false]
  intro j hj
  simp only [decide_eq_true_eq]
  exact h j (List.mem_range.1 hj)
/-- How many of the first k. -/
@[irreducible] def mtC (zs : List Int) (s n : Int) (k : Nat) : Nat := k.rec 0 fun i c => if mtM zs s n i (bel (zs.getD i 0) s n) then c + 1 else c
theorem mtC_zero (zs : List Int) (s n : Int) : mtC zs s n 0 = 0 := by unfold mtC; rfl
theorem mtC_t {zs : List Int} {s n : Int} {k : Nat} (h : mtM zs s n k (bel (zs.getD k 0) s n) = true) : mtC zs s n (k + 1) = mtC zs s n k + 1 := by
  unfold mtC
  show (if mtM zs s n k _ then _ else _) = _
  rw [if_pos h]
theorem mtC_f {zs : List Int} {s n : Int} {k : Nat} (h : mtM zs s n k (bel (zs.getD k 0) s n) = false) : mtC zs s n (k + 1) = mtC zs s n k := by
  unfold mtC
  show (if mtM zs s n k _ then _ else _) = _
  rw [if_neg (by rw [h]; decide)]
theorem mtC_le (zs : List Int) (s n : Int) (k : Nat) : mtC zs s n k ≤ k := by
  induction k with
  | zero => rw [mtC_zero]; exact Nat.le_refl _
  | succ k ih =>
    rcases h : mtM zs s n k (bel (zs.getD k 0) s n)
    · rw [mtC_f h]; omega
    · rw [mtC_t h]; omega
@[irreducible] def mtB (zs : List Int) (s n : Int) : Bool := keysB zs && (isK s && inB n 1 4294967296)
@[irreducible] def mtV (zs : List Int) (s n : Int) : Int := if mtB zs s n then (mtC zs s n zs.length : Nat) else 0
theorem mtB_t {zs : List Int} {s n : Int} (h1 : keysB zs = true) (h2 : isK s = true) (h3 : inB n 1 4294967296 = true) : mtB zs s n = true := by unfold mtB; rw [h1, h2, h3]; rfl
theorem mtB_f1 {zs : List Int} {s n : Int} (h1 : keysB zs = false) : mtB zs s n = false := by unfold mtB; rw [h1]; rfl
theorem mtB_f2 {zs : List Int} {s n : Int} (h2 : isK s = false) : mtB zs s n = false := by unfold mtB; rw [h2]; simp
theorem mtB_f3 {zs : List Int} {s n : Int} (h3 : inB n 1 4294967296 = false) : mtB zs s n = false := by unfold mtB; rw [h3]; simp
theorem mtV_t {zs : List Int} {s n : Int} (h : mtB zs s n = true) : mtV zs s n = (mtC zs s n zs.length : Nat) := by unfold mtV; rw [if_pos h]
theorem mtV_f {zs : List Int} {s n : Int} (h : mtB zs s n = false) : mtV zs s n = 0 := by unfold mtV; rw [if_neg (by rw [h]; decide)]
theorem wf_small {y : Int} (h : 0 ≤ y ∧ y ≤ 4294967295) : (Lit.int .i64 y).wf = true := by
  simp only [Lit.wf, IntKind.min, IntKind.max, IntKind.signed, IntKind.bits, Bool.and_eq_true, decide_eq_true_eq, if_true]
  omega
theorem elem_bool {P : Program} {e : TypeId} (he : P.underlying e = some .bool) {v : Value} {c : Bool} {ps : List MemPlace} (h : plainElem (H := Unit) P e v = some (.lit (.bool c), ps)) : v = .bool c := by
  unfold plainElem at h
  rw [he] at h
  cases v <;> simp at h
  rw [h.1]
set_option maxHeartbeats 2000000 in
theorem sMeetingsOf_any (A : Option Addr) (n c : Nat) (zs : List Int) (s m : Int) (w : World) (h : Lies w w.heap.size A n (zs.map (Value.int .i64))) (hn : n ≤ 1048576) :
    Calls Try.prog 19 #[.slice A n c, .int .i64 s, .int .i64 m] w fun e w' => e = .returned (.tuple #[.int .i64 (mtV zs s m), .bool (mtB zs s m)]) ∧ Below w.heap.size w w' := by
  have hzl : zs.length = n := by have := h.1; simpa using this
  have HZ := Lib.hid hzl
  clear hzl
  rcases h1 : keysB zs
  · have hb := Lib.hid (mtB_f1 (s := s) (n := m) h1)
    go_enter Try.func19, Try.ntmps19
    go_wp2_with (go_at_call 43; refine (l02Keys_any _ _ _ _ _ _ h hn).mono ?_; rintro e w' ⟨rfl, rfl⟩)
    go_ret2
    exact ⟨ret2 (mtV_f hb.out).symm hb.out.symm, Below.refl _ _⟩
  · have hk := Lib.hid (keys_of h1)
    rcases h2 : isK s
    · have hb := Lib.hid (mtB_f2 (zs := zs) (n := m) h2)
      go_enter Try.func19, Try.ntmps19
      go_wp2_with (first | (go_at_call 43; refine (l02Keys_any _ _ _ _ _ _ h hn).mono ?_; rintro e w' ⟨rfl, rfl⟩) | (go_at_call 45; refine (l02Key_any _ _).mono ?_; rintro e w' ⟨rfl, rfl⟩))
      go_ret2
      exact ⟨ret2 (mtV_f hb.out).symm hb.out.symm, Below.refl _ _⟩
    · rcases h3 : inB m 1 4294967296
      · have hb := Lib.hid (mtB_f3 (zs := zs) (s := s) h3)
        go_enter Try.func19, Try.ntmps19
        go_wp2_with (first | (go_at_call 43; refine (l02Keys_any _ _ _ _ _ _ h hn).mono ?_; rintro e w' ⟨rfl, rfl⟩) | (go_at_call 45; refine (l02Key_any _ _).mono ?_; rintro e w' ⟨rfl, rfl⟩) | (go_at_call 49; refine (l00In_any _ _ _ _).mono ?_; rintro e w' ⟨rfl, rfl⟩))
        go_ret2
        exact ⟨ret2 (mtV_f hb.out).symm hb.out.symm, Below.refl _ _⟩
      · have hb := Lib.hid (mtB_t h1 h2 h3)
        have hs := Lib.hid (isK_of h2)
        obtain ⟨m1, m2⟩ := inB_of h3
        go_enter Try.func19, Try.ntmps19
        go_wp2_with (first | (go_at_call 43; refine (l02Keys_any _ _ _ _ _ _ h hn).mono ?_; rintro e w' ⟨rfl, rfl⟩) | (go_at_call 45; refine (l02Key_any _ _).mono ?_; rintro e w' ⟨rfl, rfl⟩) | (go_at_call 49; refine (l00In_any _ _ _ _).mono ?_; rintro e w' ⟨rfl, rfl⟩))
        go_loopw [8, 9] (fun q i wr => ∃ k d : Nat, k ≤ n ∧ i = .int .i64 k ∧ q = .int .i64 (mtC zs s m k : Nat) ∧ wr = w.drewN d) (fun _ i _ => n - (intOf i).toNat)
        case atStart => exact ⟨0, 0, Nat.zero_le _, rfl, by rw [mtC_zero]; rfl, rfl⟩
        case round =>
          obtain ⟨k, d, hk1, rfl, rfl, rfl⟩ := hrel
          have hcl := mtC_le zs s m k
          by_cases hlt : k < n
          · obtain ⟨ad, rfl, hab, hc⟩ := h.at_ hlt
            rw [ints_getD .i64 zs (by have := HZ.out; omega)] at hc
            have hx := hk.out.2 k (by have := HZ.out; omega)
            have HT := Lib.hid (mtC_t (zs := zs) (s := s) (n := m) (k := k))
            have HF := Lib.hid (mtC_f (zs := zs) (s := s) (n := m) (k := k))
            generalize zs.getD k 0 = x at *
            go_wp2
            go_loopw [8, 10] (fun q i wr => ∃ j d' : Nat, j ≤ k ∧ q = .int .i64 (mtC zs s m k : Nat) ∧ i = .int .i64 j ∧ wr = w.drewN d' ∧ Hid (∀ t, t < j → bel (zs.getD t 0) s m ≠ bel x s m)) (fun _ i _ => k - (intOf i).toNat)
            case atStart => exact ⟨0, d, Nat.zero_le _, rfl, rfl, rfl, Lib.hid (fun t ht => absurd ht (by omega))⟩
            case round =>
              obtain ⟨j, d', hj1, rfl, rfl, rfl, hS⟩ := hrel
              by_cases hjk : j < k
              · have hjn : j < n := by omega
                obtain ⟨ad', hA', hab', hc'⟩ := h.at_ hjn
                obtain rfl : ad = ad' := by injection hA'
                clear hA'
                rw [ints_getD .i64 zs (by have := HZ.out; omega)] at hc'
                have hy := hk.out.2 j (by have := HZ.out; omega)
                obtain ⟨y, HY⟩ : ∃ y, Hid (zs.getD j 0 = y) := ⟨_, Lib.hid rfl⟩
                rw [HY.out] at hc' hy
                by_cases he : bel x s m = bel y s m
                · have HC := Lib.hid (HT.out (mtM_t hjk (by rw [HY.out]; exact he.symm)))
                  have heb : (bel x s m == bel y s m) = true := beq_iff_eq.2 he
                  clear he
                  go_wp2
                  go_quiet ((go_at_call 50; exact quiet_la (l02Below_any _ _ _ _ (by first | exact hx | exact hy) hs.out ⟨m1, m2⟩)))
                  go_wp2
                  go_roundw
                  case rel => exact ⟨k + 1, _, by omega, by go_num, by rw [HC.out]; go_num, rfl⟩
                  case measure => simp [intOf]; omega
                · have HE := Lib.hid he
                  have heb : (bel x s m == bel y s m) = false := beq_eq_false_iff_ne.2 he
                  clear he
                  go_wp2
                  go_quiet ((go_at_call 50; exact quiet_la (l02Below_any _ _ _ _ (by first | exact hx | exact hy) hs.out ⟨m1, m2⟩)))
                  go_wp2
                  go_roundw
                  case rel => exact ⟨j + 1, _, by omega, rfl, by go_num, rfl, Lib.hid (fun t ht => by
                    by_cases e : t = j
                    · subst e; rw [HY.out]; exact fun q => HE.out q.symm
                    · exact hS.out t (by omega))⟩
                  case measure => simp [intOf]; omega
              · have HC := Lib.hid (HF.out (mtM_f fun t ht => hS.out t (by omega)))
                go_wp2
                go_roundw
                case rel => exact ⟨k + 1, _, by omega, by go_num, by rw [HC.out], rfl⟩
                case measure => simp [intOf]; omega
          · go_wp2
            go_ret2
            obtain rfl : k = n := by omega
            exact ⟨ret2 (by rw [mtV_t hb.out, HZ.out]) hb.out.symm, below_dn (Below.refl _ _) _⟩
set_option maxHeartbeats 2000000 in
theorem MeetingsOf_any (A : Option Addr) (n c : Nat) (zs : List Int) (s m : Int) (w : World) (h : Lies w w.heap.size A n (zs.map (Value.int .i64))) (hn : n ≤ 1048576) :
    Calls Try.prog 20 #[.slice A n c, .int .i64 s, .int .i64 m] w fun e w' => e = .returned (.tuple #[.int .i64 (mtV zs s m), .bool (mtB zs s m)]) ∧ Below w.heap.size w w' := by
  have hzl : zs.length = n := by have := h.1; simpa using this
  have HZ := Lib.hid hzl
  clear hzl
  rcases h1 : keysB zs
  · have hb := Lib.hid (mtB_f1 (s := s) (n := m) h1)
    go_enter Try.func20, Try.ntmps20
    go_wp2_with (go_at_call 15; refine (AreKeys_any _ _ _ _ _ _ h hn).mono ?_; rintro e w' ⟨rfl, rfl⟩)
    go_ret2
    exact ⟨ret2 (mtV_f hb.out).symm hb.out.symm, Below.refl _ _⟩
  · have hk := Lib.hid (keys_of h1)
    rcases h2 : isK s
    · have hb := Lib.hid (mtB_f2 (zs := zs) (n := m) h2)
      go_enter Try.func20, Try.ntmps20
      go_wp2_with (first | (go_at_call 15; refine (AreKeys_any _ _ _ _ _ _ h hn).mono ?_; rintro e w' ⟨rfl, rfl⟩) | (go_at_call 47; refine (IsKey_any _ _).mono ?_; rintro e w' ⟨rfl, rfl⟩))
      go_ret2
      exact ⟨ret2 (mtV_f hb.out).symm hb.out.symm, Below.refl _ _⟩
    · rcases h3 : inB m 1 4294967296
      · have hb := Lib.hid (mtB_f3 (zs := zs) (s := s) h3)
        go_enter Try.func20, Try.ntmps20
        go_wp2_with (first | (go_at_call 15; refine (AreKeys_any _ _ _ _ _ _ h hn).mono ?_; rintro e w' ⟨rfl, rfl⟩) | (go_at_call 47; refine (IsKey_any _ _).mono ?_; rintro e w' ⟨rfl, rfl⟩) | (go_at_call 51; refine (within_any _ _ _ _).mono ?_; rintro e w' ⟨rfl, rfl⟩))
        go_ret2
        exact ⟨ret2 (mtV_f hb.out).symm hb.out.symm, Below.refl _ _⟩
      · have hb := Lib.hid (mtB_t h1 h2 h3)
        have hs := Lib.hid (isK_of h2)
        obtain ⟨m1, m2⟩ := inB_of h3
        have hmm : ∀ (t : TypeId) (W : World), (Instr.makeMap t none).run Try.prog W = .ok (.map (some W.heap.size)) (W.alloc (.map #[] 0)) := fun _ _ => rfl
        have zero4 : ∀ W : World, (zeroValue 4).run Try.prog W = .ok (.bool false) W := fun _ => by kernel_rfl
        have Z4 := Lib.hid zero4
        have law : Keyed Try.prog 2 := int_keyed Try.underlying2
        have Law := Lib.hid law
        clear zero4 law
        go_enter Try.func20, Try.ntmps20
        go_wp2_with (first | (go_at_call 15; refine (AreKeys_any _ _ _ _ _ _ h hn).mono ?_; rintro e w' ⟨rfl, rfl⟩) | (go_at_call 47; refine (IsKey_any _ _).mono ?_; rintro e w' ⟨rfl, rfl⟩) | (go_at_call 51; refine (within_any _ _ _ _).mono ?_; rintro e w' ⟨rfl, rfl⟩))
        clear hmm
        go_loopw [9, 29] (fun q i wr => ∃ (k : Nat) (D : DataW Unit), k ≤ n ∧ i = .int .i64 k ∧ q = .int .i64 (mtC zs s m k : Nat) ∧ Hid (wr.ownsMap Try.prog 2 (plainElem Try.prog 4) w.heap.size k D) ∧
            Hid (∀ c : Int, D.atKey (.int .i64 c) (.lit (.bool false)) = .lit (.bool (mtM zs s m k c))) ∧ Hid (Below w.heap.size w wr)) (fun _ i _ => n - (intOf i).toNat)
        case atStart => exact ⟨0, _, Nat.zero_le _, rfl, by rw [mtC_zero]; rfl, Lib.hid (World.ownsMap_made _ _ _ _), Lib.hid (fun c => by rw [mtM_zero]; rfl), Lib.hid ((Below.refl _ _).alloc (Nat.le_refl _) _)⟩
        case round =>
          obtain ⟨k, D, hk1, rfl, rfl, hM, hD, hB⟩ := hrel
          have hcl := mtC_le zs s m k
          by_cases hlt : k < n
          · obtain ⟨ad, rfl, hab, hc⟩ := h.at_ hlt
            rw [ints_getD .i64 zs (by have := HZ.out; omega)] at hc
            have hc1 := (hB.out.cell (p := ad.add k) (by rw [addb]; exact hab)).trans hc
            have hx := hk.out.2 k (by have := HZ.out; omega)
            have HT := Lib.hid (mtC_t (zs := zs) (s := s) (n := m) (k := k))
            have HF := Lib.hid (mtC_f (zs := zs) (s := s) (n := m) (k := k))
            have HS := Lib.hid (mtM_succ zs s m k)
            clear hc
            generalize zs.getD k 0 = x at *
            have hcall : ∀ W : World, Calls Try.prog 52 #[.int .i64 x, .int .i64 s, .int .i64 m] W fun e w' => e = .returned (.int .i64 (bel x s m)) ∧ W = w' := fun W => below_any x s m W hx hs.out ⟨m1, m2⟩
            have hCall := Lib.hid hcall
            have hbd := bel_bd x s m
            have hkey := keyOf_int_mk (P := Try.prog) (k := 2) Try.underlying2 (wf_small hbd)
            have HKEY := Lib.hid hkey
            clear hcall hx hkey
            generalize bel x s m = y at *
            obtain ⟨v, ps, hrun, hv⟩ := hM.out.lookup Law.out Try.underlying59 (Z4.out wr) (plainElem_bool Try.underlying4 false) HKEY.out
            rw [hD.out y] at hv
            obtain rfl := elem_bool Try.underlying4 hv
            clear hv
            have hsz := hB.out.size
            rcases hy : mtM zs s m k y
            all_goals
              rw [hy] at hrun
              have HY := Lib.hid hy
              clear hy
            case' false => have HC := Lib.hid (HF.out HY.out)
            case' true => have HC := Lib.hid (HT.out HY.out)
            all_goals
              go_wp2_with (first | (go_at_call 52; refine (hCall.out _).mono ?_; rintro e w' ⟨rfl, rfl⟩) | (at_mapUpdate; refine wpList_mapUpdate_own _ rfl _ _ _ 59 rfl 2 4 Law.out Try.underlying59 _ w.heap.size k _ rfl hM.out (by unfold maxLen; omega) _ _ _ rfl rfl HKEY.out _ [] (plainElem_bool Try.underlying4 true) ?_; intro w1 hown1 hgrow1))
              have HO1 := Lib.hid hown1
              have HB1 : Hid (Below w.heap.size w w1) := Lib.hid (hB.out.grown hgrow1 hsz (fun j hj => by cases hj; exact Nat.le_refl _))
              have HD1 : Hid (∀ c : Int, (D.put (.int .i64 y) (.lit (.bool true))).atKey (.int .i64 c) (.lit (.bool false)) = .lit (.bool (mtM zs s m (k + 1) c))) := Lib.hid (fun c => by
                rw [HS.out c]
                by_cases e : y = c
                · subst e
                  rw [Maps.atKey_put_same hM.out.isMap (k := .int .i64 y) (show WideAt.IsKeyLit (.int .i64 y) from trivial), decide_eq_true rfl, Bool.or_true]
                · rw [Maps.atKey_put_other (fun q => e (by injection q with _ q; exact q.symm)), hD.out c, decide_eq_false e, Bool.or_false])
              clear hown1 hgrow1 hrun
              go_wp2
              go_roundw
              case rel => exact ⟨k + 1, _, by omega, by go_num, (by rw [HC.out]; try go_num), HO1, HD1, HB1⟩
              case measure => simp [intOf]; omega
          · go_wp2
            go_ret2
            obtain rfl : k = n := by omega
            exact ⟨ret2 (by rw [mtV_t hb.out, HZ.out]) hb.out.symm, hB.out⟩
end Go.Proofs.Ytcimnklgkdnaaaa
