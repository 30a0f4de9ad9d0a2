/-
  Contract of ReadDecimal.
-/
import Derived.Test.YtlbhmjkghdhlpaaDoorReadD
namespace Go.Proofs.YtlbhmjkghdhlpaaDoor
open Go.RowKit Go.Lib

theorem parse_wf {l : List UInt8} {v : Int} (h : parseIntB 64 l = .ok v) : (Lit.int .i64 v).wf = true := by
  have e63 : (2 : Nat) ^ (64 - 1) = 9223372036854775808 := by decide
  have key : -9223372036854775808 ≤ v ∧ v ≤ 9223372036854775807 := by
    unfold parseIntB at h
    split at h
    · cases h
    · dsimp only at h
      split at h
      · cases h
      · cases h
      · rw [e63] at h
        split at h
        · cases h
        · split at h
          · cases h
          · injection h with h
            subst h
            split <;> omega
  simp [Lit.wf, IntKind.min, IntKind.max, IntKind.signed, IntKind.bits]
  exact key
theorem okD_parse {l : List UInt8} (h : ∀ v, parseIntB 64 l = .ok v → False) : okD l = false := by
  rcases e : okD l
  · rfl
  · exact absurd (parse_okD e) (h _)
theorem okD_cases {l : List UInt8} {v : Int} (h : parseIntB 64 l = .ok v) : (isV v = true ∧ itoa v = l → rdV l = v ∧ rdB l = true) ∧ (¬ (isV v = true ∧ itoa v = l) → rdV l = 0 ∧ rdB l = false) := by
  refine ⟨fun ⟨h1, h2⟩ => ?_, fun hn => rd_no ?_⟩
  · obtain ⟨e1, e2⟩ := okD_of h1 h2
    unfold rdV rdB
    exact ⟨e2, e1⟩
  · rcases e : okD l
    · rfl
    · obtain ⟨e1, e2, _⟩ := of_okD e
      have := parse_okD e
      rw [h] at this
      injection this with this
      subst this
      exact absurd ⟨e1, e2⟩ hn
theorem ParseInt_ok (s : ByteArray) (v : Int) (w : World) (hs : s.size ≤ 1048576) (h : parseIntB 64 s.data.toList = .ok v) :
    Calls Tryd.prog 28 #[.string s, .int .i64 10, .int .i64 64] w fun e w' => e = .returned (.tuple #[.int .i64 v, .nilIface]) ∧ Below w.heap.size w w' := by
  refine (Tryd.strconv_ParseInt_10_at64_ok s (by omega) v h w).mono ?_
  rintro e w' ⟨rfl, rfl | ⟨t, rfl⟩⟩
  · exact ⟨rfl, Below.refl _ _⟩
  · exact ⟨rfl, bytesWorld_below _ _ _⟩
theorem ParseInt_no (s : ByteArray) (w : World) (hs : s.size ≤ 1048576) (hE : ErrT w) (h : ∀ v, parseIntB 64 s.data.toList = .ok v → False) :
    Calls Tryd.prog 28 #[.string s, .int .i64 10, .int .i64 64] w fun e w' => ∃ n t p, e = .returned (.tuple #[.int .i64 n, .iface t p]) ∧ Below w.heap.size w w' := by
  obtain ⟨⟨t1, p1, h1⟩, t2, p2, h2⟩ := hE
  rcases hp : parseIntB 64 s.data.toList with v | _ | _
  · exact absurd hp (h v)
  · refine (Any.strconv_ParseInt_10_at64_syntax Tryd.laysC174 s (by omega) hp _ w h1 (.inr ⟨_, _, rfl⟩)).mono ?_
    rintro e w' ⟨N, rfl, _, _, hb⟩
    exact ⟨_, _, _, rfl, hb⟩
  · refine (Tryd.strconv_ParseInt_10_at64_range s (by omega) hp _ w h2 (.inr ⟨_, _, rfl⟩)).mono ?_
    rintro e w' ⟨N, rfl, _, _, hb⟩
    exact ⟨_, _, _, rfl, hb⟩
set_option maxHeartbeats 400000 in
theorem isValue_any (n : Int) (w : World) : Calls Tryd.prog 29 #[.int .i64 n] w fun e w' => e = .returned (.bool (inB n (-1000000000000000) 1000000000000000)) ∧ w = w' := by
  go_enter Tryd.func29, Tryd.ntmps29
  go_wp2_with (go_at_call 37; refine (within_any _ _ _ _).mono ?_; rintro e w' ⟨rfl, rfl⟩)
  go_ret
  exact ⟨rfl, rfl⟩
set_option maxHeartbeats 1000000 in
theorem ReadDecimal_any (s : ByteArray) (w : World) (hs : s.size ≤ 1048576) (hT : PowT w) (hE : ErrT w) :
    Calls Tryd.prog 13 #[.string s] w fun e w' => e = .returned (.tuple #[.int .i64 (rdV s.data.toList), .bool (rdB s.data.toList)]) ∧ Below w.heap.size w w' := by
  have HT := Lib.hid hT
  have HE := Lib.hid hE
  clear hT hE
  by_cases hp : ∃ v, parseIntB 64 s.data.toList = .ok v
  · obtain ⟨v, hv⟩ := hp
    have HV := Lib.hid hv
    have HW := Lib.hid (parse_wf hv)
    have HC : CasesN s.data.toList v := Lib.hid (okD_cases hv)
    clear hv
    go_enter Tryd.func13, Tryd.ntmps13
    go_wp2_with fail
    refine (ParseInt_ok s v w hs HV.out).mono ?_
    rintro e w1 ⟨rfl, b1⟩
    have HT1 := Lib.hid (HT.out.below b1)
    have B1 := Lib.hid b1
    clear b1
    go_wp2_with (first
      | (go_at_call 29; refine (isValue_any _ _).mono ?_; rintro e w' ⟨rfl, rfl⟩)
      | (go_at_call 11; refine (Decimal_any _ _ HW.out HT1.out).mono ?_; rintro e w' ⟨rfl, hbl⟩; have HB2 := Lib.hid (B1.out.trans (hbl.mono B1.out.size))))
    all_goals go_ret2
    · exact ⟨rd_end1 HC (by assumption), HB2.out⟩
    · exact ⟨rd_end2 HC (by assumption) (by assumption), HB2.out⟩
    · exact ⟨rd_end3 HC (by assumption), B1.out⟩
  · have hp2 : ∀ v, parseIntB 64 s.data.toList = .ok v → False := fun v h => hp ⟨v, h⟩
    have HN := Lib.hid (rd_no (okD_parse hp2))
    have HP := Lib.hid hp2
    clear hp hp2
    go_enter Tryd.func13, Tryd.ntmps13
    go_wp2_with fail
    refine (ParseInt_no s w hs HE.out HP.out).mono ?_
    rintro e w1 ⟨n, t, p, rfl, b1⟩
    go_wp2
    go_ret2
    exact ⟨retV HN.out.1.symm HN.out.2.symm, b1⟩
theorem l01Value_any (s : ByteArray) (w : World) :
    Calls Tryd.prog 27 #[.string s] w fun e w' => e = .returned (.tuple #[.int .i64 (rdV s.data.toList), .bool (rdB s.data.toList)]) ∧ Below w.heap.size w w' := by
  by_cases h : 1 ≤ s.size ∧ s.size ≤ 17
  · exact l01Value_short s w h.1 h.2
  · exact l01Value_long s w h
set_option maxHeartbeats 400000 in
theorem sReadDecimal_any (s : ByteArray) (w : World) :
    Calls Tryd.prog 12 #[.string s] w fun e w' => e = .returned (.tuple #[.int .i64 (rdV s.data.toList), .bool (rdB s.data.toList)]) ∧ Below w.heap.size w w' := by
  go_enter Tryd.func12, Tryd.ntmps12
  go_wp2_with fail
  refine (l01Value_any s w).mono ?_
  rintro e w1 ⟨rfl, b1⟩
  go_wp2
  go_ret2
  exact ⟨rfl, b1⟩
end Go.Proofs.YtlbhmjkghdhlpaaDoor
