/-
  FnCircles: the products of phasors.
-/
import Derived.Test.YtakaocddhaepmaaCircT0
import Derived.Test.YtakaocddhaepmaaFastD
namespace Go.Proofs.Ytakaocddhaepmaa
open Ieee Go.RowKit

def mulU (s t : Nat) : Option Nat := fop .sub .f64 (fop .mul .f64 (some (DX s)) (some (DX t))) (fop .mul .f64 (some (DY s)) (some (DY t)))
def mulV (s t : Nat) : Option Nat := fop .add .f64 (fop .mul .f64 (some (DX s)) (some (DY t))) (fop .mul .f64 (some (DY s)) (some (DX t)))
@[irreducible] def leC (x : Option Nat) : Bool := ford .f64 x (some 4547007122018943789) == some Ordering.lt || ford .f64 x (some 4547007122018943789) == some Ordering.eq
theorem leC_of {g : Nat} (h : g ≤ 4547007122018943789) : leC (some g) = true := by
  obtain ⟨k1, k2⟩ := key_small (b := g) (by omega)
  have hk : key .f64 4547007122018943789 = 4547007122018943789 := by decide
  unfold leC
  rw [ford_cmp k1 (by decide), o_lt, o_eq, k2, hk]
  simp; omega
def nearR (w z : Nat) : Option Nat := bs (downR w) fun u => bs (upR32 u) fun v => bs (gapR v z) fun g => cond (or (Nat.ble g (nat_lit 4547007122018943789)) (Nat.beq g (nat_lit 9223372036854775808))) (some u) none
theorem leC_m : leC (some 9223372036854775808) = true := by decide +kernel
theorem nearR_ok {w z u : Nat} (h : nearR w z = some u) : cvF .f64 .f32 (some w) = some u ∧ cn .f32 u = some u ∧ leC (gapC (cvF .f32 .f64 (some u)) (some z)) = true := by
  unfold nearR at h
  obtain ⟨u', hu, h⟩ := bs_some h
  obtain ⟨v, hv, h⟩ := bs_some h
  obtain ⟨g, hg, h⟩ := bs_some h
  change cond (Nat.ble g 4547007122018943789 || Nat.beq g 9223372036854775808) (some u') none = some u at h
  cases hb : Nat.ble g 4547007122018943789 || Nat.beq g 9223372036854775808
  · rw [hb] at h; cases h
  · rw [hb] at h
    cases h
    obtain ⟨d1, d2⟩ := downR_ok hu
    rw [Bool.or_eq_true] at hb
    refine ⟨d1, d2, ?_⟩
    rw [upR32_ok hv, gapR_ok hg]
    rcases hb with hb | hb
    · exact leC_of (Nat.le_of_ble_eq_true hb)
    · rw [Nat.eq_of_beq_eq_true hb]; exact leC_m
def prU (a b c d z : Nat) : Bool := match bs (mulR a c) (fun p => bs (mulR b d) fun q => bs (subR p q) fun u => nearR u z) with | none => false | some _ => true
def prV (a b c d z : Nat) : Bool := match bs (mulR a d) (fun p => bs (mulR b c) fun q => bs (addR p q) fun u => nearR u z) with | none => false | some _ => true
def chkM (s t : Nat) : Bool := stB (DX s) fun a => stB (DY s) fun b => stB (DX t) fun c => stB (DY t) fun d => stB (DX ((s + t) % 64)) fun x => stB (DY ((s + t) % 64)) fun y => and (prU a b c d x) (prV a b c d y)
def chkMR (a : Nat) : Bool := (List.range 8).all fun i => (List.range 64).all fun t => chkM (a + i) t
theorem chkMR_0 : chkMR 0 = true := by decide +kernel
theorem chkMR_8 : chkMR 8 = true := by decide +kernel
theorem chkMR_16 : chkMR 16 = true := by decide +kernel
theorem chkMR_24 : chkMR 24 = true := by decide +kernel
theorem chkMR_32 : chkMR 32 = true := by decide +kernel
theorem chkMR_40 : chkMR 40 = true := by decide +kernel
theorem chkMR_48 : chkMR 48 = true := by decide +kernel
theorem chkMR_56 : chkMR 56 = true := by decide +kernel
theorem chkM_at {s t : Nat} (hs : s < 64) (ht : t < 64) : chkM s t = true := by
  have key : ∀ a, chkMR a = true → a ≤ s → s < a + 8 → chkM s t = true := by
    intro a ha h1 h2
    unfold chkMR at ha
    have := List.all_eq_true.1 ha (s - a) (List.mem_range.2 (by omega))
    have := List.all_eq_true.1 this t (List.mem_range.2 ht)
    rwa [show a + (s - a) = s by omega] at this
  by_cases h0 : s < 8
  · exact key 0 chkMR_0 (by omega) (by omega)
  by_cases h8 : s < 16
  · exact key 8 chkMR_8 (by omega) (by omega)
  by_cases h16 : s < 24
  · exact key 16 chkMR_16 (by omega) (by omega)
  by_cases h24 : s < 32
  · exact key 24 chkMR_24 (by omega) (by omega)
  by_cases h32 : s < 40
  · exact key 32 chkMR_32 (by omega) (by omega)
  by_cases h40 : s < 48
  · exact key 40 chkMR_40 (by omega) (by omega)
  by_cases h48 : s < 56
  · exact key 48 chkMR_48 (by omega) (by omega)
  by_cases h56 : s < 64
  · exact key 56 chkMR_56 (by omega) (by omega)
  omega
theorem tabM {s t : Nat} (hs : s < 64) (ht : t < 64) : ∃ u v, cvF .f64 .f32 (mulU s t) = some u ∧ cvF .f64 .f32 (mulV s t) = some v ∧ cn .f32 u = some u ∧ cn .f32 v = some v ∧
    leC (gapC (cvF .f32 .f64 (some u)) (some (DX ((s + t) % 64)))) = true ∧ leC (gapC (cvF .f32 .f64 (some v)) (some (DY ((s + t) % 64)))) = true := by
  have c := chkM_at hs ht
  unfold chkM at c
  simp only [stB_eq] at c
  rw [Bool.and_eq_true] at c
  obtain ⟨c1, c2⟩ := c
  unfold prU at c1
  unfold prV at c2
  split at c1
  · cases c1
  · rename_i u hu
    split at c2
    · cases c2
    · rename_i v hv
      obtain ⟨p, hp, hu⟩ := bs_some hu
      obtain ⟨q, hq, hu⟩ := bs_some hu
      obtain ⟨w, hw, hu⟩ := bs_some hu
      obtain ⟨p', hp', hv⟩ := bs_some hv
      obtain ⟨q', hq', hv⟩ := bs_some hv
      obtain ⟨w', hw', hv⟩ := bs_some hv
      obtain ⟨a1, a2, a3⟩ := nearR_ok hu
      obtain ⟨b1, b2, b3⟩ := nearR_ok hv
      refine ⟨u, v, ?_, ?_, a2, b2, a3, b3⟩
      · unfold mulU; rw [mulR_ok hp, mulR_ok hq, subR_ok hw]; exact a1
      · unfold mulV; rw [mulR_ok hp', mulR_ok hq', addR_ok hw']; exact b1
end Go.Proofs.Ytakaocddhaepmaa
