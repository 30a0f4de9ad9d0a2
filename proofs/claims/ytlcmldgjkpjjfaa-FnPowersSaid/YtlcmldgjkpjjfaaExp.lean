/-
  Contract of ExpNumber for a number that is neither great nor far below zero.
-/
import Derived.Test.YtlcmldgjkpjjfaaLogN
namespace Go.Proofs.Ytlcmldgjkpjjfaa
open Go.RowKit

def KE (j : Nat) : Nat := if j = 0 then 4622945017495814144 else if j = 1 then 4622382067542392832 else if j = 2 then 4621819117588971520 else if j = 3 then 4621256167635550208 else if j = 4 then 4620693217682128896 else if j = 5 then 4619567317775286272 else if j = 6 then 4618441417868443648 else if j = 7 then 4617315517961601024 else if j = 8 then 4616189618054758400 else if j = 9 then 4613937818241073152 else if j = 10 then 4611686018427387904 else if j = 11 then 4607182418800017408 else 0
theorem exp_consts : ∀ j : Fin 12, fop .sub .f64 (some (KE j.val)) (some 4607182418800017408) = some (KE (j.val + 1)) ∧
    (ford .f64 (some (KE j.val)) (some 4607182418800017408) == some Ordering.gt || ford .f64 (some (KE j.val)) (some 4607182418800017408) == some Ordering.eq) = true := by
  unfold fop ford
  decide
theorem exp_last : (ford .f64 (some (KE 12)) (some 4607182418800017408) == some Ordering.gt || ford .f64 (some (KE 12)) (some 4607182418800017408) == some Ordering.eq) = false := by
  unfold ford
  decide
/-- The series after j rounds. -/
def exN (t : Option Nat) : Nat → Option Nat
  | 0 => some 4607182418800017408
  | j + 1 => fop .add .f64 (some 4607182418800017408) (fop .quo .f64 (fop .mul .f64 t (exN t j)) (some (KE j)))
/-- Squared j times. -/
def sqN (p : Option Nat) : Nat → Option Nat
  | 0 => p
  | j + 1 => fop .mul .f64 (sqN p j) (sqN p j)
@[irreducible] def exT (x : Option Nat) : Option Nat := fop .quo .f64 x (some 4643211215818981376)
@[irreducible] def exW (x : Option Nat) : Option Nat := sqN (exN (exT x) 12) 8
theorem c_256 : cn .f64 4643211215818981376 = some 4643211215818981376 := cn_num (by decide)
theorem c_200 : cn .f32 1128792064 = some 1128792064 := cn_num (by decide)
theorem c_m200 : cn .f32 3276275712 = some 3276275712 := cn_num (by decide)
set_option maxHeartbeats 4000000 in
theorem ExpNumber_small (b : Nat) (w : World) (h1 : (ford .f32 (cn .f32 b) (some 1128792064) == some Ordering.gt) = false) (h2 : (ford .f32 (cn .f32 b) (some 3276275712) == some Ordering.lt) = false)
    (hft : fits .f64 .f32 (exW (cvF .f32 .f64 (cn .f32 b)))) :
    Calls Try.prog 11 #[.float .f32 b] w fun e w' => ∃ r n, e = .returned (.float .f32 r) ∧ w' = w.drewN n ∧ cn .f32 r = cvF .f64 .f32 (exW (cvF .f32 .f64 (cn .f32 b))) := by
  have ho := fun a b => order_cn .f64 a b
  have ho2 := fun a b => order_cn .f32 a b
  have c1 := c_one
  have c2 := c_256
  have c3 := c_200
  have c4 := c_m200
  have HFT := Lib.hid hft
  have HW : Hid (exW (cvF .f32 .f64 (cn .f32 b)) = sqN (exN (exT (cvF .f32 .f64 (cn .f32 b))) 12) 8) := Lib.hid (by unfold exW; rfl)
  have HT : Hid (exT (cvF .f32 .f64 (cn .f32 b)) = fop .quo .f64 (cvF .f32 .f64 (cn .f32 b)) (some 4643211215818981376)) := Lib.hid (by unfold exT; rfl)
  clear hft
  obtain ⟨X, HX⟩ : ∃ X, Hid (cvF .f32 .f64 (cn .f32 b) = X) := ⟨_, Lib.hid rfl⟩
  rw [HX.out] at HFT HW HT ⊢
  go_enter Try.func11, Try.ntmps11
  go_wp2_with (first
    | (refine wpList_up rfl _ _ _ rfl _ rfl Try.underlying22 Try.underlying25 ?_; intro r0 n0 hr0 hrb0)
    | (refine wpList_fop rfl _ _ _ _ _ rfl (by decide) _ _ _ rfl rfl ?_; intro r n hr hrb))
  have hT : cn .f64 r = exT X := by rw [HT.out, ← HX.out, ← hr0, ← c2]; exact hr
  clear hr hr0 h1 h2 ho2 c3 c4
  generalize exT X = T at *
  go_loopg [4, 5] 13 (fun g p k wr => ∃ (j pb kb m : Nat), g = 13 - j ∧ j ≤ 12 ∧ p = .float .f64 pb ∧ cn .f64 pb = exN T j ∧ k = .float .f64 kb ∧ cn .f64 kb = some (KE j) ∧ wr = w.drewN m)
  case atStart => exact ⟨0, _, _, _, rfl, by omega, rfl, c1, rfl, cn_num (by decide), rfl⟩
  case round =>
    obtain ⟨j, pb, kb, m, hg, hj, rfl, hp, rfl, hk, rfl⟩ := hrel
    by_cases hlt : j < 12
    · obtain ⟨q4, q5⟩ := exp_consts ⟨j, hlt⟩
      dsimp only at q4 q5
      have HP : Hid (exN T (j + 1) = fop .add .f64 (some 4607182418800017408) (fop .quo .f64 (fop .mul .f64 T (exN T j)) (some (KE j)))) := Lib.hid rfl
      go_wp2_with (refine wpList_fop rfl _ _ _ _ _ rfl (by decide) _ _ _ rfl rfl ?_; intro r n hr hrb)
      go_roundg (13 - (j + 1))
      case rel => exact ⟨j + 1, _, _, _, rfl, hlt, rfl, by rw [HP.out]; simp only [*], rfl, by simp only [*], rfl⟩
      case measure => omega
    · have hj8 : j = 12 := by omega
      subst hj8
      have q5 := exp_last
      go_wp2
      clear q5 hk hg hj hlt
      generalize exN T 12 = S at *
      go_loopg [4, 27] 9 (fun g p k wr => ∃ (j pb m : Nat), g = 9 - j ∧ j ≤ 8 ∧ p = .float .f64 pb ∧ cn .f64 pb = sqN S j ∧ k = .int .i64 (j : Int) ∧ wr = w.drewN m)
      case atStart => exact ⟨0, _, _, rfl, by omega, rfl, hp, rfl, rfl⟩
      case round =>
        clear hp
        obtain ⟨j, pb, m, hg, hj, rfl, hp, rfl, rfl⟩ := hrel
        by_cases hlt : j < 8
        · have HP : Hid (sqN S (j + 1) = fop .mul .f64 (sqN S j) (sqN S j)) := Lib.hid rfl
          go_wp2_with (refine wpList_fop rfl _ _ _ _ _ rfl (by decide) _ _ _ rfl rfl ?_; intro r n hr hrb)
          go_roundg (9 - (j + 1))
          case rel => exact ⟨j + 1, _, _, rfl, hlt, rfl, by rw [HP.out]; simp only [*], by first | rfl | go_num, rfl⟩
          case measure => omega
        · have hj8 : j = 8 := by omega
          subst hj8
          have HP := Lib.hid hp
          clear hp hg hj hlt
          go_wp2_with (refine wpList_down rfl _ _ _ rfl _ rfl Try.underlying25 Try.underlying22 (by rw [HP.out, ← HW.out]; exact HFT.out) ?_; intro r n hr hrb)
          go_ret
          exact ⟨_, _, rfl, rfl, by rw [HW.out, ← HP.out]; exact hr⟩
end Go.Proofs.Ytlcmldgjkpjjfaa
