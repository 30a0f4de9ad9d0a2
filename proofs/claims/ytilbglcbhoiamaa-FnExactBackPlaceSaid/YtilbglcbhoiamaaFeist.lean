/-
  The plain law of SwapPlace and BackPlace: four rounds that join halves are a permutation of the numbers less than z * z; so whoever begins below n comes below n again.
-/
import Derived.Test.YtilbglcbhoiamaaHash2
namespace Go.Proofs.Ytilbglcbhoiamaa
open Go.RowKit

/-- A round's number: less than z. -/
@[irreducible] def rnd (z : Nat) (salt : Int) (r : Nat) (i : Int) : Nat := (hsh r ((salt + i) % 4294967296)).toNat % z
theorem rnd_lt {z : Nat} (hz : 0 < z) (salt : Int) (r : Nat) (i : Int) : rnd z salt r i < z := by unfold rnd; exact Nat.mod_lt _ hz
def fe (z : Nat) (salt : Int) (i : Int) (p : Nat × Nat) : Nat × Nat := (p.2, p.1 ^^^ rnd z salt p.2 i)
def fb (z : Nat) (salt : Int) (i : Int) (p : Nat × Nat) : Nat × Nat := (p.2 ^^^ rnd z salt p.1 i, p.1)
theorem fb_fe (z : Nat) (salt : Int) (i : Int) (p : Nat × Nat) : fb z salt i (fe z salt i p) = p := by
  unfold fb fe; simp [Nat.xor_assoc]
theorem fe_fb (z : Nat) (salt : Int) (i : Int) (p : Nat × Nat) : fe z salt i (fb z salt i p) = p := by
  unfold fb fe; simp [Nat.xor_assoc]
def InZ (z : Nat) (p : Nat × Nat) : Prop := p.1 < z ∧ p.2 < z
theorem fe_in {h : Nat} (salt : Int) (i : Int) {p : Nat × Nat} (hp : InZ (2 ^ h) p) : InZ (2 ^ h) (fe (2 ^ h) salt i p) :=
  ⟨hp.2, Nat.xor_lt_two_pow hp.1 (rnd_lt (Nat.two_pow_pos h) ..)⟩
theorem fb_in {h : Nat} (salt : Int) (i : Int) {p : Nat × Nat} (hp : InZ (2 ^ h) p) : InZ (2 ^ h) (fb (2 ^ h) salt i p) :=
  ⟨Nat.xor_lt_two_pow hp.2 (rnd_lt (Nat.two_pow_pos h) ..), hp.1⟩
def cutK (z k : Nat) : Nat × Nat := (k / z, k % z)
def joinK (z : Nat) (p : Nat × Nat) : Nat := p.1 * z + p.2
theorem cut_join {z : Nat} {p : Nat × Nat} (hp : InZ z p) : cutK z (joinK z p) = p := by
  have hz : 0 < z := Nat.lt_of_le_of_lt (Nat.zero_le _) hp.2
  unfold cutK joinK
  rw [Nat.mul_comm, Nat.mul_add_div hz, Nat.mul_add_mod, Nat.div_eq_of_lt hp.2, Nat.mod_eq_of_lt hp.2, Nat.add_zero]
theorem join_cut (z k : Nat) : joinK z (cutK z k) = k := by
  unfold cutK joinK; rw [Nat.mul_comm]; exact Nat.div_add_mod k z
theorem cut_in {z k : Nat} (hz : 0 < z) (hk : k < z * z) : InZ z (cutK z k) := ⟨(Nat.div_lt_iff_lt_mul hz).2 hk, Nat.mod_lt _ hz⟩
theorem join_lt {z : Nat} {p : Nat × Nat} (hp : InZ z p) : joinK z p < z * z := by
  unfold joinK
  have h1 : p.1 + 1 ≤ z := hp.1
  have h2 := Nat.mul_le_mul_right z h1
  rw [Nat.add_mul, Nat.one_mul] at h2
  have := hp.2
  omega
def four (z : Nat) (salt : Int) (p : Nat × Nat) : Nat × Nat := fe z salt 3 (fe z salt 2 (fe z salt 1 (fe z salt 0 p)))
def fourB (z : Nat) (salt : Int) (p : Nat × Nat) : Nat × Nat := fb z salt 0 (fb z salt 1 (fb z salt 2 (fb z salt 3 p)))
def feN (z : Nat) (salt : Int) (p : Nat × Nat) : Nat → Nat × Nat
  | 0 => p
  | i + 1 => fe z salt i (feN z salt p i)
def fbN (z : Nat) (salt : Int) (p : Nat × Nat) : Nat → Nat × Nat
  | 0 => p
  | j + 1 => fb z salt (3 - (j : Int)) (fbN z salt p j)
theorem feN_four (z : Nat) (salt : Int) (p : Nat × Nat) : feN z salt p 4 = four z salt p := rfl
theorem fbN_four (z : Nat) (salt : Int) (p : Nat × Nat) : fbN z salt p 4 = fourB z salt p := rfl
theorem feN_in {h : Nat} (salt : Int) {p : Nat × Nat} (hp : InZ (2 ^ h) p) : ∀ i, InZ (2 ^ h) (feN (2 ^ h) salt p i)
  | 0 => hp
  | i + 1 => fe_in salt i (feN_in salt hp i)
theorem fbN_in {h : Nat} (salt : Int) {p : Nat × Nat} (hp : InZ (2 ^ h) p) : ∀ i, InZ (2 ^ h) (fbN (2 ^ h) salt p i)
  | 0 => hp
  | i + 1 => fb_in salt _ (fbN_in salt hp i)
def sw (z : Nat) (salt : Int) (k : Nat) : Nat := joinK z (four z salt (cutK z k))
def bk (z : Nat) (salt : Int) (k : Nat) : Nat := joinK z (fourB z salt (cutK z k))
theorem sw_lt {h : Nat} (salt : Int) {k : Nat} (hk : k < 2 ^ h * 2 ^ h) : sw (2 ^ h) salt k < 2 ^ h * 2 ^ h :=
  join_lt (fe_in _ _ (fe_in _ _ (fe_in _ _ (fe_in _ _ (cut_in (Nat.two_pow_pos h) hk)))))
theorem bk_lt {h : Nat} (salt : Int) {k : Nat} (hk : k < 2 ^ h * 2 ^ h) : bk (2 ^ h) salt k < 2 ^ h * 2 ^ h :=
  join_lt (fb_in _ _ (fb_in _ _ (fb_in _ _ (fb_in _ _ (cut_in (Nat.two_pow_pos h) hk)))))
theorem bk_sw {h : Nat} (salt : Int) {k : Nat} (hk : k < 2 ^ h * 2 ^ h) : bk (2 ^ h) salt (sw (2 ^ h) salt k) = k := by
  have hi := cut_in (Nat.two_pow_pos h) hk
  unfold bk sw
  have h4 : InZ (2 ^ h) (four (2 ^ h) salt (cutK (2 ^ h) k)) := fe_in _ _ (fe_in _ _ (fe_in _ _ (fe_in _ _ hi)))
  rw [cut_join h4]
  unfold fourB four
  rw [fb_fe, fb_fe, fb_fe, fb_fe, join_cut]
theorem sw_bk {h : Nat} (salt : Int) {k : Nat} (hk : k < 2 ^ h * 2 ^ h) : sw (2 ^ h) salt (bk (2 ^ h) salt k) = k := by
  have hi := cut_in (Nat.two_pow_pos h) hk
  unfold bk sw
  have h4 : InZ (2 ^ h) (fourB (2 ^ h) salt (cutK (2 ^ h) k)) := fb_in _ _ (fb_in _ _ (fb_in _ _ (fb_in _ _ hi)))
  rw [cut_join h4]
  unfold fourB four
  rw [fe_fb, fe_fb, fe_fb, fe_fb, join_cut]

/-! ### Pigeons -/
theorem pigeon : ∀ (M : Nat) (f : Nat → Nat), (∀ i, i ≤ M → f i < M) → ∃ i j, i < j ∧ j ≤ M ∧ f i = f j
  | 0, f, h => absurd (h 0 (Nat.le_refl 0)) (by omega)
  | M + 1, f, h => by
    by_cases hv : ∃ i, i ≤ M ∧ f i = f (M + 1)
    · obtain ⟨i, hi, he⟩ := hv
      exact ⟨i, M + 1, by omega, by omega, he⟩
    · have hv' : ∀ i, i ≤ M → f i ≠ f (M + 1) := fun i hi he => hv ⟨i, hi, he⟩
      have hM := h (M + 1) (Nat.le_refl _)
      obtain ⟨i, j, hij, hj, he⟩ := pigeon M (fun i => if f i = M then f (M + 1) else f i) (by
        intro i hi
        have h1 := h i (by omega)
        have h2 := hv' i hi
        show (if f i = M then f (M + 1) else f i) < M
        split <;> omega)
      refine ⟨i, j, hij, by omega, ?_⟩
      have h1 := hv' i (by omega)
      have h2 := hv' j hj
      split at he <;> split at he <;> omega
/-- k rounds of g. -/
def itr (g : Nat → Nat) : Nat → Nat → Nat
  | 0, k => k
  | j + 1, k => itr g j (g k)
theorem itr_snoc (g : Nat → Nat) : ∀ j k, itr g (j + 1) k = g (itr g j k)
  | 0, _ => rfl
  | j + 1, k => by show itr g (j + 1) (g k) = _; rw [itr_snoc g j (g k)]; rfl
theorem itr_lt {g : Nat → Nat} {M : Nat} (hg : ∀ k, k < M → g k < M) : ∀ j k, k < M → itr g j k < M
  | 0, _, h => h
  | j + 1, k, h => itr_lt hg j (g k) (hg k h)
theorem itr_inj {g b : Nat → Nat} {M : Nat} (hg : ∀ k, k < M → g k < M) (hb : ∀ k, k < M → b (g k) = k) :
    ∀ i d k, k < M → itr g i k = itr g (i + d) k → itr g d k = k
  | 0, d, k, _, he => by rw [Nat.zero_add] at he; exact he.symm
  | i + 1, d, k, hk, he => by
    rw [itr_snoc, show i + 1 + d = (i + d) + 1 by omega, itr_snoc] at he
    have h1 := congrArg b he
    rw [hb _ (itr_lt hg i k hk), hb _ (itr_lt hg (i + d) k hk)] at h1
    exact itr_inj hg hb i d k hk h1
/-- The first that is below n, within so many rounds. -/
def runS (g : Nat → Nat) (n : Nat) : Nat → Nat → Option Nat
  | 0, _ => none
  | f + 1, k => if g k < n then some (g k) else runS g n f (g k)
theorem runS_some {g : Nat → Nat} {n : Nat} : ∀ d k, 1 ≤ d → itr g d k < n → ∃ f v, runS g n f k = some v
  | 0, _, h, _ => absurd h (by omega)
  | d + 1, k, _, hlt => by
    by_cases h : g k < n
    · exact ⟨1, g k, by simp [runS, h]⟩
    · have hd : 1 ≤ d := by
        cases d with
        | zero => exact absurd hlt h
        | succ d => omega
      obtain ⟨f, v, hv⟩ := runS_some d (g k) hd hlt
      exact ⟨f + 1, v, by simp [runS, h, hv]⟩
theorem runS_ends {g b : Nat → Nat} {M n : Nat} (hg : ∀ k, k < M → g k < M) (hb : ∀ k, k < M → b (g k) = k) (hn : n ≤ M) {k : Nat} (hk : k < n) : ∃ f v, runS g n f k = some v := by
  obtain ⟨i, j, hij, hj, he⟩ := pigeon M (fun i => itr g i k) (fun i _ => itr_lt hg i k (by omega))
  have := itr_inj hg hb i (j - i) k (by omega) (by rw [show i + (j - i) = j by omega]; exact he)
  exact runS_some (j - i) k (by omega) (by rw [this]; exact hk)
theorem runS_lt {g : Nat → Nat} {n : Nat} : ∀ {f k v}, runS g n f k = some v → v < n
  | 0, _, _, h => by cases h
  | f + 1, k, v, h => by
    unfold runS at h
    split at h
    · cases h; assumption
    · exact runS_lt h
theorem runS_det {g : Nat → Nat} {n : Nat} : ∀ {f f' k v v'}, runS g n f k = some v → runS g n f' k = some v' → v = v'
  | 0, _, _, _, _, h, _ => by cases h
  | _ + 1, 0, _, _, _, _, h => by cases h
  | f + 1, f' + 1, k, v, v', h, h' => by
    unfold runS at h h'
    by_cases hc : g k < n
    · rw [if_pos hc] at h h'; cases h; cases h'; rfl
    · rw [if_neg hc] at h h'; exact runS_det h h'
open Classical in
/-- The number itself. -/
noncomputable def lands (g : Nat → Nat) (n k : Nat) : Nat := if h : ∃ v f, runS g n f k = some v then h.choose else 0
theorem lands_eq {g : Nat → Nat} {n k f v : Nat} (h : runS g n f k = some v) : lands g n k = v := by
  have hx : ∃ v f, runS g n f k = some v := ⟨v, f, h⟩
  unfold lands
  rw [dif_pos hx]
  obtain ⟨f', hf'⟩ := hx.choose_spec
  exact runS_det hf' h
end Go.Proofs.Ytilbglcbhoiamaa
