/-
  A text cut at its commas, in plain words.
-/
import Derived.Test.YtlbhmjkghdhlpaaDoorLText2
import Derived.Lib.SplitLaws
namespace Go.Proofs.YtlbhmjkghdhlpaaDoor
open Go.Lib

def consHead (c : UInt8) : List (List UInt8) → List (List UInt8)
  | [] => [[c]]
  | p :: ps => (c :: p) :: ps
def cutL : List UInt8 → List (List UInt8)
  | [] => [[]]
  | c :: r => if c = 44 then [] :: cutL r else consHead c (cutL r)
theorem cutL_comma (r : List UInt8) : cutL (44 :: r) = [] :: cutL r := by rw [cutL, if_pos rfl]
theorem cutL_other {c : UInt8} (r : List UInt8) (h : c ≠ 44) : cutL (c :: r) = consHead c (cutL r) := by rw [cutL, if_neg h]
theorem cutL_ne (l : List UInt8) : ∃ p ps, cutL l = p :: ps := by
  cases l with
  | nil => exact ⟨_, _, rfl⟩
  | cons c r =>
    unfold cutL
    split
    · exact ⟨_, _, rfl⟩
    · cases cutL r with
      | nil => exact ⟨_, _, rfl⟩
      | cons p ps => exact ⟨_, _, rfl⟩
/-- strings.Split at a comma. -/
theorem split_cut : ∀ l : List UInt8, splitK [44] 0 (count l [44]) l = cutL l
  | [] => by rw [count_miss (by rfl)]; rfl
  | c :: r => by
    have ih := split_cut r
    by_cases h : c = 44
    · subst h
      have hix : index (44 :: r) [44] = ((0 : Nat) : Int) := by rw [index]; simp [List.isPrefixOf]
      rw [count_cons_eq, Nat.add_comm, splitK, hix]
      rw [if_neg (by decide)]
      rw [cutL_comma, ← ih]
      simp
    · rw [count_cons_ne c 44 r h]
      rw [cutL_other r h, ← ih]
      have hp : ([44] : List UInt8).isPrefixOf (c :: r) = false := by simp [List.isPrefixOf, Ne.symm h]
      have hix : index (c :: r) [44] = if index r [44] == -1 then -1 else index r [44] + 1 := by rw [index, hp]; simp
      cases hk : count r [44] with
      | zero => rfl
      | succ k =>
        by_cases hm : index r [44] = -1
        · rw [count_miss hm] at hk; cases hk
        · have hge := index_ge r [44]
          obtain ⟨j, hj⟩ : ∃ j : Nat, index r [44] = j := ⟨(index r [44]).toNat, by omega⟩
          have hix' : index (c :: r) [44] = ((j + 1 : Nat) : Int) := by rw [hix, if_neg (fun e => hm (beq_iff_eq.1 e)), hj]; omega
          rw [splitK, splitK, hix', hj]
          rw [if_neg (fun e => by have := beq_iff_eq.1 e; omega), if_neg (fun e => by have := beq_iff_eq.1 e; omega)]
          simp [consHead]
/-- One more byte: the pieces done, the piece under way. -/
def cstep (st : List (List UInt8) × List UInt8) (b : UInt8) : List (List UInt8) × List UInt8 := if b = 44 then (st.1 ++ [st.2], []) else (st.1, st.2 ++ [b])
def stF (l : List UInt8) : List (List UInt8) × List UInt8 := l.foldl cstep ([], [])
def mergeHead (c : List UInt8) : List (List UInt8) → List (List UInt8)
  | [] => [c]
  | p :: ps => (c ++ p) :: ps
theorem fold_cut : ∀ (l : List UInt8) (d : List (List UInt8)) (c : List UInt8), (l.foldl cstep (d, c)).1 ++ [(l.foldl cstep (d, c)).2] = d ++ mergeHead c (cutL l)
  | [], d, c => by simp [cutL, mergeHead]
  | b :: r, d, c => by
    obtain ⟨p, ps, hp⟩ := cutL_ne r
    rw [List.foldl_cons]
    by_cases h : b = 44
    · subst h
      have e : cstep (d, c) 44 = (d ++ [c], []) := rfl
      rw [e, fold_cut r, cutL_comma, hp]
      simp [mergeHead]
    · have e : cstep (d, c) b = (d, c ++ [b]) := by unfold cstep; rw [if_neg h]
      rw [e, fold_cut r, cutL_other r h, hp]
      simp [mergeHead, consHead]
@[irreducible] def stD (l : List UInt8) : List (List UInt8) := (stF l).1
@[irreducible] def stC (l : List UInt8) : List UInt8 := (stF l).2
theorem st_all (l : List UInt8) : stD l ++ [stC l] = cutL l := by
  unfold stD stC stF
  rw [fold_cut]
  obtain ⟨p, ps, hp⟩ := cutL_ne l
  rw [hp]; simp [mergeHead]
theorem st_nil : stD [] = [] ∧ stC [] = [] := by unfold stD stC stF; exact ⟨rfl, rfl⟩
theorem st_comma (l : List UInt8) : stD (l ++ [44]) = stD l ++ [stC l] ∧ stC (l ++ [44]) = [] := by
  unfold stD stC stF
  rw [List.foldl_append]
  exact ⟨rfl, rfl⟩
theorem st_other (l : List UInt8) {b : UInt8} (h : b ≠ 44) : stD (l ++ [b]) = stD l ∧ stC (l ++ [b]) = stC l ++ [b] := by
  unfold stD stC stF
  rw [List.foldl_append, List.foldl_cons, List.foldl_nil]
  unfold cstep
  rw [if_neg h]
  exact ⟨rfl, rfl⟩
/-- The pieces. -/
def toBA (d : List UInt8) : ByteArray := ⟨d.toArray⟩
@[irreducible] def pcs (s : ByteArray) : List ByteArray := (cutL s.data.toList).map toBA
theorem pcs_split (s : ByteArray) : splitB ⟨#[44]⟩ 0 (countB s ⟨#[44]⟩) s = pcs s := by
  have h := splitB_data ⟨#[44]⟩ 0 (countB s ⟨#[44]⟩) s
  have e : (⟨#[44]⟩ : ByteArray).data.toList = [44] := rfl
  have h2 : (splitB ⟨#[44]⟩ 0 (countB s ⟨#[44]⟩) s).map (·.data.toList) = cutL s.data.toList := by
    rw [h]
    show splitK (⟨#[44]⟩ : ByteArray).data.toList 0 (count s.data.toList (⟨#[44]⟩ : ByteArray).data.toList) s.data.toList = _
    rw [e]
    exact split_cut _
  unfold pcs
  rw [← h2, List.map_map]
  have : (toBA ∘ fun x : ByteArray => x.data.toList) = id := by
    funext x
    show (⟨x.data.toList.toArray⟩ : ByteArray) = x
    simp
  rw [this, List.map_id]
theorem pcs_len (s : ByteArray) : (pcs s).length = countB s ⟨#[44]⟩ + 1 := by
  rw [← pcs_split]
  exact splitB_all ⟨#[44]⟩ (by decide) 0 _ s rfl
theorem pcs_le (s : ByteArray) : (pcs s).length ≤ s.size + 1 := by
  rw [pcs_len]
  have := countB_le ⟨#[44]⟩ (by decide) s.size s (Nat.le_refl _)
  omega
theorem pcs_pos (s : ByteArray) : 0 < (pcs s).length := by rw [pcs_len]; omega
theorem pcs_end (s : ByteArray) : (stD s.data.toList).map toBA ++ [toBA (stC s.data.toList)] = pcs s := by
  unfold pcs
  rw [← st_all]; simp
/-- The walk's facts at place k: 'from' is where the piece under way begins. -/
structure CutAt (s : ByteArray) (k fr : Nat) : Prop where
  le : fr ≤ k
  cur : stC (s.data.toList.take k) = (s.data.toList.take k).drop fr
  few : (stD (s.data.toList.take k)).length ≤ k
theorem CutAt.start (s : ByteArray) : CutAt s 0 0 := ⟨Nat.le_refl _, by simp [st_nil.2], by simp [st_nil.1]⟩
theorem CutAt.comma {s : ByteArray} {k fr : Nat} (h : CutAt s k fr) (hk : k < s.size) (hb : s[k] = 44) : CutAt s (k + 1) (k + 1) ∧ stD (s.data.toList.take (k + 1)) = stD (s.data.toList.take k) ++ [stC (s.data.toList.take k)] := by
  have e := take_snoc s k hk
  rw [hb] at e
  have hs := st_comma (s.data.toList.take k)
  rw [← e] at hs
  refine ⟨⟨Nat.le_refl _, ?_, ?_⟩, hs.1⟩
  · rw [hs.2, List.drop_of_length_le (by rw [List.length_take]; omega)]
  · rw [hs.1, List.length_append, List.length_singleton]
    have := h.few; omega
theorem CutAt.other {s : ByteArray} {k fr : Nat} (h : CutAt s k fr) (hk : k < s.size) (hb : s[k] ≠ 44) : CutAt s (k + 1) fr ∧ stD (s.data.toList.take (k + 1)) = stD (s.data.toList.take k) := by
  have e := take_snoc s k hk
  have hs := st_other (s.data.toList.take k) hb
  rw [← e] at hs
  have hle := h.le
  refine ⟨⟨by omega, ?_, ?_⟩, hs.1⟩
  · rw [hs.2, h.cur, e, List.drop_append_of_le_length (by rw [List.length_take, len_of]; omega)]
  · rw [hs.1]; have := h.few; omega
theorem CutAt.piece {s : ByteArray} {k fr : Nat} (h : CutAt s k fr) : s.extract fr k = toBA (stC (s.data.toList.take k)) := by
  apply ByteArray.ext
  apply Array.ext'
  rw [h.cur]
  unfold toBA
  rw [extract_data]
  simp [List.drop_take]
end Go.Proofs.YtlbhmjkghdhlpaaDoor
