/- The reference's digests: plain law: the document's way comes to the same digest. Conditions: named in each theorem. -/
import Derived.Test.YtmhekoalhlfjoaaGreatDoorRefC
namespace Go.Proofs.YtmhekoalhlfjoaaGreatDoor
open Go.RowKit Go.ChangeShapes Go.WideShapes Go.ChangeAt

theorem firstW_congr {bs cs : List Nat} (h : ∀ j, j < 64 → bs.getD j 0 = cs.getD j 0) : ∀ k, k ≤ 16 → firstW bs k = firstW cs k
  | 0, _ => rfl
  | k + 1, hk => by
    rw [firstW, firstW, firstW_congr h k (by omega), h (4 * k) (by omega), h (4 * k + 1) (by omega), h (4 * k + 2) (by omega), h (4 * k + 3) (by omega)]
theorem moreW_congr {bs cs : List Nat} (h : ∀ j, j < 64 → bs.getD j 0 = cs.getD j 0) : ∀ k, moreW bs k = moreW cs k
  | 0 => firstW_congr h 16 (Nat.le_refl _)
  | k + 1 => by rw [moreW, moreW, moreW_congr h k]
theorem roundsN_congr {bs cs : List Nat} (s : List Nat) (h : ∀ j, j < 64 → bs.getD j 0 = cs.getD j 0) : ∀ k, roundsN s bs k = roundsN s cs k
  | 0 => rfl
  | k + 1 => by rw [roundsN, roundsN, roundsN_congr s h k, moreW_congr h 48]
theorem blockL_congr {bs cs : List Nat} (s : List Nat) (h : ∀ j, j < 64 → bs.getD j 0 = cs.getD j 0) : blockL s bs = blockL s cs := by
  unfold blockL
  rw [roundsN_congr s h 64]
theorem blocksN_split (s T : List Nat) (p : Nat) : ∀ q, blocksN s T (p + q) = blocksN (blocksN s T p) (T.drop (64 * p)) q
  | 0 => rfl
  | q + 1 => by
    rw [← Nat.add_assoc, blocksN, blocksN_split s T p q, blocksN, List.drop_drop]
    congr 2
    omega
theorem blocksN_front (s bs more : List Nat) : ∀ p, 64 * p ≤ bs.length → blocksN s (bs ++ more) p = blocksN s bs p
  | 0, _ => rfl
  | p + 1, hp => by
    rw [blocksN, blocksN, blocksN_front s bs more p (by omega)]
    refine blockL_congr _ fun j hj => ?_
    rw [List.getD_eq_getElem?_getD, List.getD_eq_getElem?_getD, List.getElem?_drop, List.getElem?_drop, List.getElem?_append_left (by omega)]
/-- All that is digested. -/
def wholeL (bs : List Nat) : List Nat := bs ++ [128] ++ List.replicate (zerosOf bs.length) 0 ++ longL bs.length
theorem wholeL_len (bs : List Nat) : (wholeL bs).length = bs.length + 1 + zerosOf bs.length + 8 := by simp [wholeL, longL]; omega
theorem wholeL_mod (bs : List Nat) : (wholeL bs).length % 64 = 0 := by
  rw [wholeL_len]
  have := zeros_mod bs.length
  omega
theorem wholeL_small {bs : List Nat} (h : ∀ x ∈ bs, x < 256) : ∀ x ∈ wholeL bs, x < 256 := tailL_small bs.length h
theorem shaL_whole (bs : List Nat) : outL (blocksN startL (wholeL bs) ((wholeL bs).length / 64)) = shaL bs := by
  obtain ⟨p, hp⟩ : ∃ p, p = bs.length / 64 := ⟨_, rfl⟩
  have hr : (bs.drop (64 * p)).length = bs.length - 64 * p := by simp
  have hz : zerosOf (bs.drop (64 * p)).length = zerosOf bs.length := by
    rw [hr]
    unfold zerosOf
    omega
  have ht : (wholeL bs).drop (64 * p) = tailL (bs.drop (64 * p)) bs.length := by
    unfold wholeL tailL
    rw [hz, List.append_assoc, List.append_assoc, List.drop_append_of_le_length (by omega), ← List.append_assoc, ← List.append_assoc]
  have hl : (wholeL bs).length / 64 = p + (tailL (bs.drop (64 * p)) bs.length).length / 64 := by
    rw [← ht, List.length_drop]
    have := wholeL_mod bs
    have := wholeL_len bs
    omega
  have hf : blocksN startL (wholeL bs) p = blocksN startL bs p := by
    unfold wholeL
    rw [List.append_assoc, List.append_assoc]
    exact blocksN_front _ _ _ p (by omega)
  unfold shaL
  rw [← hp, hl, blocksN_split, hf, ht]
theorem putL_long {n : Nat} (h : n ≤ 1000000) : putL (n * 8) 8 = longL n := by
  have e : n * 8 % 18446744073709551616 = n * 8 := Nat.mod_eq_of_lt (by omega)
  unfold longL
  rw [e]
  unfold putL putK
  simp [List.range, List.range.loop]
end Go.Proofs.YtmhekoalhlfjoaaGreatDoor
