/- The reference's answers in plain words: the greatest first, till it is enough, the last of the least choices. No program in sight. Conditions: named in each theorem. -/
import Derived.Test.YtgickjghfndaaaaDoorPickP
namespace Go.Proofs.YtgickjghfndaaaaDoor

instance {g : Int → Int} {i j : Int} : Decidable (LtG g i j) := by unfold LtG; infer_instance
/-- How many of the first so many places come ahead of a place. -/
def aheadZ (g : Int → Int) (x : Int) (k : Nat) : Nat := ((rangeZ k).filter (fun j => decide (LtG g j x))).length
theorem ahead_succ (g : Int → Int) (x : Int) (k : Nat) : aheadZ g x (k + 1) = aheadZ g x k + if LtG g (k : Int) x then 1 else 0 := by
  unfold aheadZ
  rw [rangeZ_succ, List.filter_append, List.length_append]
  congr 1
  by_cases h : LtG g (k : Int) x
  · rw [if_pos h, List.filter_cons_of_pos (by simpa using h)]; rfl
  · rw [if_neg h, List.filter_cons_of_neg (by simpa using h)]; rfl
theorem ahead_le (g : Int → Int) (x : Int) (k : Nat) : aheadZ g x k ≤ k := by
  unfold aheadZ
  have := List.length_filter_le (fun j => decide (LtG g j x)) (rangeZ k)
  rwa [rangeZ_len] at this
theorem order_ex (g : Int → Int) (n : Nat) : ∃ o : List Int, o.Perm (rangeZ n) ∧ o.Pairwise (LtG g) := by
  have hp := List.mergeSort_perm (rangeZ n) (fun x y => decide (g y < g x ∨ (g x = g y ∧ x ≤ y)))
  refine ⟨_, hp, ?_⟩
  have hs : ((rangeZ n).mergeSort (fun x y => decide (g y < g x ∨ (g x = g y ∧ x ≤ y)))).Pairwise (fun x y => decide (g y < g x ∨ (g x = g y ∧ x ≤ y)) = true) := by
    refine List.pairwise_mergeSort ?_ ?_ _
    · intro a b c h1 h2
      have h1 := of_decide_eq_true h1
      have h2 := of_decide_eq_true h2
      exact decide_eq_true (by omega)
    · intro a b
      rw [Bool.or_eq_true]
      by_cases h : g b < g a ∨ (g a = g b ∧ a ≤ b)
      · exact .inl (decide_eq_true h)
      · exact .inr (decide_eq_true (by omega))
  have hd : ((rangeZ n).mergeSort (fun x y => decide (g y < g x ∨ (g x = g y ∧ x ≤ y)))).Nodup := hp.nodup_iff.2 (rise_nodup (rangeZ_rise n))
  refine (hs.and hd).imp ?_
  rintro a b ⟨h1, h2⟩
  have h1 := of_decide_eq_true h1
  unfold LtG
  omega
theorem rank_at {g : Int → Int} {o : List Int} {n k : Nat} (hp : o.Perm (rangeZ n)) (hs : o.Pairwise (LtG g)) (hk : k < n) : aheadZ g (nth o k) n = k := by
  have hl : o.length = n := by rw [hp.length_eq, rangeZ_len]
  have hk' : k < o.length := by omega
  unfold aheadZ
  rw [← (hp.filter _).length_eq]
  have e : o = o.take k ++ nth o k :: o.drop (k + 1) := by
    rw [nth_get hk', List.getElem_cons_drop, List.take_append_drop]
  have hs2 := hs
  rw [e, List.pairwise_append, List.pairwise_cons] at hs2
  obtain ⟨_, ⟨h2, _⟩, h3⟩ := hs2
  generalize nth o k = y at *
  have f1 : (o.take k).filter (fun j => decide (LtG g j y)) = o.take k := List.filter_eq_self.2 fun j hj => by simpa using h3 j hj y (by simp)
  have f2 : (y :: o.drop (k + 1)).filter (fun j => decide (LtG g j y)) = [] := List.filter_eq_nil_iff.2 fun j hj => by
    rcases List.mem_cons.1 hj with rfl | hj
    · unfold LtG; simp
    · have h4 := h2 j hj
      intro hh
      have h5 := of_decide_eq_true hh
      unfold LtG at h4 h5
      omega
  rw [e, List.filter_append, f1, f2, List.append_nil, List.length_take]
  omega
theorem rank_iff {g : Int → Int} {o : List Int} {n k : Nat} (hp : o.Perm (rangeZ n)) (hs : o.Pairwise (LtG g)) (hk : k < n) {i : Nat} (hi : i < n) : aheadZ g (i : Int) n = k ↔ nth o k = (i : Int) := by
  constructor
  · intro h
    have hm : (i : Int) ∈ o := hp.mem_iff.2 (rangeZ_mem.2 ⟨by omega, by omega⟩)
    obtain ⟨m, hm1, hm2⟩ := List.mem_iff_getElem.1 hm
    have hl : o.length = n := by rw [hp.length_eq, rangeZ_len]
    have e : nth o m = (i : Int) := by rw [nth_get hm1, hm2]
    have := rank_at (k := m) hp hs (by omega)
    rw [e, h] at this
    rw [this, e]
  · intro h
    rw [← h]
    exact rank_at hp hs hk
/-- What is laid behind, place by place, in the round of a rank. -/
def roundZ (o : List Int) (k i : Nat) : List Int := o.take k ++ if nth o k < (i : Int) then [nth o k] else []
theorem round_start {o : List Int} {n : Nat} (hp : o.Perm (rangeZ n)) {k : Nat} (hk : k < n) : roundZ o k 0 = o.take k := by
  have hl : o.length = n := by rw [hp.length_eq, rangeZ_len]
  have h := (rangeZ_mem.1 (hp.mem_iff.1 (nth_mem (zs := o) (k := k) (by omega)))).1
  unfold roundZ
  rw [if_neg (by omega), List.append_nil]
theorem round_done {o : List Int} {n : Nat} (hp : o.Perm (rangeZ n)) {k : Nat} (hk : k < n) : roundZ o k n = o.take (k + 1) := by
  have hl : o.length = n := by rw [hp.length_eq, rangeZ_len]
  have h := (rangeZ_mem.1 (hp.mem_iff.1 (nth_mem (zs := o) (k := k) (by omega)))).2
  unfold roundZ
  rw [if_pos h, List.take_add_one, List.getElem?_eq_getElem (by omega), nth_get (by omega)]
  rfl
theorem round_yes {o : List Int} {k i : Nat} (h : nth o k = (i : Int)) : roundZ o k (i + 1) = roundZ o k i ++ [(i : Int)] := by
  unfold roundZ
  rw [h, if_pos (by omega), if_neg (by omega), List.append_nil]
theorem round_no {o : List Int} {k i : Nat} (h : nth o k ≠ (i : Int)) : roundZ o k (i + 1) = roundZ o k i := by
  unfold roundZ
  congr 1
  by_cases h1 : nth o k < (i : Int)
  · rw [if_pos h1, if_pos (by omega)]
  · rw [if_neg h1, if_neg (by omega)]
theorem round_len (o : List Int) (k i : Nat) : (roundZ o k i).length ≤ k + 1 := by
  unfold roundZ
  rw [List.length_append, List.length_take]
  split <;> simp <;> omega
/-- Places of a choice, one behind the other, are the choice, sorted. -/
theorem filter_sorted {n : Nat} {T : List Int} (hd : T.Nodup) (hok : ∀ x ∈ T, OkZ n x) : (rangeZ n).filter (fun x => decide (x ∈ T)) = T.mergeSort (fun x y => decide (x ≤ y)) := by
  have hp : ((rangeZ n).filter (fun x => decide (x ∈ T))).Perm (T.mergeSort (fun x y => decide (x ≤ y))) := (sub_of hd hok).symm.trans (List.mergeSort_perm _ _).symm
  have hs : (T.mergeSort (fun x y => decide (x ≤ y))).Pairwise (fun x y => decide (x ≤ y) = true) := List.pairwise_mergeSort (fun a b c h1 h2 => by simp at *; omega) (fun a b => by simp; omega) _
  have hs' : (T.mergeSort (fun x y => decide (x ≤ y))).Pairwise (fun x y => x ≤ y) := hs.imp fun h => of_decide_eq_true h
  have hr : ((rangeZ n).filter (fun x => decide (x ∈ T))).Pairwise (fun x y => x ≤ y) := (List.Pairwise.filter _ (rangeZ_rise n)).imp fun h => Int.le_of_lt h
  exact hp.eq_of_pairwise (fun a b _ _ h1 h2 => Int.le_antisymm h1 h2) hr hs'
/-- A choice by its number. -/
def chN : Nat → Int → Nat → List Int
  | 0, _, _ => []
  | m + 1, i, c => if 2 ^ m ≤ c then i :: chN m (i + 1) (c - 2 ^ m) else chN m (i + 1) c
def chV : List Int → Nat → List Int
  | [], _ => []
  | a :: r, c => if 2 ^ r.length ≤ c then a :: chV r (c - 2 ^ r.length) else chV r c
theorem chV_sub : ∀ (ns : List Int) (c : Nat), (chV ns c).Sublist ns
  | [], _ => List.Sublist.refl _
  | a :: r, c => by
    unfold chV
    split
    · exact (chV_sub r _).cons_cons a
    · exact (chV_sub r _).cons a
theorem chN_vals {g : Int → Int} : ∀ (ns : List Int) (i : Int) (c : Nat), (∀ j : Nat, j < ns.length → g (i + j) = nth ns j) → (chN ns.length i c).map g = chV ns c
  | [], _, _, _ => rfl
  | a :: r, i, c, h => by
    have h0 : g i = a := by have := h 0 (by simp); simpa [nth] using this
    have hr : ∀ j : Nat, j < r.length → g (i + 1 + j) = nth r j := fun j hj => by
      have := h (j + 1) (by simp; omega)
      rw [show i + ((j + 1 : Nat) : Int) = i + 1 + j by omega] at this
      rw [this]
      simp [nth]
    show (if 2 ^ r.length ≤ c then i :: chN r.length (i + 1) (c - 2 ^ r.length) else chN r.length (i + 1) c).map g = _
    unfold chV
    split
    · rw [List.map_cons, h0, chN_vals r (i + 1) _ hr]
    · exact chN_vals r (i + 1) _ hr
theorem chN_len : ∀ (m : Nat) (i : Int) (c : Nat), (chN m i c).length ≤ m
  | 0, _, _ => Nat.le_refl _
  | m + 1, i, c => by
    unfold chN
    split
    · have := chN_len m (i + 1) (c - 2 ^ m); rw [List.length_cons]; omega
    · have := chN_len m (i + 1) c; omega
theorem chN_ok : ∀ (m : Nat) (i : Int) (c : Nat), ∀ x ∈ chN m i c, i ≤ x ∧ x < i + m
  | 0, _, _ => fun _ h => by cases h
  | m + 1, i, c => by
    unfold chN
    intro x hx
    split at hx
    · rcases List.mem_cons.1 hx with rfl | hx
      · omega
      · have := chN_ok m (i + 1) _ x hx; omega
    · have := chN_ok m (i + 1) _ x hx; omega
theorem chV_none : ∀ (ns : List Int) (c : Nat), c < 2 ^ ns.length → (chV ns c).length = 0 → c = 0
  | [], c, h, _ => by simpa using h
  | a :: r, c, h, he => by
    unfold chV at he
    split at he
    · simp at he
    · rename_i hc
      exact chV_none r c (by omega) he
/-- The number of the choice that best tells. -/
def numF : List Int → Int → Nat
  | [], _ => 0
  | a :: r, want => if (bestF (a :: r) want).tk = true then 2 ^ r.length + numF r (want - a) else numF r want
theorem numF_lt : ∀ (ns : List Int) (want : Int), numF ns want < 2 ^ ns.length
  | [], _ => by simp [numF]
  | a :: r, want => by
    unfold numF
    rw [List.length_cons, Nat.pow_succ]
    have h1 := numF_lt r (want - a)
    have h2 := numF_lt r want
    split <;> omega
theorem numF_pick : ∀ (ns : List Int) (i want : Int), chN ns.length i (numF ns want) = pickF ns i want
  | [], _, _ => rfl
  | a :: r, i, want => by
    have h2 := numF_lt r want
    show (if 2 ^ r.length ≤ numF (a :: r) want then i :: chN r.length (i + 1) (numF (a :: r) want - 2 ^ r.length) else chN r.length (i + 1) (numF (a :: r) want)) = _
    unfold numF pickF
    by_cases h : (bestF (a :: r) want).tk = true
    · rw [if_pos h, if_pos h, if_pos (Nat.le_add_right _ _), Nat.add_sub_cancel_left, numF_pick r]
    · rw [if_neg h, if_neg h, if_neg (by omega), numF_pick r]
/-- Of those that are as little, with as few, it is the last. -/
theorem numF_last : ∀ (ns : List Int), (∀ x ∈ ns, 0 ≤ x) → ∀ (want : Int) (c : Nat), c < 2 ^ ns.length → want ≤ (chV ns c).sum → (bestF ns want).s = (chV ns c).sum → (bestF ns want).k = (chV ns c).length → c ≤ numF ns want
  | [], _, want, c, hc, _, _, _ => by simp at hc; omega
  | a :: r, h0, want, c, hc, hw, hs, hk => by
    have hr : ∀ x ∈ r, 0 ≤ x := fun x hx => h0 x (by simp [hx])
    by_cases hl : want ≤ 0
    · rw [bestF_low _ hl] at hk
      have := chV_none (a :: r) c hc (by simp only [] at hk; omega)
      omega
    rw [List.length_cons, Nat.pow_succ] at hc
    have hB := bestF_cons a r hl
    unfold numF
    unfold chV at hw hs hk
    by_cases hj : (bestF r (want - a)).can = true ∧ ((bestF r want).can = false ∨ Lex ((bestF r (want - a)).s + a) ((bestF r (want - a)).k + 1) (bestF r want).s (bestF r want).k)
    · have e : joinF a (bestF r want) (bestF r (want - a)) = ⟨(bestF r (want - a)).s + a, (bestF r (want - a)).k + 1, true, true⟩ := by unfold joinF; rw [if_pos hj]
      rw [e] at hB
      rw [hB] at hs hk ⊢
      rw [if_pos rfl]
      by_cases hcc : 2 ^ r.length ≤ c
      · rw [if_pos hcc] at hw hs hk
        rw [List.sum_cons] at hw hs
        rw [List.length_cons] at hk
        have := numF_last r hr (want - a) (c - 2 ^ r.length) (by omega) (by omega) (by simp only [] at hs; omega) (by simp only [] at hk; omega)
        omega
      · omega
    · have e : joinF a (bestF r want) (bestF r (want - a)) = ⟨(bestF r want).s, (bestF r want).k, false, (bestF r want).can⟩ := by unfold joinF; rw [if_neg hj]
      rw [e] at hB
      rw [hB] at hs hk ⊢
      rw [if_neg (by simp)]
      by_cases hcc : 2 ^ r.length ≤ c
      · rw [if_pos hcc] at hw hs hk
        rw [List.sum_cons] at hw hs
        rw [List.length_cons] at hk
        exfalso
        obtain ⟨i1, i2⟩ := bestF_least r hr (want - a) _ (chV_sub r (c - 2 ^ r.length)) (by omega)
        refine hj ⟨i1, .inr ?_⟩
        simp only [] at hs hk
        unfold Lex at *
        omega
      · rw [if_neg hcc] at hw hs hk
        exact numF_last r hr want c (by omega) hw hs hk
end Go.Proofs.YtgickjghfndaaaaDoor
