/- Merging two sorted halves: the searches and the moves of one. Plain laws. No program in sight. Conditions: named in each theorem. -/
import Derived.Test.YtgickjghfndaaaaDoorPickM
namespace Go.Proofs.YtgickjghfndaaaaDoor
open Go.RowKit Go.ChangeShapes Go.WideShapes Go.ChangeAt

/-- A place that is searched by halves: all below i are so, none from j on is. -/
structure Fnd (f : Nat → Prop) (lo hi i j : Nat) : Prop where
  li : lo ≤ i
  ij : i ≤ j
  jh : j ≤ hi
  below : ∀ k, lo ≤ k → k < i → f k
  above : ∀ k, j ≤ k → k < hi → ¬ f k
def Mono (f : Nat → Prop) (lo hi : Nat) : Prop := ∀ k k', lo ≤ k' → k' < k → k < hi → f k → f k'
theorem Fnd.start {f : Nat → Prop} {lo hi : Nat} (h : lo ≤ hi) : Fnd f lo hi lo hi := ⟨Nat.le_refl _, h, Nat.le_refl _, fun _ h1 h2 => absurd h2 (Nat.not_lt.2 h1), fun _ h1 h2 => absurd h2 (Nat.not_lt.2 h1)⟩
theorem Fnd.right {f : Nat → Prop} {lo hi i j c : Nat} (h : Fnd f lo hi i j) (hm : Mono f lo hi) (h1 : i ≤ c) (h2 : c < j) (hf : f c) : Fnd f lo hi (c + 1) j :=
  ⟨by have := h.li; omega, h2, h.jh, fun k hk hc => by
    rcases Nat.lt_or_ge k c with h3 | h3
    · exact hm c k hk h3 (by have := h.jh; omega) hf
    · have : k = c := by omega
      subst this
      exact hf, h.above⟩
theorem Fnd.left {f : Nat → Prop} {lo hi i j c : Nat} (h : Fnd f lo hi i j) (hm : Mono f lo hi) (h1 : i ≤ c) (h2 : c < j) (hf : ¬ f c) : Fnd f lo hi i c :=
  ⟨h.li, h1, by have := h.jh; omega, h.below, fun k hk hc hfk => by
    rcases Nat.lt_or_ge c k with h3 | h3
    · exact hf (hm k c (by have := h.li; omega) h3 hc hfk)
    · have : k = c := by omega
      subst this
      exact hf hfk⟩
section
variable {g : Int → Int}
/-- Which of the later half go ahead of one of the elder. -/
def FR (g : Int → Int) (x : Int) (R : List Int) (k : Nat) : Prop := LtG g (nth R k) x
def FL (g : Int → Int) (y : Int) (L : List Int) (k : Nat) : Prop := ¬ LtG g y (nth L k)
def FP (g : Int → Int) (L R : List Int) (n : Nat) (k : Nat) : Prop := ¬ LtG g (nth R (n - 1 - k)) (nth L k)
theorem mono_R {x : Int} {R : List Int} (h : R.Pairwise (LtG g)) : Mono (FR g x R) 0 R.length := fun _ _ _ h2 h3 hf => ltG_trans (sorted_nth h h2 h3) hf
theorem mono_L {y : Int} {L : List Int} (h : L.Pairwise (LtG g)) : Mono (FL g y L) 0 L.length := fun _ _ _ h2 h3 hf hg => hf (ltG_trans hg (sorted_nth h h2 h3))
/-- Where the search of a merge looks: places of the first half, of l and q. -/
def PartR (l q lo hi : Nat) : Prop := (l > (l + q) / 2 ∧ lo = (l + q) / 2 - q ∧ hi = (l + q) / 2) ∨ (l ≤ (l + q) / 2 ∧ lo = 0 ∧ hi = l)
theorem PartR.in_ {l q lo hi c : Nat} (h : PartR l q lo hi) (h1 : lo ≤ c) (h2 : c < hi) (hq : 0 < q) : c < l ∧ (l + q) / 2 - 1 - c < q ∧ c < (l + q) / 2 := by
  unfold PartR at h
  omega
theorem mono_P {L R : List Int} (hL : L.Pairwise (LtG g)) (hR : R.Pairwise (LtG g)) {lo hi : Nat} (hp : PartR L.length R.length lo hi) (hq : 0 < R.length) : Mono (FP g L R ((L.length + R.length) / 2)) lo hi := fun k k' h1 h2 h3 hf hg => by
  obtain ⟨a1, a2, a3⟩ := hp.in_ (c := k) (by omega) h3 hq
  obtain ⟨b1, b2, b3⟩ := hp.in_ (c := k') h1 (by omega) hq
  exact hf (ltG_trans (ltG_trans (sorted_nth hR (by omega) b2) hg) (sorted_nth hL h2 a1))
/-- One of the elder half goes to its place among the later ones. -/
theorem ins_R {x : Int} {R : List Int} {i : Nat} (h : R.Pairwise (LtG g)) (hx : ∀ y ∈ R, x < y) (hf : Fnd (FR g x R) 0 R.length i i) : (R.take i ++ x :: R.drop i).Pairwise (LtG g) ∧ (R.take i ++ x :: R.drop i).Perm (x :: R) := by
  have h0 := h
  rw [← List.take_append_drop i R, List.pairwise_append] at h
  have hil := hf.jh
  constructor
  · rw [List.pairwise_append]
    have hd : ∀ z ∈ R.drop i, LtG g x z := by
      intro z hz
      obtain ⟨q, hq, rfl⟩ := List.getElem_of_mem hz
      rw [List.length_drop] at hq
      have := hf.above (i + q) (by omega) (by omega)
      rw [List.getElem_drop]
      unfold FR at this
      rw [nth_get (by omega)] at this
      exact ltG_tot (fun e => by have := hx _ (List.getElem_mem (l := R) (n := i + q) (by omega)); omega) this
    have ht : ∀ z ∈ R.take i, LtG g z x := by
      intro z hz
      obtain ⟨q, hq, rfl⟩ := List.getElem_of_mem hz
      rw [List.length_take] at hq
      have := hf.below q (Nat.zero_le _) (by omega)
      rw [List.getElem_take]
      unfold FR at this
      rwa [nth_get (by omega)] at this
    refine ⟨h.1, List.pairwise_cons.2 ⟨hd, h.2.1⟩, ?_⟩
    intro z hz u hu
    rcases List.mem_cons.1 hu with rfl | hu
    · exact ht z hz
    · exact h.2.2 z hz u hu
  · have := List.perm_middle (a := x) (l₁ := R.take i) (l₂ := R.drop i)
    rwa [List.take_append_drop] at this
theorem ins_L {y : Int} {L : List Int} {i : Nat} (h : L.Pairwise (LtG g)) (hy : ∀ x ∈ L, x < y) (hf : Fnd (FL g y L) 0 L.length i i) : (L.take i ++ y :: L.drop i).Pairwise (LtG g) ∧ (L.take i ++ y :: L.drop i).Perm (L ++ [y]) := by
  rw [← List.take_append_drop i L, List.pairwise_append] at h
  have hil := hf.jh
  constructor
  · rw [List.pairwise_append]
    have hd : ∀ z ∈ L.drop i, LtG g y z := by
      intro z hz
      obtain ⟨q, hq, rfl⟩ := List.getElem_of_mem hz
      rw [List.length_drop] at hq
      have := hf.above (i + q) (by omega) (by omega)
      rw [List.getElem_drop]
      unfold FL at this
      rw [nth_get (by omega)] at this
      exact Classical.not_not.1 this
    have ht : ∀ z ∈ L.take i, LtG g z y := by
      intro z hz
      obtain ⟨q, hq, rfl⟩ := List.getElem_of_mem hz
      rw [List.length_take] at hq
      have := hf.below q (Nat.zero_le _) (by omega)
      rw [List.getElem_take]
      unfold FL at this
      rw [nth_get (by omega)] at this
      exact ltG_tot (fun e => by have := hy _ (List.getElem_mem (l := L) (n := q) (by omega)); omega) this
    refine ⟨h.1, List.pairwise_cons.2 ⟨hd, h.2.1⟩, ?_⟩
    intro z hz u hu
    rcases List.mem_cons.1 hu with rfl | hu
    · exact ht z hz
    · exact h.2.2 z hz u hu
  · have := List.perm_middle (a := y) (l₁ := L.take i) (l₂ := L.drop i)
    rw [List.take_append_drop] at this
    exact this.trans (List.perm_append_singleton y L).symm
/-- Where the search has ended, both parts in order are all in order. -/
theorem part_done {L R : List Int} {lo hi s : Nat} (hL : L.Pairwise (LtG g)) (hR : R.Pairwise (LtG g)) (hO : ∀ x ∈ L, ∀ y ∈ R, x < y) (hp : PartR L.length R.length lo hi)
    (hf : Fnd (FP g L R ((L.length + R.length) / 2)) lo hi s s) : s ≤ L.length ∧ s ≤ (L.length + R.length) / 2 ∧ (L.length + R.length) / 2 - s ≤ R.length ∧
    ∀ S1 S2 : List Int, S1.Perm (L.take s ++ R.take ((L.length + R.length) / 2 - s)) → S2.Perm (L.drop s ++ R.drop ((L.length + R.length) / 2 - s)) → S1.Pairwise (LtG g) → S2.Pairwise (LtG g) → (S1 ++ S2).Pairwise (LtG g) ∧ (S1 ++ S2).Perm (L ++ R) := by
  have h1 := hf.li
  have h2 := hf.jh
  have b1 : s ≤ L.length := by unfold PartR at hp; omega
  have b2 : s ≤ (L.length + R.length) / 2 := by unfold PartR at hp; omega
  have b3 : (L.length + R.length) / 2 - s ≤ R.length := by unfold PartR at hp; omega
  refine ⟨b1, b2, b3, fun S1 S2 p1 p2 s1 s2 => ⟨?_, ?_⟩⟩
  · refine merge_parts (L1 := L.take s) (L2 := L.drop s) (R1 := R.take ((L.length + R.length) / 2 - s)) (R2 := R.drop ((L.length + R.length) / 2 - s)) (by rw [List.take_append_drop]; exact hL) (by rw [List.take_append_drop]; exact hR) p1 p2 s1 s2 ?_ ?_
    · intro r l hr hl
      have e0 : 0 < (L.length + R.length) / 2 - s := by
        rcases Nat.eq_zero_or_pos ((L.length + R.length) / 2 - s) with h | h
        · rw [h, List.take_zero] at hr; cases hr
        · exact h
      have e1 : s < L.length := by
        rcases Nat.lt_or_ge s L.length with h | h
        · exact h
        · rw [List.drop_eq_nil_of_le h] at hl; cases hl
      rw [take_last e0 b3] at hr
      rw [drop_head e1] at hl
      injection hr with hr
      injection hl with hl
      have h3 := hf.above s (Nat.le_refl _) (by unfold PartR at hp; omega)
      unfold FP at h3
      have h4 := Classical.not_not.1 h3
      rw [show (L.length + R.length) / 2 - 1 - s = (L.length + R.length) / 2 - s - 1 by omega, hr, hl] at h4
      exact h4
    · intro l r hl hr
      have e0 : 0 < s := by
        rcases Nat.eq_zero_or_pos s with h | h
        · rw [h, List.take_zero] at hl; cases hl
        · exact h
      have e1 : (L.length + R.length) / 2 - s < R.length := by
        rcases Nat.lt_or_ge ((L.length + R.length) / 2 - s) R.length with h | h
        · exact h
        · rw [List.drop_eq_nil_of_le h] at hr; cases hr
      rw [take_last e0 b1] at hl
      rw [drop_head e1] at hr
      injection hr with hr
      injection hl with hl
      have h3 := hf.below (s - 1) (by unfold PartR at hp; omega) (by omega)
      unfold FP at h3
      rw [show (L.length + R.length) / 2 - 1 - (s - 1) = (L.length + R.length) / 2 - s by omega, hr, hl] at h3
      have h5 : l ∈ L := by rw [← hl, nth_get (by omega)]; exact List.getElem_mem _
      have h6 : r ∈ R := by rw [← hr, nth_get e1]; exact List.getElem_mem _
      exact ltG_tot (fun e => by have := hO l h5 r h6; omega) h3
  · have e := (p1.append p2)
    refine e.trans ?_
    have e2 : (L.take s ++ R.take ((L.length + R.length) / 2 - s) ++ (L.drop s ++ R.drop ((L.length + R.length) / 2 - s))).Perm (L.take s ++ L.drop s ++ (R.take ((L.length + R.length) / 2 - s) ++ R.drop ((L.length + R.length) / 2 - s))) := by
      rw [List.append_assoc, List.append_assoc]
      refine List.Perm.append_left _ ?_
      rw [← List.append_assoc, ← List.append_assoc]
      exact List.Perm.append_right _ List.perm_append_comm
    rw [List.take_append_drop, List.take_append_drop] at e2
    exact e2
end
/-- One moves behind others, or ahead of them. -/
def MovR (A : List Int) (x : Int) (R B : List Int) (k : Nat) (xs : List Int) : Prop := xs = A ++ (R.take k ++ x :: (R.drop k ++ B))
theorem MovR.step {A R B xs : List Int} {x : Int} {k : Nat} (h : MovR A x R B k xs) (hk : k < R.length) {j : Nat} (hj : j = A.length + k) : MovR A x R B (k + 1) ((xs.set j (nth xs (j + 1))).set (j + 1) (nth xs j)) ∧ j + 1 < xs.length := by
  unfold MovR at h ⊢
  have eU : R.drop k = (R[k]'hk) :: R.drop (k + 1) := List.drop_eq_getElem_cons hk
  have tU : R.take (k + 1) = R.take k ++ [R[k]'hk] := by rw [List.take_add_one, List.getElem?_eq_getElem hk]; rfl
  rw [tU]
  rw [eU] at h
  have l1 : (R.take k).length = k := by rw [List.length_take]; omega
  generalize R[k]'hk = u at h ⊢
  generalize R.take k = R1 at *
  generalize R.drop (k + 1) = R2 at *
  subst h
  have e1 : A ++ (R1 ++ x :: (u :: R2 ++ B)) = (A ++ R1) ++ x :: u :: (R2 ++ B) := by simp
  have e2 : (A ++ R1) ++ x :: u :: (R2 ++ B) = ((A ++ R1) ++ [x]) ++ u :: (R2 ++ B) := by simp
  have p1 : j = (A ++ R1).length := by rw [List.length_append]; omega
  have n1 : nth (A ++ (R1 ++ x :: (u :: R2 ++ B))) j = x := by rw [e1]; exact nth_mid _ _ _ p1
  have n2 : nth (A ++ (R1 ++ x :: (u :: R2 ++ B))) (j + 1) = u := by rw [e1, e2]; exact nth_mid _ _ _ (by simp only [List.length_append, List.length_cons, List.length_nil] at p1 ⊢; omega)
  rw [n1, n2]
  refine ⟨?_, by simp only [List.length_append, List.length_cons]; omega⟩
  rw [e1, swap_prev _ _ _ _ p1]
  simp
theorem MovR.back {A L B xs : List Int} {y : Int} {k : Nat} (h : MovR A y L B (k + 1) xs) (hk : k < L.length) {j : Nat} (hj : j = A.length + k) : MovR A y L B k ((xs.set (j + 1) (nth xs j)).set j (nth xs (j + 1))) ∧ j + 1 < xs.length := by
  unfold MovR at h ⊢
  have eU : L.drop k = (L[k]'hk) :: L.drop (k + 1) := List.drop_eq_getElem_cons hk
  have tU : L.take (k + 1) = L.take k ++ [L[k]'hk] := by rw [List.take_add_one, List.getElem?_eq_getElem hk]; rfl
  rw [tU] at h
  rw [eU]
  have l1 : (L.take k).length = k := by rw [List.length_take]; omega
  generalize L[k]'hk = u at h ⊢
  generalize L.take k = R1 at *
  generalize L.drop (k + 1) = R2 at *
  subst h
  have e1 : A ++ (R1 ++ [u] ++ y :: (R2 ++ B)) = (A ++ R1) ++ u :: y :: (R2 ++ B) := by simp
  have e2 : (A ++ R1) ++ u :: y :: (R2 ++ B) = ((A ++ R1) ++ [u]) ++ y :: (R2 ++ B) := by simp
  have p1 : j = (A ++ R1).length := by rw [List.length_append]; omega
  have n1 : nth (A ++ (R1 ++ [u] ++ y :: (R2 ++ B))) j = u := by rw [e1]; exact nth_mid _ _ _ p1
  have n2 : nth (A ++ (R1 ++ [u] ++ y :: (R2 ++ B))) (j + 1) = y := by rw [e1, e2]; exact nth_mid _ _ _ (by simp only [List.length_append, List.length_cons, List.length_nil] at p1 ⊢; omega)
  rw [n1, n2]
  refine ⟨?_, by simp only [List.length_append, List.length_cons, List.length_nil]; omega⟩
  rw [e1, swap_next _ _ _ _ p1]
  simp
end Go.Proofs.YtgickjghfndaaaaDoor
