/- Which coins are enough: plain laws of orders and of what is taken from their heads. No program in sight. Conditions: named in each theorem. -/
import Derived.Test.YtgickjghfndaaaaDoorRec
namespace Go.Proofs.YtgickjghfndaaaaDoor
open Go.RowKit Go.ChangeShapes Go.WideShapes Go.ChangeAt

/-- What lies at places, together. -/
def sumG (g : Int → Int) (p : List Int) : Int := (p.map g).sum
theorem sumG_nil (g : Int → Int) : sumG g [] = 0 := rfl
theorem sumG_cons (g : Int → Int) (i : Int) (r : List Int) : sumG g (i :: r) = g i + sumG g r := rfl
theorem sumG_app (g : Int → Int) (p q : List Int) : sumG g (p ++ q) = sumG g p + sumG g q := by
  unfold sumG
  rw [List.map_append, List.sum_append]
theorem sumG_perm {g : Int → Int} {p q : List Int} (h : p.Perm q) : sumG g p = sumG g q := by
  induction h with
  | nil => rfl
  | cons x _ ih => rw [sumG_cons, sumG_cons, ih]
  | swap x y l => rw [sumG_cons, sumG_cons, sumG_cons, sumG_cons]; omega
  | trans _ _ h1 h2 => rw [h1, h2]
theorem sumG_nonneg {g : Int → Int} {p : List Int} (h : ∀ i ∈ p, 0 ≤ g i) : 0 ≤ sumG g p := by
  induction p with
  | nil => exact Int.le_refl _
  | cons i r ih =>
    rw [sumG_cons]
    have h1 := h i (by simp)
    have h2 := ih fun j hj => h j (by simp [hj])
    omega
theorem sumG_mem {g : Int → Int} {p : List Int} (h : ∀ i ∈ p, 0 ≤ g i) {i : Int} (hi : i ∈ p) : g i ≤ sumG g p := by
  induction p with
  | nil => cases hi
  | cons j r ih =>
    rw [sumG_cons]
    have h1 := sumG_nonneg fun k hk => h k (List.mem_cons_of_mem _ hk)
    rcases List.mem_cons.1 hi with rfl | hi
    · omega
    · have := h j (by simp)
      have := ih (fun k hk => h k (List.mem_cons_of_mem _ hk)) hi
      omega
/-- What is taken from the head till it is enough. -/
def takeT (g : Int → Int) : Int → List Int → List Int
  | _, [] => []
  | want, i :: r => if want ≤ 0 then [] else i :: takeT g (want - g i) r
theorem takeT_low (g : Int → Int) {want : Int} (h : want ≤ 0) (o : List Int) : takeT g want o = [] := by
  cases o with
  | nil => rfl
  | cons i r => unfold takeT; rw [if_pos h]
/-- It is a head of the order; one fewer is not enough. -/
theorem takeT_head (g : Int → Int) : ∀ (o : List Int) (want : Int), ∃ k, k ≤ o.length ∧ takeT g want o = o.take k ∧ (0 < k → sumG g (o.take (k - 1)) < want)
  | [], want => ⟨0, Nat.le_refl _, rfl, fun h => absurd h (Nat.lt_irrefl 0)⟩
  | i :: r, want => by
    by_cases h : want ≤ 0
    · exact ⟨0, Nat.zero_le _, by rw [takeT_low g h]; rfl, fun h => absurd h (Nat.lt_irrefl 0)⟩
    · obtain ⟨k, hk, he, hs⟩ := takeT_head g r (want - g i)
      refine ⟨k + 1, by simpa using hk, ?_, fun _ => ?_⟩
      · unfold takeT
        rw [if_neg h, he]
        rfl
      · rw [Nat.add_sub_cancel]
        cases k with
        | zero => show sumG g [] < want; rw [sumG_nil]; omega
        | succ k =>
          have := hs (Nat.succ_pos k)
          rw [Nat.add_sub_cancel] at this
          rw [List.take_succ_cons, sumG_cons]
          omega
theorem takeT_enough (g : Int → Int) : ∀ (o : List Int) (want : Int), want ≤ sumG g o → (∀ i ∈ o, 0 ≤ g i) → want ≤ sumG g (takeT g want o)
  | [], want, h, _ => h
  | i :: r, want, h, hg => by
    unfold takeT
    split
    · rw [sumG_nil]; omega
    · rw [sumG_cons] at h
      rw [sumG_cons]
      have := takeT_enough g r (want - g i) (by omega) fun j hj => hg j (by simp [hj])
      omega
/-- It is told by the values alone. -/
theorem takeT_vals {g h : Int → Int} : ∀ (o q : List Int) (want : Int), o.map g = q.map h → (takeT g want o).map g = (takeT h want q).map h
  | [], [], _, _ => rfl
  | i :: r, j :: s, want, e => by
    rw [List.map_cons, List.map_cons] at e
    injection e with e1 e2
    unfold takeT
    split
    · rfl
    · rw [List.map_cons, List.map_cons, e1, takeT_vals r s _ e2]
  | [], j :: s, _, e => by cases e
  | i :: r, [], _, e => by cases e
/-- The greatest first: none of those behind is greater. -/
def Falls (g : Int → Int) (o : List Int) : Prop := o.Pairwise (fun i j => g j ≤ g i)
theorem sumG_take_mono {g : Int → Int} {o : List Int} (h : ∀ i ∈ o, 0 ≤ g i) {k m : Nat} (hk : k ≤ m) : sumG g (o.take k) ≤ sumG g (o.take m) := by
  have e : o.take m = o.take k ++ (o.drop k).take (m - k) := by
    rw [← List.take_add, Nat.add_sub_cancel' hk]
  rw [e, sumG_app]
  have := sumG_nonneg (g := g) (p := (o.drop k).take (m - k)) fun i hi => h i (List.mem_of_mem_drop (List.mem_of_mem_take hi))
  omega
/-- No choice of so many is more than the head of so many. -/
theorem choice_le {g : Int → Int} (p : Int → Bool) : ∀ {o : List Int}, Falls g o → sumG g (o.filter p) ≤ sumG g (o.take (o.filter p).length)
  | [], _ => Int.le_refl _
  | x :: r, h => by
    have hr := List.pairwise_cons.1 h
    have ih := choice_le p hr.2
    cases hp : p x with
    | true =>
      rw [List.filter_cons_of_pos hp, List.length_cons, List.take_succ_cons, sumG_cons, sumG_cons]
      omega
    | false =>
      rw [List.filter_cons_of_neg (by rw [hp]; decide)]
      generalize hm : (r.filter p).length = m at ih
      have hml : m ≤ r.length := by rw [← hm]; exact List.length_filter_le _ _
      cases m with
      | zero => exact ih
      | succ m =>
        rw [List.take_succ_cons, sumG_cons]
        have e : r.take (m + 1) = r.take m ++ [r[m]'(by omega)] := by rw [List.take_add_one, List.getElem?_eq_getElem (by omega)]; rfl
        rw [e, sumG_app, sumG_cons, sumG_nil] at ih
        have := hr.1 (r[m]'(by omega)) (List.getElem_mem _)
        omega
/-- The greatest first, of those that are alike the first one. -/
def LtG (g : Int → Int) (i j : Int) : Prop := g j < g i ∨ (g i = g j ∧ i < j)
theorem falls_of {g : Int → Int} {o : List Int} (h : o.Pairwise (LtG g)) : Falls g o := h.imp fun hij => by
  rcases hij with h | h
  · omega
  · omega
/-- Sorted values are told by which there are. -/
theorem vals_sorted {a b : List Int} (hp : a.Perm b) (ha : a.Pairwise (fun x y => y ≤ x)) (hb : b.Pairwise (fun x y => y ≤ x)) : a = b :=
  hp.eq_of_pairwise (fun _ _ _ _ h1 h2 => Int.le_antisymm h2 h1) ha hb
theorem order_one {g : Int → Int} {a b : List Int} (hp : a.Perm b) (ha : a.Pairwise (LtG g)) (hb : b.Pairwise (LtG g)) : a = b :=
  hp.eq_of_pairwise (fun _ _ _ _ h1 h2 => by
    exfalso
    rcases h1 with h1 | h1 <;> rcases h2 with h2 | h2 <;> omega) ha hb
theorem vals_falls {g : Int → Int} {o : List Int} (h : Falls g o) : (o.map g).Pairwise (fun x y => y ≤ x) := List.pairwise_map.2 h
/-- What is taken of the greatest: enough; no fewer are; without any of them the others are not. -/
theorem great_few {g : Int → Int} {o : List Int} {want : Int} (hg : ∀ i ∈ o, 0 ≤ g i) (hf : Falls g o) (p : Int → Bool) (hc : (o.filter p).length < (takeT g want o).length) : sumG g (o.filter p) < want := by
  obtain ⟨k, hk, he, hs⟩ := takeT_head g o want
  rw [he, List.length_take] at hc
  have h1 := choice_le p hf
  have h2 := sumG_take_mono hg (k := (o.filter p).length) (m := k - 1) (by omega)
  have h3 := hs (by omega)
  omega
theorem great_without {g : Int → Int} {o : List Int} {want : Int} (hf : Falls g o) (hne : takeT g want o ≠ []) {y : Int} (hy : ∃ i ∈ takeT g want o, g i ≤ y) : sumG g (takeT g want o) - y < want := by
  obtain ⟨k, hk, he, hs⟩ := takeT_head g o want
  rw [he] at hne hy ⊢
  have hk0 : 0 < k := by
    rcases Nat.eq_zero_or_pos k with h | h
    · exact absurd (by rw [h]; rfl) hne
    · exact h
  have h3 := hs hk0
  obtain ⟨m, rfl⟩ : ∃ m, k = m + 1 := ⟨k - 1, by omega⟩
  rw [Nat.add_sub_cancel] at h3
  have e : o.take (m + 1) = o.take m ++ [o[m]'(by omega)] := by rw [List.take_add_one, List.getElem?_eq_getElem (by omega)]; rfl
  have hlast : g (o[m]'(by omega)) ≤ y := by
    obtain ⟨i, hi, hiy⟩ := hy
    obtain ⟨q, hq, rfl⟩ := List.getElem_of_mem hi
    rw [List.length_take] at hq
    rw [List.getElem_take] at hiy
    rcases Nat.lt_or_ge q m with h | h
    · have := (List.pairwise_iff_getElem.1 hf) q m (by omega) (by omega) h
      omega
    · have : q = m := by omega
      subst this
      exact hiy
  rw [e, sumG_app, sumG_cons, sumG_nil]
  omega
theorem ltG_trans {g : Int → Int} {x y z : Int} (h1 : LtG g x y) (h2 : LtG g y z) : LtG g x z := by
  unfold LtG at *
  omega
theorem ltG_tot {g : Int → Int} {x y : Int} (h : x ≠ y) (hn : ¬ LtG g x y) : LtG g y x := by
  unfold LtG at *
  omega
/-- Two sorted halves that are parted alike: both parts in order are all in order. -/
theorem merge_parts {g : Int → Int} {L1 L2 R1 R2 S1 S2 : List Int} (hL : (L1 ++ L2).Pairwise (LtG g)) (hR : (R1 ++ R2).Pairwise (LtG g)) (h1 : S1.Perm (L1 ++ R1)) (h2 : S2.Perm (L2 ++ R2)) (s1 : S1.Pairwise (LtG g)) (s2 : S2.Pairwise (LtG g))
    (c1 : ∀ r l, R1.getLast? = some r → L2.head? = some l → LtG g r l) (c2 : ∀ l r, L1.getLast? = some l → R2.head? = some r → LtG g l r) : (S1 ++ S2).Pairwise (LtG g) := by
  rw [List.pairwise_append] at hL hR ⊢
  refine ⟨s1, s2, fun x hx y hy => ?_⟩
  have hlast : ∀ (X : List Int), X.Pairwise (LtG g) → ∀ x ∈ X, ∃ z, X.getLast? = some z ∧ (x = z ∨ LtG g x z) := by
    intro X hX x hx
    have hne : X ≠ [] := fun e => by rw [e] at hx; cases hx
    refine ⟨X.getLast hne, List.getLast?_eq_some_getLast hne, ?_⟩
    obtain ⟨q, hq, rfl⟩ := List.getElem_of_mem hx
    rw [List.getLast_eq_getElem hne]
    rcases Nat.lt_or_ge q (X.length - 1) with h | h
    · exact .inr ((List.pairwise_iff_getElem.1 hX) q (X.length - 1) hq (by omega) h)
    · left
      congr 1
      omega
  have hhead : ∀ (X : List Int), X.Pairwise (LtG g) → ∀ x ∈ X, ∃ z, X.head? = some z ∧ (x = z ∨ LtG g z x) := by
    intro X hX x hx
    cases X with
    | nil => cases hx
    | cons z r =>
      refine ⟨z, rfl, ?_⟩
      rcases List.mem_cons.1 hx with h | h
      · exact .inl h
      · exact .inr ((List.pairwise_cons.1 hX).1 x h)
  have step : ∀ (X Y : List Int), X.Pairwise (LtG g) → Y.Pairwise (LtG g) → (∀ r l, X.getLast? = some r → Y.head? = some l → LtG g r l) → ∀ x ∈ X, ∀ y ∈ Y, LtG g x y := by
    intro X Y hX hY hc x hx y hy
    obtain ⟨z, hz, hxz⟩ := hlast X hX x hx
    obtain ⟨u, hu, huy⟩ := hhead Y hY y hy
    have hzu := hc z u hz hu
    have h3 : LtG g x u := by
      rcases hxz with rfl | h
      · exact hzu
      · exact ltG_trans h hzu
    rcases huy with rfl | h
    · exact h3
    · exact ltG_trans h3 h
  rcases List.mem_append.1 (h1.mem_iff.1 hx) with hx | hx <;> rcases List.mem_append.1 (h2.mem_iff.1 hy) with hy | hy
  · exact hL.2.2 x hx y hy
  · exact step L1 R2 hL.1 hR.2.1 c2 x hx y hy
  · exact step R1 L2 hR.1 hL.2.1 c1 x hx y hy
  · exact hR.2.2 x hx y hy
end Go.Proofs.YtgickjghfndaaaaDoor
