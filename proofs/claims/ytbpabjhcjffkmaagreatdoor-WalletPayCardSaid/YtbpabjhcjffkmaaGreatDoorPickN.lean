/- Which coins are enough: plain laws of orders and of what is taken from their heads. No program in sight. Conditions: named in each theorem. Sorting, swapping, turning round: plain laws of lists that are walked place by place. No program in sight. Conditions: named in each theorem. Merging two sorted halves: the searches and the moves of one. Plain laws. No program in sight. Conditions: named in each theorem. -/
import Derived.Test.YtbpabjhcjffkmaaGreatDoorRec
/- Which coins are enough: plain laws of orders and of what is taken from their heads. No program in sight. Conditions: named in each theorem. -/
namespace Go.Proofs.YtbpabjhcjffkmaaGreatDoor.Pk
open Go.RowKit Go.ChangeShapes Go.WideShapes Go.ChangeAt

/-- What lies at places, together. -/
def sumG (g : Int → Int) (p : List Int) : Int := (p.map g).sum
theorem sumG_nil (g : Int → Int) : sumG g [] = 0 := rfl
theorem sumG_cons (g : Int → Int) (i : Int) (r : List Int) : sumG g (i :: r) = g i + sumG g r := rfl
theorem sumG_app (g : Int → Int) (p q : List Int) : sumG g (p ++ q) = sumG g p + sumG g q := by
 unfold sumG
 rw [List.map_append, List.sum_append]
theorem sumG_perm {g : Int → Int} {p q : List Int} (h : p.Perm q) : sumG g p = sumG g q := by
 induction h with
 | nil => rfl
 | cons x _ ih => rw [sumG_cons, sumG_cons, ih]
 | swap x y l => rw [sumG_cons, sumG_cons, sumG_cons, sumG_cons]; omega
 | trans _ _ h1 h2 => rw [h1, h2]
theorem sumG_nonneg {g : Int → Int} {p : List Int} (h : ∀ i ∈ p, 0 ≤ g i) : 0 ≤ sumG g p := by
 induction p with
 | nil => exact Int.le_refl _
 | cons i r ih =>
  rw [sumG_cons]
  have h1 := h i (by simp)
  have h2 := ih fun j hj => h j (by simp [hj])
  omega
/-- What is taken from the head till it is enough. -/
def takeT (g : Int → Int) : Int → List Int → List Int
 | _, [] => []
 | want, i :: r => if want ≤ 0 then [] else i :: takeT g (want - g i) r
theorem takeT_low (g : Int → Int) {want : Int} (h : want ≤ 0) (o : List Int) : takeT g want o = [] := by
 cases o with
 | nil => rfl
 | cons i r => unfold takeT; rw [if_pos h]
/-- It is a head of the order; one fewer is not enough. -/
theorem takeT_head (g : Int → Int) : ∀ (o : List Int) (want : Int), ∃ k, k ≤ o.length ∧ takeT g want o = o.take k ∧ (0 < k → sumG g (o.take (k - 1)) < want)
 | [], want => ⟨0, Nat.le_refl _, rfl, fun h => absurd h (Nat.lt_irrefl 0)⟩
 | i :: r, want => by
  by_cases h : want ≤ 0
  ·exact ⟨0, Nat.zero_le _, by rw [takeT_low g h]; rfl, fun h => absurd h (Nat.lt_irrefl 0)⟩
  ·obtain ⟨k, hk, he, hs⟩ := takeT_head g r (want - g i)
   refine ⟨k + 1, by simpa using hk, ?_, fun _ => ?_⟩
   ·unfold takeT
    rw [if_neg h, he]
    rfl
   ·rw [Nat.add_sub_cancel]
    cases k with
    | zero => show sumG g [] < want; rw [sumG_nil]; omega
    | succ k =>
     have := hs (Nat.succ_pos k)
     rw [Nat.add_sub_cancel] at this
     rw [List.take_succ_cons, sumG_cons]
     omega
theorem takeT_enough (g : Int → Int) : ∀ (o : List Int) (want : Int), want ≤ sumG g o → (∀ i ∈ o, 0 ≤ g i) → want ≤ sumG g (takeT g want o)
 | [], want, h, _ => h
 | i :: r, want, h, hg => by
  unfold takeT
  split
  ·rw [sumG_nil]; omega
  ·rw [sumG_cons] at h
   rw [sumG_cons]
   have := takeT_enough g r (want - g i) (by omega) fun j hj => hg j (by simp [hj])
   omega
/-- The greatest first: none of those behind is greater. -/
def Falls (g : Int → Int) (o : List Int) : Prop := o.Pairwise (fun i j => g j ≤ g i)
theorem sumG_take_mono {g : Int → Int} {o : List Int} (h : ∀ i ∈ o, 0 ≤ g i) {k m : Nat} (hk : k ≤ m) : sumG g (o.take k) ≤ sumG g (o.take m) := by
 have e : o.take m = o.take k ++ (o.drop k).take (m - k) := by
  rw [← List.take_add, Nat.add_sub_cancel' hk]
 rw [e, sumG_app]
 have := sumG_nonneg (g := g) (p := (o.drop k).take (m - k)) fun i hi => h i (List.mem_of_mem_drop (List.mem_of_mem_take hi))
 omega
/-- No choice of so many is more than the head of so many. -/
theorem choice_le {g : Int → Int} (p : Int → Bool) : ∀ {o : List Int}, Falls g o → sumG g (o.filter p) ≤ sumG g (o.take (o.filter p).length)
 | [], _ => Int.le_refl _
 | x :: r, h => by
  have hr := List.pairwise_cons.1 h
  have ih := choice_le p hr.2
  cases hp : p x with
  | true =>
   rw [List.filter_cons_of_pos hp, List.length_cons, List.take_succ_cons, sumG_cons, sumG_cons]
   omega
  | false =>
   rw [List.filter_cons_of_neg (by rw [hp]; decide)]
   generalize hm : (r.filter p).length = m at ih
   have hml : m ≤ r.length := by rw [← hm]; exact List.length_filter_le _ _
   cases m with
   | zero => exact ih
   | succ m =>
    rw [List.take_succ_cons, sumG_cons]
    have e : r.take (m + 1) = r.take m ++ [r[m]'(by omega)] := by rw [List.take_add_one, List.getElem?_eq_getElem (by omega)]; rfl
    rw [e, sumG_app, sumG_cons, sumG_nil] at ih
    have := hr.1 (r[m]'(by omega)) (List.getElem_mem _)
    omega
/-- The greatest first, of those that are alike the first one. -/
def LtG (g : Int → Int) (i j : Int) : Prop := g j < g i ∨ (g i = g j ∧ i < j)
theorem falls_of {g : Int → Int} {o : List Int} (h : o.Pairwise (LtG g)) : Falls g o := h.imp fun hij => by
 rcases hij with h | h
 ·omega
 ·omega
theorem order_one {g : Int → Int} {a b : List Int} (hp : a.Perm b) (ha : a.Pairwise (LtG g)) (hb : b.Pairwise (LtG g)) : a = b :=
 hp.eq_of_pairwise (fun _ _ _ _ h1 h2 => by
  exfalso
  rcases h1 with h1 | h1 <;> rcases h2 with h2 | h2 <;> omega) ha hb
/-- What is taken of the greatest: enough; no fewer are; without any of them the others are not. -/
theorem great_few {g : Int → Int} {o : List Int} {want : Int} (hg : ∀ i ∈ o, 0 ≤ g i) (hf : Falls g o) (p : Int → Bool) (hc : (o.filter p).length < (takeT g want o).length) : sumG g (o.filter p) < want := by
 obtain ⟨k, hk, he, hs⟩ := takeT_head g o want
 rw [he, List.length_take] at hc
 have h1 := choice_le p hf
 have h2 := sumG_take_mono hg (k := (o.filter p).length) (m := k - 1) (by omega)
 have h3 := hs (by omega)
 omega
theorem great_without {g : Int → Int} {o : List Int} {want : Int} (hf : Falls g o) (hne : takeT g want o ≠ []) {y : Int} (hy : ∃ i ∈ takeT g want o, g i ≤ y) : sumG g (takeT g want o) - y < want := by
 obtain ⟨k, hk, he, hs⟩ := takeT_head g o want
 rw [he] at hne hy ⊢
 have hk0 : 0 < k := by
  rcases Nat.eq_zero_or_pos k with h | h
  ·exact absurd (by rw [h]; rfl) hne
  ·exact h
 have h3 := hs hk0
 obtain ⟨m, rfl⟩ : ∃ m, k = m + 1 := ⟨k - 1, by omega⟩
 rw [Nat.add_sub_cancel] at h3
 have e : o.take (m + 1) = o.take m ++ [o[m]'(by omega)] := by rw [List.take_add_one, List.getElem?_eq_getElem (by omega)]; rfl
 have hlast : g (o[m]'(by omega)) ≤ y := by
  obtain ⟨i, hi, hiy⟩ := hy
  obtain ⟨q, hq, rfl⟩ := List.getElem_of_mem hi
  rw [List.length_take] at hq
  rw [List.getElem_take] at hiy
  rcases Nat.lt_or_ge q m with h | h
  ·have := (List.pairwise_iff_getElem.1 hf) q m (by omega) (by omega) h
   omega
  ·have : q = m := by omega
   subst this
   exact hiy
 rw [e, sumG_app, sumG_cons, sumG_nil]
 omega
theorem ltG_trans {g : Int → Int} {x y z : Int} (h1 : LtG g x y) (h2 : LtG g y z) : LtG g x z := by
 unfold LtG at *
 omega
theorem ltG_tot {g : Int → Int} {x y : Int} (h : x ≠ y) (hn : ¬ LtG g x y) : LtG g y x := by
 unfold LtG at *
 omega
/-- Two sorted halves that are parted alike: both parts in order are all in order. -/
theorem merge_parts {g : Int → Int} {L1 L2 R1 R2 S1 S2 : List Int} (hL : (L1 ++ L2).Pairwise (LtG g)) (hR : (R1 ++ R2).Pairwise (LtG g)) (h1 : S1.Perm (L1 ++ R1)) (h2 : S2.Perm (L2 ++ R2)) (s1 : S1.Pairwise (LtG g)) (s2 : S2.Pairwise (LtG g))
  (c1 : ∀ r l, R1.getLast? = some r → L2.head? = some l → LtG g r l) (c2 : ∀ l r, L1.getLast? = some l → R2.head? = some r → LtG g l r) : (S1 ++ S2).Pairwise (LtG g) := by
 rw [List.pairwise_append] at hL hR ⊢
 refine ⟨s1, s2, fun x hx y hy => ?_⟩
 have hlast : ∀ (X : List Int), X.Pairwise (LtG g) → ∀ x ∈ X, ∃ z, X.getLast? = some z ∧ (x = z ∨ LtG g x z) := by
  intro X hX x hx
  have hne : X ≠ [] := fun e => by rw [e] at hx; cases hx
  refine ⟨X.getLast hne, List.getLast?_eq_some_getLast hne, ?_⟩
  obtain ⟨q, hq, rfl⟩ := List.getElem_of_mem hx
  rw [List.getLast_eq_getElem hne]
  rcases Nat.lt_or_ge q (X.length - 1) with h | h
  ·exact .inr ((List.pairwise_iff_getElem.1 hX) q (X.length - 1) hq (by omega) h)
  ·left
   congr 1
   omega
 have hhead : ∀ (X : List Int), X.Pairwise (LtG g) → ∀ x ∈ X, ∃ z, X.head? = some z ∧ (x = z ∨ LtG g z x) := by
  intro X hX x hx
  cases X with
  | nil => cases hx
  | cons z r =>
   refine ⟨z, rfl, ?_⟩
   rcases List.mem_cons.1 hx with h | h
   ·exact .inl h
   ·exact .inr ((List.pairwise_cons.1 hX).1 x h)
 have step : ∀ (X Y : List Int), X.Pairwise (LtG g) → Y.Pairwise (LtG g) → (∀ r l, X.getLast? = some r → Y.head? = some l → LtG g r l) → ∀ x ∈ X, ∀ y ∈ Y, LtG g x y := by
  intro X Y hX hY hc x hx y hy
  obtain ⟨z, hz, hxz⟩ := hlast X hX x hx
  obtain ⟨u, hu, huy⟩ := hhead Y hY y hy
  have hzu := hc z u hz hu
  have h3 : LtG g x u := by
   rcases hxz with rfl | h
   ·exact hzu
   ·exact ltG_trans h hzu
  rcases huy with rfl | h
  ·exact h3
  ·exact ltG_trans h3 h
 rcases List.mem_append.1 (h1.mem_iff.1 hx) with hx | hx <;> rcases List.mem_append.1 (h2.mem_iff.1 hy) with hy | hy
 ·exact hL.2.2 x hx y hy
 ·exact step L1 R2 hL.1 hR.2.1 c2 x hx y hy
 ·exact step R1 L2 hR.1 hL.2.1 c1 x hx y hy
 ·exact hR.2.2 x hx y hy
end Go.Proofs.YtbpabjhcjffkmaaGreatDoor.Pk

/- Sorting, swapping, turning round: plain laws of lists that are walked place by place. No program in sight. Conditions: named in each theorem. -/
namespace Go.Proofs.YtbpabjhcjffkmaaGreatDoor.Pk
open Go.RowKit Go.ChangeShapes Go.WideShapes Go.ChangeAt

theorem nth_mid (P : List Int) (x : Int) (Q : List Int) {k : Nat} (hk : k = P.length) : nth (P ++ x :: Q) k = x := by
 subst hk
 unfold nth
 rw [List.getD_eq_getElem?_getD, List.getElem?_append_right (Nat.le_refl _), Nat.sub_self]
 rfl
theorem set_mid (P : List Int) (x : Int) (Q : List Int) (v : Int) {k : Nat} (hk : k = P.length) : (P ++ x :: Q).set k v = P ++ v :: Q := by
 subst hk
 rw [List.set_append_right _ _ (Nat.le_refl _), Nat.sub_self]
 rfl
/-- Two neighbours change places. -/
theorem swap_next (P : List Int) (z y : Int) (Q : List Int) {j : Nat} (hj : j = P.length) : ((P ++ z :: y :: Q).set (j + 1) z).set j y = P ++ y :: z :: Q := by
 have e : P ++ z :: y :: Q = (P ++ [z]) ++ y :: Q := by simp
 rw [e, set_mid _ _ _ _ (by simp [hj])]
 have e2 : (P ++ [z]) ++ z :: Q = P ++ z :: (z :: Q) := by simp
 rw [e2, set_mid _ _ _ _ hj]
theorem swap_prev (P : List Int) (z y : Int) (Q : List Int) {j : Nat} (hj : j = P.length) : ((P ++ z :: y :: Q).set j y).set (j + 1) z = P ++ y :: z :: Q := by
 rw [set_mid _ _ _ _ hj]
 have e : P ++ y :: y :: Q = (P ++ [y]) ++ y :: Q := by simp
 rw [e, set_mid _ _ _ _ (by simp [hj])]
 simp
/-- Rising numbers: who comes later is greater. -/
def Rise (X : List Int) : Prop := X.Pairwise (fun x y => x < y)
theorem ltG_older {g : Int → Int} {x y : Int} (h : x < y) : LtG g y x ↔ g x < g y := by
 unfold LtG
 omega
section
variable {g : Int → Int} {A X B : List Int}
/-- The outer loop of an insertion sort, at i. -/
def InsO (g : Int → Int) (A X B : List Int) (i : Nat) (xs : List Int) : Prop := ∃ S T, xs = A ++ (S ++ (T ++ B)) ∧ i = A.length + S.length ∧ S.Perm (X.take S.length) ∧ T = X.drop S.length ∧ S.length ≤ X.length ∧ S.Pairwise (LtG g)
/-- The inner loop, at j. -/
def InsJ (g : Int → Int) (A X B : List Int) (i j : Nat) (xs : List Int) : Prop := ∃ S1 S2 y T, xs = A ++ (S1 ++ y :: (S2 ++ (T ++ B))) ∧ j = A.length + S1.length ∧ i = j + S2.length ∧ (S1 ++ S2).Perm (X.take (S1 ++ S2).length) ∧ y :: T = X.drop (S1 ++ S2).length ∧ (S1 ++ S2).Pairwise (LtG g) ∧ ∀ s ∈ S2, LtG g y s
theorem InsO.start (hX : 0 < X.length) : InsO g A X B (A.length + 1) (A ++ (X ++ B)) := by
 cases X with
 | nil => cases hX
 | cons x r => exact ⟨[x], r, rfl, rfl, List.Perm.refl _, rfl, by simp, by simp⟩
theorem InsO.inner {i : Nat} {xs : List Int} (h : InsO g A X B i xs) (hi : i < A.length + X.length) : InsJ g A X B i i xs := by
 obtain ⟨S, T, rfl, rfl, hp, hT, hl, hs⟩ := h
 have hne : X.drop S.length ≠ [] := by
  intro e
  have := congrArg List.length e
  rw [List.length_drop] at this
  simp at this
  omega
 cases hd : X.drop S.length with
 | nil => exact absurd hd hne
 | cons y T' =>
  rw [hd] at hT
  subst hT
  exact ⟨S, [], y, T', by simp, rfl, rfl, by simpa using hp, by simp [hd], by simpa using hs, by simp⟩
theorem InsJ.len {i j : Nat} {xs : List Int} (h : InsJ g A X B i j xs) : xs.length = A.length + X.length + B.length ∧ A.length ≤ j ∧ j ≤ i ∧ i < A.length + X.length := by
 obtain ⟨S1, S2, y, T, rfl, rfl, rfl, hp, hT, -, -⟩ := h
 have h1 := congrArg List.length hT
 rw [List.length_cons, List.length_drop] at h1
 simp only [List.length_append, List.length_cons] at h1 ⊢
 omega
theorem InsJ.move {i j : Nat} {xs : List Int} (h : InsJ g A X B i (j + 1) xs) (hX : Rise X) (hj : A.length < j + 1) (hl : g (nth xs j) < g (nth xs (j + 1))) :
  InsJ g A X B i j ((xs.set (j + 1) (nth xs j)).set j (nth xs (j + 1))) := by
 obtain ⟨S1, S2, y, T, rfl, hj1, hi, hp, hT, hs, hy⟩ := h
 obtain ⟨S0, z, rfl⟩ : ∃ S0 z, S1 = S0 ++ [z] := ⟨S1.dropLast, S1.getLast (fun e => by rw [e] at hj1; simp at hj1; omega), (List.dropLast_concat_getLast _).symm⟩
 have hjl : j = (A ++ S0).length := by simp only [List.length_append, List.length_cons, List.length_nil] at hj1 ⊢; omega
 have e : A ++ (S0 ++ [z] ++ y :: (S2 ++ (T ++ B))) = (A ++ S0) ++ z :: y :: (S2 ++ (T ++ B)) := by simp
 have e2 : (A ++ S0) ++ z :: y :: (S2 ++ (T ++ B)) = ((A ++ S0) ++ [z]) ++ y :: (S2 ++ (T ++ B)) := by simp
 rw [e] at hl ⊢
 have n1 : nth ((A ++ S0) ++ z :: y :: (S2 ++ (T ++ B))) j = z := nth_mid _ _ _ hjl
 have n2 : nth ((A ++ S0) ++ z :: y :: (S2 ++ (T ++ B))) (j + 1) = y := by rw [e2]; exact nth_mid _ _ _ (by simp only [List.length_append, List.length_cons, List.length_nil] at hjl ⊢; omega)
 rw [n1, n2] at hl ⊢
 rw [swap_next _ _ _ _ hjl]
 have hzX : z < y := by
  have hz : z ∈ X.take (S0 ++ [z] ++ S2).length := hp.mem_iff.1 (by simp)
  have hyX : y ∈ X.drop (S0 ++ [z] ++ S2).length := by rw [← hT]; simp
  have h3 := List.take_append_drop (S0 ++ [z] ++ S2).length X
  unfold Rise at hX
  rw [← h3, List.pairwise_append] at hX
  exact hX.2.2 z hz y hyX
 refine ⟨S0, z :: S2, y, T, by simp, by simp only [List.length_append] at hjl; omega, by rw [List.length_cons]; omega, ?_, ?_, ?_, ?_⟩
 ·simpa using hp
 ·simpa using hT
 ·simpa using hs
 ·intro s hs'
  rcases List.mem_cons.1 hs' with rfl | hs'
  ·exact (ltG_older hzX).2 hl
  ·exact hy s hs'
theorem InsJ.stop {i j : Nat} {xs : List Int} (h : InsJ g A X B i j xs) (hX : Rise X) (hl : j = A.length ∨ ¬ g (nth xs (j - 1)) < g (nth xs j)) : InsO g A X B (i + 1) xs := by
 obtain ⟨S1, S2, y, T, rfl, hj1, hi, hp, hT, hs, hy⟩ := h
 have hlen : (S1 ++ y :: S2).length = (S1 ++ S2).length + 1 := by simp only [List.length_append, List.length_cons]; omega
 have hTl := congrArg List.length hT
 rw [List.length_cons, List.length_drop] at hTl
 have hold : ∀ s ∈ S1 ++ S2, s < y := by
  intro s hs'
  have hz : s ∈ X.take (S1 ++ S2).length := hp.mem_iff.1 hs'
  have hyX : y ∈ X.drop (S1 ++ S2).length := by rw [← hT]; simp
  have h3 := List.take_append_drop (S1 ++ S2).length X
  unfold Rise at hX
  rw [← h3, List.pairwise_append] at hX
  exact hX.2.2 s hz y hyX
 refine ⟨S1 ++ y :: S2, T, by simp, by rw [hlen, List.length_append] at *; omega, ?_, ?_, by rw [hlen]; omega, ?_⟩
 ·rw [hlen, List.take_add_one]
  have h4 : X[(S1 ++ S2).length]? = some y := by
   have := congrArg List.head? hT
   rw [List.head?_drop] at this
   simpa using this.symm
  rw [h4]
  have h5 : (S1 ++ y :: S2).Perm ((S1 ++ S2) ++ [y]) := by
   have := List.perm_middle (a := y) (l₁ := S1) (l₂ := S2)
   exact this.trans (List.perm_append_singleton y (S1 ++ S2)).symm
  exact h5.trans (hp.append_right [y])
 ·rw [hlen, ← List.drop_drop, ← hT]
  rfl
 ·rw [List.pairwise_append] at hs ⊢
  refine ⟨hs.1, List.pairwise_cons.2 ⟨hy, hs.2.1⟩, ?_⟩
  intro x hx z hz
  have hxy : LtG g x y := by
   rcases hl with hl | hl
   ·have : S1.length = 0 := by omega
    rw [List.eq_nil_of_length_eq_zero this] at hx
    cases hx
   ·have hne : S1 ≠ [] := fun e => by rw [e] at hx; cases hx
    obtain ⟨S0, u, rfl⟩ : ∃ S0 u, S1 = S0 ++ [u] := ⟨S1.dropLast, S1.getLast hne, (List.dropLast_concat_getLast _).symm⟩
    have hjl : j - 1 = (A ++ S0).length := by simp only [List.length_append, List.length_cons, List.length_nil] at hj1 ⊢; omega
    have e : A ++ (S0 ++ [u] ++ y :: (S2 ++ (T ++ B))) = (A ++ S0) ++ u :: y :: (S2 ++ (T ++ B)) := by simp
    have e2 : (A ++ S0) ++ u :: y :: (S2 ++ (T ++ B)) = ((A ++ S0) ++ [u]) ++ y :: (S2 ++ (T ++ B)) := by simp
    rw [e, nth_mid _ _ _ hjl, e2, nth_mid _ _ _ (by simp only [List.length_append, List.length_cons, List.length_nil] at hj1 ⊢; omega)] at hl
    have huy : u < y := hold u (by simp)
    have h6 : LtG g u y := ltG_tot (by omega) (fun h => hl ((ltG_older huy).1 h))
    rcases List.mem_append.1 hx with hx | hx
    ·have := (List.pairwise_append.1 hs.1).2.2 x hx u (by simp)
     exact ltG_trans this h6
    ·rcases List.mem_cons.1 hx with rfl | hx
     ·exact h6
     ·cases hx
  rcases List.mem_cons.1 hz with rfl | hz
  ·exact hxy
  ·exact hs.2.2 x hx z hz
theorem InsO.done {xs : List Int} (h : InsO g A X B (A.length + X.length) xs) : ∃ S, xs = A ++ (S ++ B) ∧ S.Perm X ∧ S.Pairwise (LtG g) := by
 obtain ⟨S, T, rfl, hi, hp, hT, -, hs⟩ := h
 have hl : S.length = X.length := by omega
 rw [hl, List.take_length] at hp
 rw [hl, List.drop_length] at hT
 subst hT
 exact ⟨S, rfl, hp, hs⟩
end
/-- Two parts of one length change places: at i. -/
def SwpR (P U M V Q : List Int) (i : Nat) (xs : List Int) : Prop := xs = P ++ (V.take i ++ (U.drop i ++ (M ++ (U.take i ++ (V.drop i ++ Q)))))
theorem SwpR.start (P U M V Q : List Int) : SwpR P U M V Q 0 (P ++ (U ++ (M ++ (V ++ Q)))) := by unfold SwpR; simp
theorem SwpR.done {P U M V Q xs : List Int} {n : Nat} (h : SwpR P U M V Q n xs) (hU : U.length = n) (hV : V.length = n) : xs = P ++ (V ++ (M ++ (U ++ Q))) := by
 unfold SwpR at h
 rw [h, ← hU, List.drop_length, List.take_length, hU, ← hV, List.drop_length, List.take_length]
 simp
theorem SwpR.step {P U M V Q xs : List Int} {i n a b : Nat} (h : SwpR P U M V Q i xs) (hi : i < n) (hU : U.length = n) (hV : V.length = n) (ha : a = P.length) (hb : b = P.length + n + M.length) :
  SwpR P U M V Q (i + 1) ((xs.set (a + i) (nth xs (b + i))).set (b + i) (nth xs (a + i))) ∧ a + i < xs.length ∧ b + i < xs.length ∧ a + i < b + i := by
 unfold SwpR at h ⊢
 have eU : U.drop i = (U[i]'(by omega)) :: U.drop (i + 1) := List.drop_eq_getElem_cons (by omega)
 have eV : V.drop i = (V[i]'(by omega)) :: V.drop (i + 1) := List.drop_eq_getElem_cons (by omega)
 have tU : U.take (i + 1) = U.take i ++ [U[i]'(by omega)] := by rw [List.take_add_one, List.getElem?_eq_getElem (by omega)]; rfl
 have tV : V.take (i + 1) = V.take i ++ [V[i]'(by omega)] := by rw [List.take_add_one, List.getElem?_eq_getElem (by omega)]; rfl
 rw [tU, tV]
 rw [eU, eV] at h
 generalize U[i]'(by omega) = u at h ⊢
 generalize V[i]'(by omega) = v at h ⊢
 have l1 : (V.take i).length = i := by rw [List.length_take]; omega
 have l2 : (U.take i).length = i := by rw [List.length_take]; omega
 have l3 : (U.drop (i + 1)).length = n - (i + 1) := by rw [List.length_drop, hU]
 have l4 : (V.drop (i + 1)).length = n - (i + 1) := by rw [List.length_drop, hV]
 generalize V.take i = V1 at *
 generalize U.take i = U1 at *
 generalize U.drop (i + 1) = U2 at *
 generalize V.drop (i + 1) = V2 at *
 subst h
 have e1 : P ++ (V1 ++ (u :: U2 ++ (M ++ (U1 ++ (v :: V2 ++ Q))))) = (P ++ V1) ++ u :: (U2 ++ (M ++ (U1 ++ (v :: V2 ++ Q)))) := by simp
 have e2 : ∀ w : Int, (P ++ V1) ++ w :: (U2 ++ (M ++ (U1 ++ (v :: V2 ++ Q)))) = (P ++ (V1 ++ (w :: (U2 ++ (M ++ U1))))) ++ v :: (V2 ++ Q) := fun w => by simp
 have p1 : a + i = (P ++ V1).length := by rw [List.length_append]; omega
 have p2 : ∀ w : Int, b + i = (P ++ (V1 ++ (w :: (U2 ++ (M ++ U1))))).length := fun w => by simp only [List.length_append, List.length_cons]; omega
 have n1 : nth (P ++ (V1 ++ (u :: U2 ++ (M ++ (U1 ++ (v :: V2 ++ Q)))))) (a + i) = u := by rw [e1]; exact nth_mid _ _ _ p1
 have n2 : nth (P ++ (V1 ++ (u :: U2 ++ (M ++ (U1 ++ (v :: V2 ++ Q)))))) (b + i) = v := by rw [e1, e2]; exact nth_mid _ _ _ (p2 u)
 rw [n1, n2]
 refine ⟨?_, ?_, ?_, by omega⟩
 ·rw [e1, set_mid _ _ _ _ p1, e2, set_mid _ _ _ _ (p2 v)]
  simp
 ·simp only [List.length_append, List.length_cons]; omega
 ·simp only [List.length_append, List.length_cons]; omega
/-- Two parts change order, whatever their lengths: where i of the first and j of the second are left, at m. -/
def RotS (A U V B : List Int) (m i j : Nat) (xs : List Int) : Prop := ∃ A' U' V' B', xs = A' ++ (U' ++ (V' ++ B')) ∧ U'.length = i ∧ V'.length = j ∧ A'.length + i = m ∧ A' ++ (V' ++ (U' ++ B')) = A ++ (V ++ (U ++ B))
theorem RotS.start (A U V B : List Int) : RotS A U V B (A.length + U.length) U.length V.length (A ++ (U ++ (V ++ B))) := ⟨A, U, V, B, rfl, rfl, rfl, rfl, rfl⟩
/-- What a change of places is asked for, and what it leaves. -/
theorem RotS.more {A U V B xs : List Int} {m i j : Nat} (h : RotS A U V B m i j xs) (hij : j < i) : ∃ P X M Y Q, xs = P ++ (X ++ (M ++ (Y ++ Q))) ∧ X.length = j ∧ Y.length = j ∧ m - i = P.length ∧ m = P.length + j + M.length ∧ RotS A U V B m (i - j) j (P ++ (Y ++ (M ++ (X ++ Q)))) := by
 obtain ⟨A', U', V', B', rfl, hU, hV, hm, he⟩ := h
 have l1 : (U'.take j).length = j := by rw [List.length_take]; omega
 have l2 : (U'.drop j).length = i - j := by rw [List.length_drop]; omega
 refine ⟨A', U'.take j, U'.drop j, V', B', ?_, l1, hV, by omega, by omega, A' ++ V', U'.drop j, U'.take j, B', by simp, l2, l1, by rw [List.length_append]; omega, ?_⟩
 ·rw [← List.append_assoc (U'.take j), List.take_append_drop]
 ·rw [← he]
  simp only [List.append_assoc, List.append_cancel_left_eq]
  rw [← List.append_assoc (U'.take j), List.take_append_drop]
theorem RotS.less {A U V B xs : List Int} {m i j : Nat} (h : RotS A U V B m i j xs) (hij : i < j) : ∃ P X M Y Q, xs = P ++ (X ++ (M ++ (Y ++ Q))) ∧ X.length = i ∧ Y.length = i ∧ m - i = P.length ∧ m + j - i = P.length + i + M.length ∧ RotS A U V B m i (j - i) (P ++ (Y ++ (M ++ (X ++ Q)))) := by
 obtain ⟨A', U', V', B', rfl, hU, hV, hm, he⟩ := h
 have l1 : (V'.take (j - i)).length = j - i := by rw [List.length_take]; omega
 have l2 : (V'.drop (j - i)).length = i := by rw [List.length_drop]; omega
 refine ⟨A', U', V'.take (j - i), V'.drop (j - i), B', ?_, hU, l2, by omega, by omega, A', V'.drop (j - i), V'.take (j - i), U' ++ B', by simp, l2, l1, by omega, ?_⟩
 ·rw [← List.append_assoc (V'.take (j - i)), List.take_append_drop]
 ·rw [← he]
  simp only [List.append_cancel_left_eq]
  rw [← List.append_assoc (V'.take (j - i)), List.take_append_drop]
theorem RotS.last {A U V B xs : List Int} {m i : Nat} (h : RotS A U V B m i i xs) : ∃ P X Y Q, xs = P ++ (X ++ ([] ++ (Y ++ Q))) ∧ X.length = i ∧ Y.length = i ∧ m - i = P.length ∧ m = P.length + i + ([] : List Int).length ∧ P ++ (Y ++ ([] ++ (X ++ Q))) = A ++ (V ++ (U ++ B)) := by
 obtain ⟨A', U', V', B', rfl, hU, hV, hm, he⟩ := h
 exact ⟨A', U', V', B', by simp, hU, hV, by omega, by simp; omega, by simpa using he⟩
theorem nth_app1 {P Q : List Int} {k : Nat} (h : k < P.length) : nth (P ++ Q) k = nth P k := by
 unfold nth
 rw [List.getD_eq_getElem?_getD, List.getD_eq_getElem?_getD, List.getElem?_append_left h]
theorem nth_app2 {P Q : List Int} {k : Nat} (h : P.length ≤ k) : nth (P ++ Q) k = nth Q (k - P.length) := by
 unfold nth
 rw [List.getD_eq_getElem?_getD, List.getD_eq_getElem?_getD, List.getElem?_append_right h]
theorem sorted_nth {g : Int → Int} {X : List Int} (h : X.Pairwise (LtG g)) {a b : Nat} (hab : a < b) (hb : b < X.length) : LtG g (nth X a) (nth X b) := by
 rw [nth_get (by omega), nth_get hb]
 exact (List.pairwise_iff_getElem.1 h) a b (by omega) hb hab
theorem take_last {X : List Int} {k : Nat} (hk : 0 < k) (hl : k ≤ X.length) : (X.take k).getLast? = some (nth X (k - 1)) := by
 obtain ⟨m, rfl⟩ : ∃ m, k = m + 1 := ⟨k - 1, by omega⟩
 rw [List.take_add_one, List.getElem?_eq_getElem (by omega), Nat.add_sub_cancel, nth_get (by omega)]
 exact List.getLast?_concat
theorem drop_head {X : List Int} {k : Nat} (hl : k < X.length) : (X.drop k).head? = some (nth X k) := by
 rw [List.head?_drop, List.getElem?_eq_getElem hl, nth_get hl]
end Go.Proofs.YtbpabjhcjffkmaaGreatDoor.Pk

/- Merging two sorted halves: the searches and the moves of one. Plain laws. No program in sight. Conditions: named in each theorem. -/
namespace Go.Proofs.YtbpabjhcjffkmaaGreatDoor.Pk
open Go.RowKit Go.ChangeShapes Go.WideShapes Go.ChangeAt

/-- A place that is searched by halves: all below i are so, none from j on is. -/
structure Fnd (f : Nat → Prop) (lo hi i j : Nat) : Prop where
 li : lo ≤ i
 ij : i ≤ j
 jh : j ≤ hi
 below : ∀ k, lo ≤ k → k < i → f k
 above : ∀ k, j ≤ k → k < hi → ¬ f k
def Mono (f : Nat → Prop) (lo hi : Nat) : Prop := ∀ k k', lo ≤ k' → k' < k → k < hi → f k → f k'
theorem Fnd.start {f : Nat → Prop} {lo hi : Nat} (h : lo ≤ hi) : Fnd f lo hi lo hi := ⟨Nat.le_refl _, h, Nat.le_refl _, fun _ h1 h2 => absurd h2 (Nat.not_lt.2 h1), fun _ h1 h2 => absurd h2 (Nat.not_lt.2 h1)⟩
theorem Fnd.right {f : Nat → Prop} {lo hi i j c : Nat} (h : Fnd f lo hi i j) (hm : Mono f lo hi) (h1 : i ≤ c) (h2 : c < j) (hf : f c) : Fnd f lo hi (c + 1) j :=
 ⟨by have := h.li; omega, h2, h.jh, fun k hk hc => by
  rcases Nat.lt_or_ge k c with h3 | h3
  ·exact hm c k hk h3 (by have := h.jh; omega) hf
  ·have : k = c := by omega
   subst this
   exact hf, h.above⟩
theorem Fnd.left {f : Nat → Prop} {lo hi i j c : Nat} (h : Fnd f lo hi i j) (hm : Mono f lo hi) (h1 : i ≤ c) (h2 : c < j) (hf : ¬ f c) : Fnd f lo hi i c :=
 ⟨h.li, h1, by have := h.jh; omega, h.below, fun k hk hc hfk => by
  rcases Nat.lt_or_ge c k with h3 | h3
  ·exact hf (hm k c (by have := h.li; omega) h3 hc hfk)
  ·have : k = c := by omega
   subst this
   exact hf hfk⟩
section
variable {g : Int → Int}
/-- Which of the later half go ahead of one of the elder. -/
def FR (g : Int → Int) (x : Int) (R : List Int) (k : Nat) : Prop := LtG g (nth R k) x
def FL (g : Int → Int) (y : Int) (L : List Int) (k : Nat) : Prop := ¬ LtG g y (nth L k)
def FP (g : Int → Int) (L R : List Int) (n : Nat) (k : Nat) : Prop := ¬ LtG g (nth R (n - 1 - k)) (nth L k)
theorem mono_R {x : Int} {R : List Int} (h : R.Pairwise (LtG g)) : Mono (FR g x R) 0 R.length := fun _ _ _ h2 h3 hf => ltG_trans (sorted_nth h h2 h3) hf
theorem mono_L {y : Int} {L : List Int} (h : L.Pairwise (LtG g)) : Mono (FL g y L) 0 L.length := fun _ _ _ h2 h3 hf hg => hf (ltG_trans hg (sorted_nth h h2 h3))
/-- Where the search of a merge looks: places of the first half, of l and q. -/
def PartR (l q lo hi : Nat) : Prop := (l > (l + q) / 2 ∧ lo = (l + q) / 2 - q ∧ hi = (l + q) / 2) ∨ (l ≤ (l + q) / 2 ∧ lo = 0 ∧ hi = l)
theorem PartR.in_ {l q lo hi c : Nat} (h : PartR l q lo hi) (h1 : lo ≤ c) (h2 : c < hi) (hq : 0 < q) : c < l ∧ (l + q) / 2 - 1 - c < q ∧ c < (l + q) / 2 := by
 unfold PartR at h
 omega
theorem mono_P {L R : List Int} (hL : L.Pairwise (LtG g)) (hR : R.Pairwise (LtG g)) {lo hi : Nat} (hp : PartR L.length R.length lo hi) (hq : 0 < R.length) : Mono (FP g L R ((L.length + R.length) / 2)) lo hi := fun k k' h1 h2 h3 hf hg => by
 obtain ⟨a1, a2, a3⟩ := hp.in_ (c := k) (by omega) h3 hq
 obtain ⟨b1, b2, b3⟩ := hp.in_ (c := k') h1 (by omega) hq
 exact hf (ltG_trans (ltG_trans (sorted_nth hR (by omega) b2) hg) (sorted_nth hL h2 a1))
/-- One of the elder half goes to its place among the later ones. -/
theorem ins_R {x : Int} {R : List Int} {i : Nat} (h : R.Pairwise (LtG g)) (hx : ∀ y ∈ R, x < y) (hf : Fnd (FR g x R) 0 R.length i i) : (R.take i ++ x :: R.drop i).Pairwise (LtG g) ∧ (R.take i ++ x :: R.drop i).Perm (x :: R) := by
 have h0 := h
 rw [← List.take_append_drop i R, List.pairwise_append] at h
 have hil := hf.jh
 constructor
 ·rw [List.pairwise_append]
  have hd : ∀ z ∈ R.drop i, LtG g x z := by
   intro z hz
   obtain ⟨q, hq, rfl⟩ := List.getElem_of_mem hz
   rw [List.length_drop] at hq
   have := hf.above (i + q) (by omega) (by omega)
   rw [List.getElem_drop]
   unfold FR at this
   rw [nth_get (by omega)] at this
   exact ltG_tot (fun e => by have := hx _ (List.getElem_mem (l := R) (n := i + q) (by omega)); omega) this
  have ht : ∀ z ∈ R.take i, LtG g z x := by
   intro z hz
   obtain ⟨q, hq, rfl⟩ := List.getElem_of_mem hz
   rw [List.length_take] at hq
   have := hf.below q (Nat.zero_le _) (by omega)
   rw [List.getElem_take]
   unfold FR at this
   rwa [nth_get (by omega)] at this
  refine ⟨h.1, List.pairwise_cons.2 ⟨hd, h.2.1⟩, ?_⟩
  intro z hz u hu
  rcases List.mem_cons.1 hu with rfl | hu
  ·exact ht z hz
  ·exact h.2.2 z hz u hu
 ·have := List.perm_middle (a := x) (l₁ := R.take i) (l₂ := R.drop i)
  rwa [List.take_append_drop] at this
theorem ins_L {y : Int} {L : List Int} {i : Nat} (h : L.Pairwise (LtG g)) (hy : ∀ x ∈ L, x < y) (hf : Fnd (FL g y L) 0 L.length i i) : (L.take i ++ y :: L.drop i).Pairwise (LtG g) ∧ (L.take i ++ y :: L.drop i).Perm (L ++ [y]) := by
 rw [← List.take_append_drop i L, List.pairwise_append] at h
 have hil := hf.jh
 constructor
 ·rw [List.pairwise_append]
  have hd : ∀ z ∈ L.drop i, LtG g y z := by
   intro z hz
   obtain ⟨q, hq, rfl⟩ := List.getElem_of_mem hz
   rw [List.length_drop] at hq
   have := hf.above (i + q) (by omega) (by omega)
   rw [List.getElem_drop]
   unfold FL at this
   rw [nth_get (by omega)] at this
   exact Classical.not_not.1 this
  have ht : ∀ z ∈ L.take i, LtG g z y := by
   intro z hz
   obtain ⟨q, hq, rfl⟩ := List.getElem_of_mem hz
   rw [List.length_take] at hq
   have := hf.below q (Nat.zero_le _) (by omega)
   rw [List.getElem_take]
   unfold FL at this
   rw [nth_get (by omega)] at this
   exact ltG_tot (fun e => by have := hy _ (List.getElem_mem (l := L) (n := q) (by omega)); omega) this
  refine ⟨h.1, List.pairwise_cons.2 ⟨hd, h.2.1⟩, ?_⟩
  intro z hz u hu
  rcases List.mem_cons.1 hu with rfl | hu
  ·exact ht z hz
  ·exact h.2.2 z hz u hu
 ·have := List.perm_middle (a := y) (l₁ := L.take i) (l₂ := L.drop i)
  rw [List.take_append_drop] at this
  exact this.trans (List.perm_append_singleton y L).symm
/-- Where the search has ended, both parts in order are all in order. -/
theorem part_done {L R : List Int} {lo hi s : Nat} (hL : L.Pairwise (LtG g)) (hR : R.Pairwise (LtG g)) (hO : ∀ x ∈ L, ∀ y ∈ R, x < y) (hp : PartR L.length R.length lo hi)
  (hf : Fnd (FP g L R ((L.length + R.length) / 2)) lo hi s s) : s ≤ L.length ∧ s ≤ (L.length + R.length) / 2 ∧ (L.length + R.length) / 2 - s ≤ R.length ∧
  ∀ S1 S2 : List Int, S1.Perm (L.take s ++ R.take ((L.length + R.length) / 2 - s)) → S2.Perm (L.drop s ++ R.drop ((L.length + R.length) / 2 - s)) → S1.Pairwise (LtG g) → S2.Pairwise (LtG g) → (S1 ++ S2).Pairwise (LtG g) ∧ (S1 ++ S2).Perm (L ++ R) := by
 have h1 := hf.li
 have h2 := hf.jh
 have b1 : s ≤ L.length := by unfold PartR at hp; omega
 have b2 : s ≤ (L.length + R.length) / 2 := by unfold PartR at hp; omega
 have b3 : (L.length + R.length) / 2 - s ≤ R.length := by unfold PartR at hp; omega
 refine ⟨b1, b2, b3, fun S1 S2 p1 p2 s1 s2 => ⟨?_, ?_⟩⟩
 ·refine merge_parts (L1 := L.take s) (L2 := L.drop s) (R1 := R.take ((L.length + R.length) / 2 - s)) (R2 := R.drop ((L.length + R.length) / 2 - s)) (by rw [List.take_append_drop]; exact hL) (by rw [List.take_append_drop]; exact hR) p1 p2 s1 s2 ?_ ?_
  ·intro r l hr hl
   have e0 : 0 < (L.length + R.length) / 2 - s := by
    rcases Nat.eq_zero_or_pos ((L.length + R.length) / 2 - s) with h | h
    ·rw [h, List.take_zero] at hr; cases hr
    ·exact h
   have e1 : s < L.length := by
    rcases Nat.lt_or_ge s L.length with h | h
    ·exact h
    ·rw [List.drop_eq_nil_of_le h] at hl; cases hl
   rw [take_last e0 b3] at hr
   rw [drop_head e1] at hl
   injection hr with hr
   injection hl with hl
   have h3 := hf.above s (Nat.le_refl _) (by unfold PartR at hp; omega)
   unfold FP at h3
   have h4 := Classical.not_not.1 h3
   rw [show (L.length + R.length) / 2 - 1 - s = (L.length + R.length) / 2 - s - 1 by omega, hr, hl] at h4
   exact h4
  ·intro l r hl hr
   have e0 : 0 < s := by
    rcases Nat.eq_zero_or_pos s with h | h
    ·rw [h, List.take_zero] at hl; cases hl
    ·exact h
   have e1 : (L.length + R.length) / 2 - s < R.length := by
    rcases Nat.lt_or_ge ((L.length + R.length) / 2 - s) R.length with h | h
    ·exact h
    ·rw [List.drop_eq_nil_of_le h] at hr; cases hr
   rw [take_last e0 b1] at hl
   rw [drop_head e1] at hr
   injection hr with hr
   injection hl with hl
   have h3 := hf.below (s - 1) (by unfold PartR at hp; omega) (by omega)
   unfold FP at h3
   rw [show (L.length + R.length) / 2 - 1 - (s - 1) = (L.length + R.length) / 2 - s by omega, hr, hl] at h3
   have h5 : l ∈ L := by rw [← hl, nth_get (by omega)]; exact List.getElem_mem _
   have h6 : r ∈ R := by rw [← hr, nth_get e1]; exact List.getElem_mem _
   exact ltG_tot (fun e => by have := hO l h5 r h6; omega) h3
 ·have e := (p1.append p2)
  refine e.trans ?_
  have e2 : (L.take s ++ R.take ((L.length + R.length) / 2 - s) ++ (L.drop s ++ R.drop ((L.length + R.length) / 2 - s))).Perm (L.take s ++ L.drop s ++ (R.take ((L.length + R.length) / 2 - s) ++ R.drop ((L.length + R.length) / 2 - s))) := by
   rw [List.append_assoc, List.append_assoc]
   refine List.Perm.append_left _ ?_
   rw [← List.append_assoc, ← List.append_assoc]
   exact List.Perm.append_right _ List.perm_append_comm
  rw [List.take_append_drop, List.take_append_drop] at e2
  exact e2
end
/-- One moves behind others, or ahead of them. -/
def MovR (A : List Int) (x : Int) (R B : List Int) (k : Nat) (xs : List Int) : Prop := xs = A ++ (R.take k ++ x :: (R.drop k ++ B))
theorem MovR.step {A R B xs : List Int} {x : Int} {k : Nat} (h : MovR A x R B k xs) (hk : k < R.length) {j : Nat} (hj : j = A.length + k) : MovR A x R B (k + 1) ((xs.set j (nth xs (j + 1))).set (j + 1) (nth xs j)) ∧ j + 1 < xs.length := by
 unfold MovR at h ⊢
 have eU : R.drop k = (R[k]'hk) :: R.drop (k + 1) := List.drop_eq_getElem_cons hk
 have tU : R.take (k + 1) = R.take k ++ [R[k]'hk] := by rw [List.take_add_one, List.getElem?_eq_getElem hk]; rfl
 rw [tU]
 rw [eU] at h
 have l1 : (R.take k).length = k := by rw [List.length_take]; omega
 generalize R[k]'hk = u at h ⊢
 generalize R.take k = R1 at *
 generalize R.drop (k + 1) = R2 at *
 subst h
 have e1 : A ++ (R1 ++ x :: (u :: R2 ++ B)) = (A ++ R1) ++ x :: u :: (R2 ++ B) := by simp
 have e2 : (A ++ R1) ++ x :: u :: (R2 ++ B) = ((A ++ R1) ++ [x]) ++ u :: (R2 ++ B) := by simp
 have p1 : j = (A ++ R1).length := by rw [List.length_append]; omega
 have n1 : nth (A ++ (R1 ++ x :: (u :: R2 ++ B))) j = x := by rw [e1]; exact nth_mid _ _ _ p1
 have n2 : nth (A ++ (R1 ++ x :: (u :: R2 ++ B))) (j + 1) = u := by rw [e1, e2]; exact nth_mid _ _ _ (by simp only [List.length_append, List.length_cons, List.length_nil] at p1 ⊢; omega)
 rw [n1, n2]
 refine ⟨?_, by simp only [List.length_append, List.length_cons]; omega⟩
 rw [e1, swap_prev _ _ _ _ p1]
 simp
theorem MovR.back {A L B xs : List Int} {y : Int} {k : Nat} (h : MovR A y L B (k + 1) xs) (hk : k < L.length) {j : Nat} (hj : j = A.length + k) : MovR A y L B k ((xs.set (j + 1) (nth xs j)).set j (nth xs (j + 1))) ∧ j + 1 < xs.length := by
 unfold MovR at h ⊢
 have eU : L.drop k = (L[k]'hk) :: L.drop (k + 1) := List.drop_eq_getElem_cons hk
 have tU : L.take (k + 1) = L.take k ++ [L[k]'hk] := by rw [List.take_add_one, List.getElem?_eq_getElem hk]; rfl
 rw [tU] at h
 rw [eU]
 have l1 : (L.take k).length = k := by rw [List.length_take]; omega
 generalize L[k]'hk = u at h ⊢
 generalize L.take k = R1 at *
 generalize L.drop (k + 1) = R2 at *
 subst h
 have e1 : A ++ (R1 ++ [u] ++ y :: (R2 ++ B)) = (A ++ R1) ++ u :: y :: (R2 ++ B) := by simp
 have e2 : (A ++ R1) ++ u :: y :: (R2 ++ B) = ((A ++ R1) ++ [u]) ++ y :: (R2 ++ B) := by simp
 have p1 : j = (A ++ R1).length := by rw [List.length_append]; omega
 have n1 : nth (A ++ (R1 ++ [u] ++ y :: (R2 ++ B))) j = u := by rw [e1]; exact nth_mid _ _ _ p1
 have n2 : nth (A ++ (R1 ++ [u] ++ y :: (R2 ++ B))) (j + 1) = y := by rw [e1, e2]; exact nth_mid _ _ _ (by simp only [List.length_append, List.length_cons, List.length_nil] at p1 ⊢; omega)
 rw [n1, n2]
 refine ⟨?_, by simp only [List.length_append, List.length_cons, List.length_nil]; omega⟩
 rw [e1, swap_next _ _ _ _ p1]
 simp
end Go.Proofs.YtbpabjhcjffkmaaGreatDoor.Pk
