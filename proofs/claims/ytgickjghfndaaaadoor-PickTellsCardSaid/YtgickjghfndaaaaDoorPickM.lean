/- Sorting, swapping, turning round: plain laws of lists that are walked place by place. No program in sight. Conditions: named in each theorem. -/
import Derived.Test.YtgickjghfndaaaaDoorPickL
namespace Go.Proofs.YtgickjghfndaaaaDoor
open Go.RowKit Go.ChangeShapes Go.WideShapes Go.ChangeAt

theorem nth_mid (P : List Int) (x : Int) (Q : List Int) {k : Nat} (hk : k = P.length) : nth (P ++ x :: Q) k = x := by
  subst hk
  unfold nth
  rw [List.getD_eq_getElem?_getD, List.getElem?_append_right (Nat.le_refl _), Nat.sub_self]
  rfl
theorem set_mid (P : List Int) (x : Int) (Q : List Int) (v : Int) {k : Nat} (hk : k = P.length) : (P ++ x :: Q).set k v = P ++ v :: Q := by
  subst hk
  rw [List.set_append_right _ _ (Nat.le_refl _), Nat.sub_self]
  rfl
/-- Two neighbours change places. -/
theorem swap_next (P : List Int) (z y : Int) (Q : List Int) {j : Nat} (hj : j = P.length) : ((P ++ z :: y :: Q).set (j + 1) z).set j y = P ++ y :: z :: Q := by
  have e : P ++ z :: y :: Q = (P ++ [z]) ++ y :: Q := by simp
  rw [e, set_mid _ _ _ _ (by simp [hj])]
  have e2 : (P ++ [z]) ++ z :: Q = P ++ z :: (z :: Q) := by simp
  rw [e2, set_mid _ _ _ _ hj]
theorem swap_prev (P : List Int) (z y : Int) (Q : List Int) {j : Nat} (hj : j = P.length) : ((P ++ z :: y :: Q).set j y).set (j + 1) z = P ++ y :: z :: Q := by
  rw [set_mid _ _ _ _ hj]
  have e : P ++ y :: y :: Q = (P ++ [y]) ++ y :: Q := by simp
  rw [e, set_mid _ _ _ _ (by simp [hj])]
  simp
/-- Rising numbers: who comes later is greater. -/
def Rise (X : List Int) : Prop := X.Pairwise (fun x y => x < y)
theorem ltG_older {g : Int → Int} {x y : Int} (h : x < y) : LtG g y x ↔ g x < g y := by
  unfold LtG
  omega
section
variable {g : Int → Int} {A X B : List Int}
/-- The outer loop of an insertion sort, at i. -/
def InsO (g : Int → Int) (A X B : List Int) (i : Nat) (xs : List Int) : Prop := ∃ S T, xs = A ++ (S ++ (T ++ B)) ∧ i = A.length + S.length ∧ S.Perm (X.take S.length) ∧ T = X.drop S.length ∧ S.length ≤ X.length ∧ S.Pairwise (LtG g)
/-- The inner loop, at j. -/
def InsJ (g : Int → Int) (A X B : List Int) (i j : Nat) (xs : List Int) : Prop := ∃ S1 S2 y T, xs = A ++ (S1 ++ y :: (S2 ++ (T ++ B))) ∧ j = A.length + S1.length ∧ i = j + S2.length ∧ (S1 ++ S2).Perm (X.take (S1 ++ S2).length) ∧ y :: T = X.drop (S1 ++ S2).length ∧ (S1 ++ S2).Pairwise (LtG g) ∧ ∀ s ∈ S2, LtG g y s
theorem InsO.start (hX : 0 < X.length) : InsO g A X B (A.length + 1) (A ++ (X ++ B)) := by
  cases X with
  | nil => cases hX
  | cons x r => exact ⟨[x], r, rfl, rfl, List.Perm.refl _, rfl, by simp, by simp⟩
theorem InsO.inner {i : Nat} {xs : List Int} (h : InsO g A X B i xs) (hi : i < A.length + X.length) : InsJ g A X B i i xs := by
  obtain ⟨S, T, rfl, rfl, hp, hT, hl, hs⟩ := h
  have hne : X.drop S.length ≠ [] := by
    intro e
    have := congrArg List.length e
    rw [List.length_drop] at this
    simp at this
    omega
  cases hd : X.drop S.length with
  | nil => exact absurd hd hne
  | cons y T' =>
    rw [hd] at hT
    subst hT
    exact ⟨S, [], y, T', by simp, rfl, rfl, by simpa using hp, by simp [hd], by simpa using hs, by simp⟩
theorem InsJ.len {i j : Nat} {xs : List Int} (h : InsJ g A X B i j xs) : xs.length = A.length + X.length + B.length ∧ A.length ≤ j ∧ j ≤ i ∧ i < A.length + X.length := by
  obtain ⟨S1, S2, y, T, rfl, rfl, rfl, hp, hT, -, -⟩ := h
  have h1 := congrArg List.length hT
  rw [List.length_cons, List.length_drop] at h1
  simp only [List.length_append, List.length_cons] at h1 ⊢
  omega
theorem InsJ.move {i j : Nat} {xs : List Int} (h : InsJ g A X B i (j + 1) xs) (hX : Rise X) (hj : A.length < j + 1) (hl : g (nth xs j) < g (nth xs (j + 1))) :
    InsJ g A X B i j ((xs.set (j + 1) (nth xs j)).set j (nth xs (j + 1))) := by
  obtain ⟨S1, S2, y, T, rfl, hj1, hi, hp, hT, hs, hy⟩ := h
  obtain ⟨S0, z, rfl⟩ : ∃ S0 z, S1 = S0 ++ [z] := ⟨S1.dropLast, S1.getLast (fun e => by rw [e] at hj1; simp at hj1; omega), (List.dropLast_concat_getLast _).symm⟩
  have hjl : j = (A ++ S0).length := by simp only [List.length_append, List.length_cons, List.length_nil] at hj1 ⊢; omega
  have e : A ++ (S0 ++ [z] ++ y :: (S2 ++ (T ++ B))) = (A ++ S0) ++ z :: y :: (S2 ++ (T ++ B)) := by simp
  have e2 : (A ++ S0) ++ z :: y :: (S2 ++ (T ++ B)) = ((A ++ S0) ++ [z]) ++ y :: (S2 ++ (T ++ B)) := by simp
  rw [e] at hl ⊢
  have n1 : nth ((A ++ S0) ++ z :: y :: (S2 ++ (T ++ B))) j = z := nth_mid _ _ _ hjl
  have n2 : nth ((A ++ S0) ++ z :: y :: (S2 ++ (T ++ B))) (j + 1) = y := by rw [e2]; exact nth_mid _ _ _ (by simp only [List.length_append, List.length_cons, List.length_nil] at hjl ⊢; omega)
  rw [n1, n2] at hl ⊢
  rw [swap_next _ _ _ _ hjl]
  have hzX : z < y := by
    have hz : z ∈ X.take (S0 ++ [z] ++ S2).length := hp.mem_iff.1 (by simp)
    have hyX : y ∈ X.drop (S0 ++ [z] ++ S2).length := by rw [← hT]; simp
    have h3 := List.take_append_drop (S0 ++ [z] ++ S2).length X
    unfold Rise at hX
    rw [← h3, List.pairwise_append] at hX
    exact hX.2.2 z hz y hyX
  refine ⟨S0, z :: S2, y, T, by simp, by simp only [List.length_append] at hjl; omega, by rw [List.length_cons]; omega, ?_, ?_, ?_, ?_⟩
  · simpa using hp
  · simpa using hT
  · simpa using hs
  · intro s hs'
    rcases List.mem_cons.1 hs' with rfl | hs'
    · exact (ltG_older hzX).2 hl
    · exact hy s hs'
theorem InsJ.stop {i j : Nat} {xs : List Int} (h : InsJ g A X B i j xs) (hX : Rise X) (hl : j = A.length ∨ ¬ g (nth xs (j - 1)) < g (nth xs j)) : InsO g A X B (i + 1) xs := by
  obtain ⟨S1, S2, y, T, rfl, hj1, hi, hp, hT, hs, hy⟩ := h
  have hlen : (S1 ++ y :: S2).length = (S1 ++ S2).length + 1 := by simp only [List.length_append, List.length_cons]; omega
  have hTl := congrArg List.length hT
  rw [List.length_cons, List.length_drop] at hTl
  have hold : ∀ s ∈ S1 ++ S2, s < y := by
    intro s hs'
    have hz : s ∈ X.take (S1 ++ S2).length := hp.mem_iff.1 hs'
    have hyX : y ∈ X.drop (S1 ++ S2).length := by rw [← hT]; simp
    have h3 := List.take_append_drop (S1 ++ S2).length X
    unfold Rise at hX
    rw [← h3, List.pairwise_append] at hX
    exact hX.2.2 s hz y hyX
  refine ⟨S1 ++ y :: S2, T, by simp, by rw [hlen, List.length_append] at *; omega, ?_, ?_, by rw [hlen]; omega, ?_⟩
  · rw [hlen, List.take_add_one]
    have h4 : X[(S1 ++ S2).length]? = some y := by
      have := congrArg List.head? hT
      rw [List.head?_drop] at this
      simpa using this.symm
    rw [h4]
    have h5 : (S1 ++ y :: S2).Perm ((S1 ++ S2) ++ [y]) := by
      have := List.perm_middle (a := y) (l₁ := S1) (l₂ := S2)
      exact this.trans (List.perm_append_singleton y (S1 ++ S2)).symm
    exact h5.trans (hp.append_right [y])
  · rw [hlen, ← List.drop_drop, ← hT]
    rfl
  · rw [List.pairwise_append] at hs ⊢
    refine ⟨hs.1, List.pairwise_cons.2 ⟨hy, hs.2.1⟩, ?_⟩
    intro x hx z hz
    have hxy : LtG g x y := by
      rcases hl with hl | hl
      · have : S1.length = 0 := by omega
        rw [List.eq_nil_of_length_eq_zero this] at hx
        cases hx
      · have hne : S1 ≠ [] := fun e => by rw [e] at hx; cases hx
        obtain ⟨S0, u, rfl⟩ : ∃ S0 u, S1 = S0 ++ [u] := ⟨S1.dropLast, S1.getLast hne, (List.dropLast_concat_getLast _).symm⟩
        have hjl : j - 1 = (A ++ S0).length := by simp only [List.length_append, List.length_cons, List.length_nil] at hj1 ⊢; omega
        have e : A ++ (S0 ++ [u] ++ y :: (S2 ++ (T ++ B))) = (A ++ S0) ++ u :: y :: (S2 ++ (T ++ B)) := by simp
        have e2 : (A ++ S0) ++ u :: y :: (S2 ++ (T ++ B)) = ((A ++ S0) ++ [u]) ++ y :: (S2 ++ (T ++ B)) := by simp
        rw [e, nth_mid _ _ _ hjl, e2, nth_mid _ _ _ (by simp only [List.length_append, List.length_cons, List.length_nil] at hj1 ⊢; omega)] at hl
        have huy : u < y := hold u (by simp)
        have h6 : LtG g u y := ltG_tot (by omega) (fun h => hl ((ltG_older huy).1 h))
        rcases List.mem_append.1 hx with hx | hx
        · have := (List.pairwise_append.1 hs.1).2.2 x hx u (by simp)
          exact ltG_trans this h6
        · rcases List.mem_cons.1 hx with rfl | hx
          · exact h6
          · cases hx
    rcases List.mem_cons.1 hz with rfl | hz
    · exact hxy
    · exact hs.2.2 x hx z hz
theorem InsO.done {xs : List Int} (h : InsO g A X B (A.length + X.length) xs) : ∃ S, xs = A ++ (S ++ B) ∧ S.Perm X ∧ S.Pairwise (LtG g) := by
  obtain ⟨S, T, rfl, hi, hp, hT, -, hs⟩ := h
  have hl : S.length = X.length := by omega
  rw [hl, List.take_length] at hp
  rw [hl, List.drop_length] at hT
  subst hT
  exact ⟨S, rfl, hp, hs⟩
end
/-- Two parts of one length change places: at i. -/
def SwpR (P U M V Q : List Int) (i : Nat) (xs : List Int) : Prop := xs = P ++ (V.take i ++ (U.drop i ++ (M ++ (U.take i ++ (V.drop i ++ Q)))))
theorem SwpR.start (P U M V Q : List Int) : SwpR P U M V Q 0 (P ++ (U ++ (M ++ (V ++ Q)))) := by unfold SwpR; simp
theorem SwpR.done {P U M V Q xs : List Int} {n : Nat} (h : SwpR P U M V Q n xs) (hU : U.length = n) (hV : V.length = n) : xs = P ++ (V ++ (M ++ (U ++ Q))) := by
  unfold SwpR at h
  rw [h, ← hU, List.drop_length, List.take_length, hU, ← hV, List.drop_length, List.take_length]
  simp
theorem SwpR.step {P U M V Q xs : List Int} {i n a b : Nat} (h : SwpR P U M V Q i xs) (hi : i < n) (hU : U.length = n) (hV : V.length = n) (ha : a = P.length) (hb : b = P.length + n + M.length) :
    SwpR P U M V Q (i + 1) ((xs.set (a + i) (nth xs (b + i))).set (b + i) (nth xs (a + i))) ∧ a + i < xs.length ∧ b + i < xs.length ∧ a + i < b + i := by
  unfold SwpR at h ⊢
  have eU : U.drop i = (U[i]'(by omega)) :: U.drop (i + 1) := List.drop_eq_getElem_cons (by omega)
  have eV : V.drop i = (V[i]'(by omega)) :: V.drop (i + 1) := List.drop_eq_getElem_cons (by omega)
  have tU : U.take (i + 1) = U.take i ++ [U[i]'(by omega)] := by rw [List.take_add_one, List.getElem?_eq_getElem (by omega)]; rfl
  have tV : V.take (i + 1) = V.take i ++ [V[i]'(by omega)] := by rw [List.take_add_one, List.getElem?_eq_getElem (by omega)]; rfl
  rw [tU, tV]
  rw [eU, eV] at h
  generalize U[i]'(by omega) = u at h ⊢
  generalize V[i]'(by omega) = v at h ⊢
  have l1 : (V.take i).length = i := by rw [List.length_take]; omega
  have l2 : (U.take i).length = i := by rw [List.length_take]; omega
  have l3 : (U.drop (i + 1)).length = n - (i + 1) := by rw [List.length_drop, hU]
  have l4 : (V.drop (i + 1)).length = n - (i + 1) := by rw [List.length_drop, hV]
  generalize V.take i = V1 at *
  generalize U.take i = U1 at *
  generalize U.drop (i + 1) = U2 at *
  generalize V.drop (i + 1) = V2 at *
  subst h
  have e1 : P ++ (V1 ++ (u :: U2 ++ (M ++ (U1 ++ (v :: V2 ++ Q))))) = (P ++ V1) ++ u :: (U2 ++ (M ++ (U1 ++ (v :: V2 ++ Q)))) := by simp
  have e2 : ∀ w : Int, (P ++ V1) ++ w :: (U2 ++ (M ++ (U1 ++ (v :: V2 ++ Q)))) = (P ++ (V1 ++ (w :: (U2 ++ (M ++ U1))))) ++ v :: (V2 ++ Q) := fun w => by simp
  have p1 : a + i = (P ++ V1).length := by rw [List.length_append]; omega
  have p2 : ∀ w : Int, b + i = (P ++ (V1 ++ (w :: (U2 ++ (M ++ U1))))).length := fun w => by simp only [List.length_append, List.length_cons]; omega
  have n1 : nth (P ++ (V1 ++ (u :: U2 ++ (M ++ (U1 ++ (v :: V2 ++ Q)))))) (a + i) = u := by rw [e1]; exact nth_mid _ _ _ p1
  have n2 : nth (P ++ (V1 ++ (u :: U2 ++ (M ++ (U1 ++ (v :: V2 ++ Q)))))) (b + i) = v := by rw [e1, e2]; exact nth_mid _ _ _ (p2 u)
  rw [n1, n2]
  refine ⟨?_, ?_, ?_, by omega⟩
  · rw [e1, set_mid _ _ _ _ p1, e2, set_mid _ _ _ _ (p2 v)]
    simp
  · simp only [List.length_append, List.length_cons]; omega
  · simp only [List.length_append, List.length_cons]; omega
/-- Two parts change order, whatever their lengths: where i of the first and j of the second are left, at m. -/
def RotS (A U V B : List Int) (m i j : Nat) (xs : List Int) : Prop := ∃ A' U' V' B', xs = A' ++ (U' ++ (V' ++ B')) ∧ U'.length = i ∧ V'.length = j ∧ A'.length + i = m ∧ A' ++ (V' ++ (U' ++ B')) = A ++ (V ++ (U ++ B))
theorem RotS.start (A U V B : List Int) : RotS A U V B (A.length + U.length) U.length V.length (A ++ (U ++ (V ++ B))) := ⟨A, U, V, B, rfl, rfl, rfl, rfl, rfl⟩
/-- What a change of places is asked for, and what it leaves. -/
theorem RotS.more {A U V B xs : List Int} {m i j : Nat} (h : RotS A U V B m i j xs) (hij : j < i) : ∃ P X M Y Q, xs = P ++ (X ++ (M ++ (Y ++ Q))) ∧ X.length = j ∧ Y.length = j ∧ m - i = P.length ∧ m = P.length + j + M.length ∧ RotS A U V B m (i - j) j (P ++ (Y ++ (M ++ (X ++ Q)))) := by
  obtain ⟨A', U', V', B', rfl, hU, hV, hm, he⟩ := h
  have l1 : (U'.take j).length = j := by rw [List.length_take]; omega
  have l2 : (U'.drop j).length = i - j := by rw [List.length_drop]; omega
  refine ⟨A', U'.take j, U'.drop j, V', B', ?_, l1, hV, by omega, by omega, A' ++ V', U'.drop j, U'.take j, B', by simp, l2, l1, by rw [List.length_append]; omega, ?_⟩
  · rw [← List.append_assoc (U'.take j), List.take_append_drop]
  · rw [← he]
    simp only [List.append_assoc, List.append_cancel_left_eq]
    rw [← List.append_assoc (U'.take j), List.take_append_drop]
theorem RotS.less {A U V B xs : List Int} {m i j : Nat} (h : RotS A U V B m i j xs) (hij : i < j) : ∃ P X M Y Q, xs = P ++ (X ++ (M ++ (Y ++ Q))) ∧ X.length = i ∧ Y.length = i ∧ m - i = P.length ∧ m + j - i = P.length + i + M.length ∧ RotS A U V B m i (j - i) (P ++ (Y ++ (M ++ (X ++ Q)))) := by
  obtain ⟨A', U', V', B', rfl, hU, hV, hm, he⟩ := h
  have l1 : (V'.take (j - i)).length = j - i := by rw [List.length_take]; omega
  have l2 : (V'.drop (j - i)).length = i := by rw [List.length_drop]; omega
  refine ⟨A', U', V'.take (j - i), V'.drop (j - i), B', ?_, hU, l2, by omega, by omega, A', V'.drop (j - i), V'.take (j - i), U' ++ B', by simp, l2, l1, by omega, ?_⟩
  · rw [← List.append_assoc (V'.take (j - i)), List.take_append_drop]
  · rw [← he]
    simp only [List.append_cancel_left_eq]
    rw [← List.append_assoc (V'.take (j - i)), List.take_append_drop]
theorem RotS.last {A U V B xs : List Int} {m i : Nat} (h : RotS A U V B m i i xs) : ∃ P X Y Q, xs = P ++ (X ++ ([] ++ (Y ++ Q))) ∧ X.length = i ∧ Y.length = i ∧ m - i = P.length ∧ m = P.length + i + ([] : List Int).length ∧ P ++ (Y ++ ([] ++ (X ++ Q))) = A ++ (V ++ (U ++ B)) := by
  obtain ⟨A', U', V', B', rfl, hU, hV, hm, he⟩ := h
  exact ⟨A', U', V', B', by simp, hU, hV, by omega, by simp; omega, by simpa using he⟩
theorem nth_app1 {P Q : List Int} {k : Nat} (h : k < P.length) : nth (P ++ Q) k = nth P k := by
  unfold nth
  rw [List.getD_eq_getElem?_getD, List.getD_eq_getElem?_getD, List.getElem?_append_left h]
theorem nth_app2 {P Q : List Int} {k : Nat} (h : P.length ≤ k) : nth (P ++ Q) k = nth Q (k - P.length) := by
  unfold nth
  rw [List.getD_eq_getElem?_getD, List.getD_eq_getElem?_getD, List.getElem?_append_right h]
theorem sorted_nth {g : Int → Int} {X : List Int} (h : X.Pairwise (LtG g)) {a b : Nat} (hab : a < b) (hb : b < X.length) : LtG g (nth X a) (nth X b) := by
  rw [nth_get (by omega), nth_get hb]
  exact (List.pairwise_iff_getElem.1 h) a b (by omega) hb hab
theorem take_last {X : List Int} {k : Nat} (hk : 0 < k) (hl : k ≤ X.length) : (X.take k).getLast? = some (nth X (k - 1)) := by
  obtain ⟨m, rfl⟩ : ∃ m, k = m + 1 := ⟨k - 1, by omega⟩
  rw [List.take_add_one, List.getElem?_eq_getElem (by omega), Nat.add_sub_cancel, nth_get (by omega)]
  exact List.getLast?_concat
theorem drop_head {X : List Int} {k : Nat} (hl : k < X.length) : (X.drop k).head? = some (nth X k) := by
  rw [List.head?_drop, List.getElem?_eq_getElem hl, nth_get hl]
end Go.Proofs.YtgickjghfndaaaaDoor
