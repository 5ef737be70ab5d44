/- Each one's total, folded with its path, is the root of all: plain law. Conditions: named in each theorem. -/
import Derived.Test.YtkpbhbafapdboaaDoorAudL
namespace Go.Proofs.YtkpbhbafapdboaaDoor
open Go.RowKit Go.ChangeShapes Go.WideShapes Go.ChangeAt

/-- What the root wants beside a leaf, from the root down. -/
def pathT : Nat → Nat → List Tot → List Tot
  | 0, _, _ => []
  | f + 1, i, ts =>
    if ts.length ≤ 1 then []
    else if i < halfN ts.length then (rootF 257 (ts.drop (halfN ts.length))).1 :: pathT f i (ts.take (halfN ts.length))
    else (rootF 257 (ts.take (halfN ts.length))).1 :: pathT f (i - halfN ts.length) (ts.drop (halfN ts.length))
theorem foldP_append : ∀ (P : List Tot) (W : List Bool) (t : Tot) (V : List Bool) (Q : List Tot), W.length = P.length →
    foldP t (W ++ V) (P ++ Q) = if (foldP t W P).2 = 0 then foldP (foldP t W P).1 V Q else (noTot, (foldP t W P).2)
  | [], W, t, V, Q, h => by
    have : W = [] := List.eq_nil_of_length_eq_zero h
    subst this
    have e : foldP t [] [] = (t, 0) := rfl
    rw [List.nil_append, List.nil_append, e]
    exact (if_pos rfl).symm
  | p :: P, [], _, _, _, h => by simp at h
  | p :: P, b :: W, t, V, Q, h => by
    have ih := foldP_append P W (if b = true then nodeR t p else nodeR p t).1 V Q (by simpa using h)
    rw [List.cons_append, List.cons_append]
    have e1 : foldP t (b :: (W ++ V)) (p :: (P ++ Q)) = if (if b = true then nodeR t p else nodeR p t).2 = 0 then foldP (if b = true then nodeR t p else nodeR p t).1 (W ++ V) (P ++ Q) else (noTot, (if b = true then nodeR t p else nodeR p t).2) := rfl
    have e2 : foldP t (b :: W) (p :: P) = if (if b = true then nodeR t p else nodeR p t).2 = 0 then foldP (if b = true then nodeR t p else nodeR p t).1 W P else (noTot, (if b = true then nodeR t p else nodeR p t).2) := rfl
    rw [e1, e2]
    generalize (if b = true then nodeR t p else nodeR p t) = R at ih ⊢
    by_cases hR : R.2 = 0
    · rw [if_pos hR, if_pos hR]; exact ih
    · rw [if_neg hR, if_neg hR]
      exact (if_neg hR).symm
theorem rootF_one {f : Nat} {ts : List Tot} (h : ts.length = 1) : rootF (f + 1) ts = if Mny (ts.getD 0 noTot).1 then (ts.getD 0 noTot, 0) else (noTot, 2) := by
  unfold rootF
  rw [if_neg (by omega), if_pos h]
theorem rootF_two {ts : List Tot} (h : 2 ≤ ts.length) (hn : ts.length ≤ 256) : rootF 257 ts =
    if (rootF 257 (ts.take (halfN ts.length))).2 ≠ 0 then (noTot, (rootF 257 (ts.take (halfN ts.length))).2)
    else if (rootF 257 (ts.drop (halfN ts.length))).2 ≠ 0 then (noTot, (rootF 257 (ts.drop (halfN ts.length))).2)
    else nodeR (rootF 257 (ts.take (halfN ts.length))).1 (rootF 257 (ts.drop (halfN ts.length))).1 := by
  have hh := half_lt h hn
  have m1 := rootF_more 256 257 (ts.take (halfN ts.length)) (by rw [List.length_take]; omega) (by rw [List.length_take]; omega) (by rw [List.length_take]; omega)
  have m2 := rootF_more 256 257 (ts.drop (halfN ts.length)) (by rw [List.length_drop]; omega) (by rw [List.length_drop]; omega) (by rw [List.length_drop]; omega)
  rw [← m1, ← m2]
  show rootF (256 + 1) ts = _
  conv => lhs; unfold rootF
  rw [if_neg (by omega), if_neg (by omega)]
/-- Where all have a root, both halves have one. -/
theorem rootF_halves {ts : List Tot} (h : 2 ≤ ts.length) (hn : ts.length ≤ 256) (h0 : (rootF 257 ts).2 = 0) :
    (rootF 257 (ts.take (halfN ts.length))).2 = 0 ∧ (rootF 257 (ts.drop (halfN ts.length))).2 = 0 ∧ rootF 257 ts = nodeR (rootF 257 (ts.take (halfN ts.length))).1 (rootF 257 (ts.drop (halfN ts.length))).1 := by
  have e := rootF_two h hn
  by_cases h1 : (rootF 257 (ts.take (halfN ts.length))).2 = 0
  · rw [if_neg (by simp [h1])] at e
    by_cases h2 : (rootF 257 (ts.drop (halfN ts.length))).2 = 0
    · rw [if_neg (by simp [h2])] at e
      exact ⟨h1, h2, e⟩
    · rw [if_pos h2] at e
      rw [e] at h0
      exact absurd h0 h2
  · rw [if_pos h1] at e
    rw [e] at h0
    exact absurd h0 h1
theorem pathT_len : ∀ (f : Nat) (ts : List Tot) (i : Nat), ts.length ≤ f → ts.length ≤ 256 → i < ts.length → (pathT f i ts).length = (way i ts.length).length
  | 0, ts, i, h, _, hi => by omega
  | f + 1, ts, i, h, hn, hi => by
    by_cases h1 : ts.length ≤ 1
    · rw [way_one i ts.length h1]
      unfold pathT
      rw [if_pos h1]
      rfl
    · have hh := half_lt (n := ts.length) (by omega) hn
      rw [way_step i ts.length (by omega) hn]
      unfold pathT
      rw [if_neg h1]
      by_cases hk : i < halfN ts.length
      · rw [if_pos hk, if_pos hk, if_pos hk, List.length_cons, List.length_cons]
        have ih := pathT_len f (ts.take (halfN ts.length)) i (by rw [List.length_take]; omega) (by rw [List.length_take]; omega) (by rw [List.length_take]; omega)
        rw [ih, List.length_take, Nat.min_eq_left (Nat.le_of_lt hh.2)]
      · rw [if_neg hk, if_neg hk, if_neg hk, List.length_cons, List.length_cons]
        have ih := pathT_len f (ts.drop (halfN ts.length)) (i - halfN ts.length) (by rw [List.length_drop]; omega) (by rw [List.length_drop]; omega) (by rw [List.length_drop]; omega)
        rw [ih, List.length_drop]
theorem getD_take {ts : List Tot} {k i : Nat} (h : i < k) : (ts.take k).getD i noTot = ts.getD i noTot := by
  simp [List.getD_eq_getElem?_getD, h]
theorem getD_dropT {ts : List Tot} {k i : Nat} (h : k ≤ i) : (ts.drop k).getD (i - k) noTot = ts.getD i noTot := by
  rw [List.getD_eq_getElem?_getD, List.getElem?_drop, show k + (i - k) = i by omega, ← List.getD_eq_getElem?_getD]
/-- Each is counted. -/
theorem root_fold : ∀ (f : Nat) (ts : List Tot) (i : Nat), ts.length ≤ f → ts.length ≤ 256 → i < ts.length → (rootF 257 ts).2 = 0 →
    foldP (ts.getD i noTot) (way i ts.length).reverse (pathT f i ts).reverse = ((rootF 257 ts).1, 0)
  | 0, ts, i, h, _, hi, _ => by omega
  | f + 1, ts, i, h, hn, hi, h0 => by
    by_cases h1 : ts.length ≤ 1
    · have hl : ts.length = 1 := by omega
      have hi0 : i = 0 := by omega
      subst hi0
      have e := rootF_one (f := 256) hl
      have hm : Mny (ts.getD 0 noTot).1 := by
        by_cases hm : Mny (ts.getD 0 noTot).1
        · exact hm
        · rw [if_neg hm] at e
          have h0' : (rootF (256 + 1) ts).2 = 0 := h0
          rw [e] at h0'
          exact absurd h0' (by decide)
      rw [if_pos hm] at e
      rw [way_one 0 ts.length h1]
      unfold pathT
      rw [if_pos h1]
      show (ts.getD 0 noTot, (0 : Int)) = ((rootF (256 + 1) ts).1, 0)
      rw [e]
    · have hh := half_lt (n := ts.length) (by omega) hn
      obtain ⟨g1, g2, g3⟩ := rootF_halves (by omega) hn h0
      have hnd : (nodeR (rootF 257 (ts.take (halfN ts.length))).1 (rootF 257 (ts.drop (halfN ts.length))).1).2 = 0 := by rw [← g3]; exact h0
      rw [way_step i ts.length (by omega) hn]
      unfold pathT
      rw [if_neg h1]
      by_cases hk : i < halfN ts.length
      · rw [if_pos hk, if_pos hk, if_pos hk, decide_eq_true hk, List.reverse_cons, List.reverse_cons]
        have hlt : (ts.take (halfN ts.length)).length = halfN ts.length := by rw [List.length_take]; omega
        have ih := root_fold f (ts.take (halfN ts.length)) i (by omega) (by omega) (by omega) g1
        have hp := pathT_len f (ts.take (halfN ts.length)) i (by omega) (by omega) (by omega)
        rw [hlt] at ih hp
        rw [getD_take hk] at ih
        rw [foldP_append _ _ _ _ _ (by rw [List.length_reverse, List.length_reverse, hp]), ih, if_pos rfl]
        show (if (nodeR _ _).2 = 0 then foldP (nodeR _ _).1 [] [] else (noTot, (nodeR _ _).2)) = _
        rw [if_pos hnd, g3]
        rfl
      · rw [if_neg hk, if_neg hk, if_neg hk, decide_eq_false hk, List.reverse_cons, List.reverse_cons]
        have hlt : (ts.drop (halfN ts.length)).length = ts.length - halfN ts.length := by rw [List.length_drop]
        have ih := root_fold f (ts.drop (halfN ts.length)) (i - halfN ts.length) (by omega) (by omega) (by omega) g2
        have hp := pathT_len f (ts.drop (halfN ts.length)) (i - halfN ts.length) (by omega) (by omega) (by omega)
        rw [hlt] at ih hp
        rw [getD_dropT (by omega)] at ih
        rw [foldP_append _ _ _ _ _ (by rw [List.length_reverse, List.length_reverse, hp]), ih, if_pos rfl]
        show (if (nodeR _ _).2 = 0 then foldP (nodeR _ _).1 [] [] else (noTot, (nodeR _ _).2)) = _
        rw [if_pos hnd, g3]
        rfl
theorem sumT_append (a b : List Tot) : sumT (a ++ b) = sumT a + sumT b := by
  induction a with
  | nil => simp [sumT]
  | cons x r ih => simp only [List.cons_append, sumT, ih]; omega
theorem root_sum : ∀ (f : Nat) (ts : List Tot), ts.length ≤ f → ts.length ≤ 256 → (rootF 257 ts).2 = 0 → (∀ t ∈ ts, 0 ≤ t.1) ∧ (rootF 257 ts).1.1 = sumT ts ∧ Mny (rootF 257 ts).1.1
  | 0, ts, h, _, _ => by
    have : ts = [] := List.eq_nil_of_length_eq_zero (by omega)
    subst this
    exact ⟨fun t ht => (by cases ht), rfl, (by decide)⟩
  | f + 1, ts, h, hn, h0 => by
    by_cases hz : ts.length = 0
    · have : ts = [] := List.eq_nil_of_length_eq_zero hz
      subst this
      exact ⟨fun t ht => (by cases ht), rfl, (by decide)⟩
    by_cases h1 : ts.length = 1
    · have e := rootF_one (f := 256) h1
      have hm : Mny (ts.getD 0 noTot).1 := by
        by_cases hm : Mny (ts.getD 0 noTot).1
        · exact hm
        · rw [if_neg hm] at e
          have h0' : (rootF (256 + 1) ts).2 = 0 := h0
          rw [e] at h0'
          exact absurd h0' (by decide)
      rw [if_pos hm] at e
      have e' : rootF 257 ts = (ts.getD 0 noTot, 0) := e
      rw [e']
      match ts, h1 with
      | [t], _ => exact ⟨fun x hx => (by rw [List.mem_singleton] at hx; rw [hx]; exact hm.1), (by show t.1 = t.1 + 0; omega), hm⟩
    · have hh := half_lt (n := ts.length) (by omega) hn
      obtain ⟨g1, g2, g3⟩ := rootF_halves (by omega) hn h0
      obtain ⟨a1, a2, a3⟩ := root_sum f (ts.take (halfN ts.length)) (by rw [List.length_take]; omega) (by rw [List.length_take]; omega) g1
      obtain ⟨b1, b2, b3⟩ := root_sum f (ts.drop (halfN ts.length)) (by rw [List.length_drop]; omega) (by rw [List.length_drop]; omega) g2
      obtain ⟨u, hu⟩ : ∃ u, rootF 257 ts = (u, 0) := ⟨(rootF 257 ts).1, by rw [← h0]⟩
      have hs := nodeR_sum (l := (rootF 257 (ts.take (halfN ts.length))).1) (r := (rootF 257 (ts.drop (halfN ts.length))).1) (u := u) (by rw [← g3]; exact hu)
      rw [hu]
      refine ⟨fun t ht => ?_, ?_, hs.2.2.2⟩
      · rw [← List.take_append_drop (halfN ts.length) ts] at ht
        rcases List.mem_append.1 ht with ht | ht
        · exact a1 t ht
        · exact b1 t ht
      · rw [hs.2.2.1, a2, b2, ← sumT_append, List.take_append_drop]
end Go.Proofs.YtkpbhbafapdboaaDoor
