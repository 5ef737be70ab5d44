/- Settling piles: what a step does: plain laws. Conditions: named in each theorem. -/
import Derived.Test.YtippdfmmlhpkfaaDoorNetP
import Derived.Test.YtippdfmmlhpkfaaDoorNetR
namespace Go.Proofs.YtippdfmmlhpkfaaDoor
open Go.RowKit Go.ChangeShapes Go.WideShapes Go.ChangeAt

def at_ (ps : List Ln) (k : Nat) : Ln := ps.getD k (0, 0)
theorem at_set_same {ps : List Ln} {i : Nat} (h : i < ps.length) (x : Ln) : at_ (ps.set i x) i = x := by
  unfold at_
  rw [List.getD_eq_getElem?_getD, List.getElem?_set_self h]
  rfl
theorem at_set_ne {ps : List Ln} {i j : Nat} (h : i ≠ j) (x : Ln) : at_ (ps.set i x) j = at_ ps j := by
  unfold at_
  rw [List.getD_eq_getElem?_getD, List.getElem?_set_ne h, List.getD_eq_getElem?_getD]
theorem at_mem {ps : List Ln} {k : Nat} (h : k < ps.length) : at_ ps k ∈ ps := getD_mem (0, 0) h
theorem mem_at {ps : List Ln} {p : Ln} (h : p ∈ ps) : ∃ k, k < ps.length ∧ at_ ps k = p := by
  obtain ⟨k, hk, rfl⟩ := List.getElem_of_mem h
  exact ⟨k, hk, by unfold at_; rw [List.getD_eq_getElem?_getD, List.getElem?_eq_getElem hk]; rfl⟩
/-- The first place of those that are so. -/
def First (P : Ln → Prop) (own : List Ln) (i : Nat) : Prop := i < own.length ∧ P (at_ own i) ∧ ∀ j, j < i → ¬ P (at_ own j)
theorem First.uniq {P : Ln → Prop} {own : List Ln} {i j : Nat} (h : First P own i) (g : First P own j) : i = j := by
  obtain ⟨_, h2, h3⟩ := h
  obtain ⟨_, g2, g3⟩ := g
  rcases Nat.lt_trichotomy i j with h | h | h
  · exact absurd h2 (g3 i h)
  · exact h
  · exact absurd g2 (h3 j h)
def Neg (p : Ln) : Prop := p.2 < 0
def Pos (p : Ln) : Prop := 0 < p.2
def least (a b : Int) : Int := min a b
/-- How much the one gives the other one. -/
def much (own : List Ln) (i j : Nat) : Int := least (-(at_ own i).2) (at_ own j).2
def debt (own : List Ln) (i j : Nat) : Db := ((at_ own i).1, (at_ own j).1, much own i j)
/-- What they have then. -/
def then_ (own : List Ln) (i j : Nat) : List Ln := (own.set i ((at_ own i).1, (at_ own i).2 + much own i j)).set j ((at_ own j).1, (at_ own j).2 - much own i j)
/-- The debts by which all are settled. -/
inductive Run : List Ln → List Db → Prop
  | stop {own : List Ln} (h : ∀ p ∈ own, ¬ Neg p) : Run own []
  | step {own : List Ln} {i j : Nat} {out : List Db} (hi : First Neg own i) (hj : First Pos own j) (h : Run (then_ own i j) out) : Run own (debt own i j :: out)
theorem Run.uniq {own : List Ln} {a b : List Db} (h : Run own a) (g : Run own b) : a = b := by
  induction h generalizing b with
  | stop h =>
    cases g with
    | stop _ => rfl
    | step hi _ _ => exact absurd hi.2.1 (h _ (at_mem hi.1))
  | step hi hj _ ih =>
    cases g with
    | stop g => exact absurd hi.2.1 (g _ (at_mem hi.1))
    | step gi gj g =>
      obtain rfl := hi.uniq gi
      obtain rfl := hj.uniq gj
      rw [ih g]
def nz (ps : List Ln) : Nat := ps.countP fun p => p.2 != 0
theorem len_then (own : List Ln) (i j : Nat) : (then_ own i j).length = own.length := by simp [then_]
theorem ne_of_first {own : List Ln} {i j : Nat} (hi : First Neg own i) (hj : First Pos own j) : i ≠ j := by
  rintro rfl
  have h1 := hi.2.1
  have h2 := hj.2.1
  unfold Neg at h1
  unfold Pos at h2
  omega
theorem much_pos {own : List Ln} {i j : Nat} (hi : First Neg own i) (hj : First Pos own j) : 0 < much own i j ∧ much own i j ≤ -(at_ own i).2 ∧ much own i j ≤ (at_ own j).2 := by
  have h1 := hi.2.1
  have h2 := hj.2.1
  unfold Neg at h1
  unfold Pos at h2
  unfold much least
  omega
theorem at_then {own : List Ln} {i j : Nat} (hi : First Neg own i) (hj : First Pos own j) (k : Nat) : at_ (then_ own i j) k = if k = i then ((at_ own i).1, (at_ own i).2 + much own i j) else if k = j then ((at_ own j).1, (at_ own j).2 - much own i j) else at_ own k := by
  have hij := ne_of_first hi hj
  unfold then_
  by_cases h1 : k = i
  · subst h1
    rw [if_pos rfl, at_set_ne (fun e => hij e.symm), at_set_same hi.1]
  · rw [if_neg h1]
    by_cases h2 : k = j
    · subst h2
      rw [if_pos rfl, at_set_same (by simpa using hj.1)]
    · rw [if_neg h2, at_set_ne (fun e => h2 e.symm), at_set_ne (fun e => h1 e.symm)]
theorem total_set {ps : List Ln} {i : Nat} (h : i < ps.length) (s x : Int) : total (ps.set i (s, x)) = total ps - (at_ ps i).2 + x := by
  induction ps generalizing i with
  | nil => simp at h
  | cons p r ih =>
    cases i with
    | zero =>
      simp only [List.set_cons_zero, total, List.map_cons, List.sum_cons, at_, List.getD_cons_zero]
      omega
    | succ i =>
      have := ih (by simpa using h)
      simp only [List.set_cons_succ, total, List.map_cons, List.sum_cons, at_, List.getD_cons_succ] at this ⊢
      omega
theorem total_then {own : List Ln} {i j : Nat} (hi : First Neg own i) (hj : First Pos own j) : total (then_ own i j) = total own := by
  unfold then_
  rw [total_set (by simpa using hj.1), total_set hi.1, at_set_ne (ne_of_first hi hj)]
  omega
theorem nz_set {ps : List Ln} {i : Nat} (h : i < ps.length) (s x : Int) : nz (ps.set i (s, x)) + (if (at_ ps i).2 = 0 then 0 else 1) = nz ps + (if x = 0 then 0 else 1) := by
  induction ps generalizing i with
  | nil => simp at h
  | cons p r ih =>
    cases i with
    | zero =>
      simp only [List.set_cons_zero, nz, List.countP_cons, at_, List.getD_cons_zero]
      by_cases h1 : p.2 = 0 <;> by_cases h2 : x = 0 <;> simp [h1, h2]
    | succ i =>
      have := ih (by simpa using h)
      simp only [List.set_cons_succ, nz, List.countP_cons, at_, List.getD_cons_succ] at this ⊢
      by_cases hx : x = 0 <;> by_cases hq : (r.getD i (0, 0)).2 = 0 <;> simp only [hx, hq, if_true, if_false] at this ⊢ <;> omega
/-- Each step makes one at least even. -/
theorem nz_then {own : List Ln} {i j : Nat} (hi : First Neg own i) (hj : First Pos own j) : nz (then_ own i j) + 1 ≤ nz own ∧ 2 ≤ nz own := by
  have hij := ne_of_first hi hj
  have h1 := hi.2.1
  have h2 := hj.2.1
  unfold Neg at h1
  unfold Pos at h2
  have e1 := nz_set hi.1 (at_ own i).1 ((at_ own i).2 + much own i j)
  have e2 := nz_set (ps := own.set i ((at_ own i).1, (at_ own i).2 + much own i j)) (i := j) (by simpa using hj.1) (at_ own j).1 ((at_ own j).2 - much own i j)
  rw [at_set_ne hij] at e2
  have e3 := nz_set hi.1 (at_ own i).1 0
  have e4 := nz_set (ps := own.set i ((at_ own i).1, 0)) (i := j) (by simpa using hj.1) (at_ own j).1 0
  rw [at_set_ne hij] at e4
  rw [if_neg (by omega)] at e1 e2 e3 e4
  rw [if_pos rfl] at e3 e4
  have hm : (at_ own i).2 + much own i j = 0 ∨ (at_ own j).2 - much own i j = 0 := by unfold much least; omega
  unfold then_
  refine ⟨?_, by omega⟩
  rcases hm with hm | hm
  · rw [if_pos hm] at e1
    split at e2 <;> omega
  · rw [if_pos hm] at e2
    split at e1 <;> omega
/-- What holds while piles are settled. -/
structure St (ps own : List Ln) (out : List Db) : Prop where
  len : own.length = ps.length
  names : ∀ k, k < ps.length → (at_ own k).1 = (at_ ps k).1
  bal : ∀ k, k < ps.length → (at_ ps k).2 = (at_ own k).2 + sumAt (at_ ps k).1 (lnsOf out)
  sign : ∀ k, k < ps.length → (0 ≤ (at_ own k).2 ∧ (at_ own k).2 ≤ (at_ ps k).2) ∨ ((at_ ps k).2 ≤ (at_ own k).2 ∧ (at_ own k).2 ≤ 0)
  debts : ∀ d ∈ out, 1 ≤ d.2.2 ∧ ∃ i j, i < ps.length ∧ j < ps.length ∧ d.1 = (at_ ps i).1 ∧ d.2.1 = (at_ ps j).1 ∧ (at_ ps i).2 < 0 ∧ 0 < (at_ ps j).2 ∧ d.2.2 ≤ (at_ ps j).2
  tot : total own = 0
  count : out.length + nz own ≤ nz ps
  less : out = [] ∨ out.length < nz ps
  run : ∀ rest, Run own rest → Run ps (out ++ rest)
theorem St.start {ps : List Ln} (h : total ps = 0) : St ps ps [] :=
  ⟨rfl, fun _ _ => rfl, fun k _ => by simp [lnsOf, sumAt], fun k _ => by rcases Int.le_total 0 (at_ ps k).2 with h | h <;> omega, (fun _ h => by cases h), h, by simp, .inl rfl, fun _ h => h⟩
theorem rises_at {ps : List Ln} (hr : Rises ps) {i j : Nat} (hi : i < ps.length) (hj : j < ps.length) (h : (at_ ps i).1 = (at_ ps j).1) : i = j := by
  have hp : (ps.map (·.1)).Pairwise (fun a b => a < b) := hr
  have e : ∀ k (hk : k < ps.length), (ps.map (·.1))[k]'(by simpa using hk) = (at_ ps k).1 := fun k hk => by
    simp [at_, List.getD_eq_getElem?_getD, List.getElem?_eq_getElem hk]
  rcases Nat.lt_trichotomy i j with h1 | h1 | h1
  · have := List.pairwise_iff_getElem.1 hp i j (by simpa using hi) (by simpa using hj) h1
    rw [e i hi, e j hj] at this
    omega
  · exact h1
  · have := List.pairwise_iff_getElem.1 hp j i (by simpa using hj) (by simpa using hi) h1
    rw [e i hi, e j hj] at this
    omega
theorem St.step {ps own : List Ln} {out : List Db} (hr : Rises ps) (h : St ps own out) {i j : Nat} (hi : First Neg own i) (hj : First Pos own j) : St ps (then_ own i j) (out ++ [debt own i j]) := by
  have hij := ne_of_first hi hj
  obtain ⟨m0, m1, m2⟩ := much_pos hi hj
  have hi1 := hi.2.1
  have hj1 := hj.2.1
  unfold Neg at hi1
  unfold Pos at hj1
  have hil : i < ps.length := h.len ▸ hi.1
  have hjl : j < ps.length := h.len ▸ hj.1
  refine ⟨by rw [len_then]; exact h.len, fun k hk => ?_, fun k hk => ?_, fun k hk => ?_, fun d hd => ?_, by rw [total_then hi hj]; exact h.tot, ?_, ?_, fun rest hrun => ?_⟩
  · rw [at_then hi hj]
    by_cases h1 : k = i
    · subst h1; rw [if_pos rfl]; exact h.names k hk
    · rw [if_neg h1]
      by_cases h2 : k = j
      · subst h2; rw [if_pos rfl]; exact h.names k hk
      · rw [if_neg h2]; exact h.names k hk
  · have hb := h.bal k hk
    have ho : lnsOf (out ++ [debt own i j]) = (lnsOf out ++ [((at_ own j).1, much own i j)]) ++ [((at_ own i).1, -much own i j)] := lnsOf_app out (debt own i j)
    have hs : ∀ s, sumAt s (lnsOf (out ++ [debt own i j])) = sumAt s (lnsOf out) + (if s = (at_ own j).1 then much own i j else 0) + (if s = (at_ own i).1 then -much own i j else 0) := by
      intro s
      rw [ho]
      have app : ∀ (xs : List Ln) (p : Ln), sumAt s (xs ++ [p]) = sumAt s xs + (if s = p.1 then p.2 else 0) := by
        intro xs p
        induction xs with
        | nil => simp [sumAt]
        | cons x r ih => simp only [List.cons_append, sumAt, ih]; omega
      rw [app, app]
    rw [hs, at_then hi hj]
    by_cases h1 : k = i
    · subst h1
      rw [if_pos rfl, if_neg (by rw [h.names j hjl]; exact fun e => hij (rises_at hr hk hjl e)), if_pos (h.names k hk).symm]
      simp only
      omega
    · rw [if_neg h1]
      rw [show (if (at_ ps k).1 = (at_ own i).1 then -much own i j else 0) = 0 from if_neg (by rw [h.names i hil]; exact fun e => h1 (rises_at hr hk hil e))]
      by_cases h2 : k = j
      · subst h2
        rw [if_pos rfl, if_pos (h.names k hk).symm]
        simp only
        omega
      · rw [if_neg h2, if_neg (by rw [h.names j hjl]; exact fun e => h2 (rises_at hr hk hjl e))]
        omega
  · have hs := h.sign k hk
    rw [at_then hi hj]
    by_cases h1 : k = i
    · subst h1; rw [if_pos rfl]; simp only; omega
    · rw [if_neg h1]
      by_cases h2 : k = j
      · subst h2; rw [if_pos rfl]; simp only; omega
      · rw [if_neg h2]; exact hs
  · rcases List.mem_append.1 hd with hd | hd
    · exact h.debts d hd
    · rw [List.mem_singleton] at hd
      subst hd
      have s1 := h.sign i hil
      have s2 := h.sign j hjl
      exact ⟨by show 1 ≤ much own i j; omega, i, j, hil, hjl, h.names i hil, h.names j hjl, by omega, by omega, by show much own i j ≤ _; omega⟩
  · have := (nz_then hi hj).1
    have := h.count
    simp only [List.length_append, List.length_cons, List.length_nil]
    omega
  · have := (nz_then hi hj).2
    have := h.count
    right
    simp only [List.length_append, List.length_cons, List.length_nil]
    omega
  · rw [List.append_assoc]
    exact h.run _ (.step hi hj hrun)
end Go.Proofs.YtippdfmmlhpkfaaDoor
