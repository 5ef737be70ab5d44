/- What is wrong with an entry, as a number: plain laws. Conditions: named in each theorem. -/
import Derived.Test.YtjoplhpaefngkaaDoorBookL
namespace Go.Proofs.YtjoplhpaefngkaaDoor
open Go.RowKit Go.ChangeShapes Go.WideShapes Go.ChangeAt

/-- What is wrong with the first line that is no right one. -/
def firstBad : List Ln → Int
  | [] => 0
  | p :: r => if p.1.length = 0 ∨ 30 < p.1.length then 1 else if -1125899906842624 ≤ p.2 ∧ p.2 ≤ 1125899906842624 then firstBad r else 2
theorem firstBad_ok : ∀ {ls : List Ln}, (∀ l ∈ ls, LnOk l) → firstBad ls = 0
  | [], _ => rfl
  | p :: r, h => by
    obtain ⟨h1, h2, h3⟩ := h p (by simp)
    unfold Within at h3
    rw [firstBad, if_neg (by omega), if_pos h3]
    exact firstBad_ok fun x hx => h x (by simp [hx])
theorem firstBad_at : ∀ {ls : List Ln} {k : Nat}, k < ls.length → (∀ l ∈ ls.take k, LnOk l) → firstBad ls = firstBad (ls.drop k)
  | _, 0, _, _ => by simp
  | p :: r, k + 1, hk, h => by
    obtain ⟨h1, h2, h3⟩ := h p (by simp)
    unfold Within at h3
    rw [firstBad, if_neg (by omega), if_pos h3, List.drop_succ_cons]
    exact firstBad_at (by simpa using hk) fun x hx => h x (by simp [hx])
open Classical in
/-- What is wrong with an entry. -/
noncomputable def pErr (mx : Nat) (D : DataW Unit) (f : List UInt8 → Int) (ls : List Ln) : Int :=
  if ls.length = 0 then 5 else if mx < ls.length then 4 else if firstBad ls ≠ 0 then firstBad ls else if total ls ≠ 0 then 9 else if PostOk mx D f ls then 0 else 4
section
variable {mx : Nat} {D : DataW Unit} {f : List UInt8 → Int} {ls : List Ln}
theorem pErr_none (h : ls.length = 0) : pErr mx D f ls = 5 := by unfold pErr; rw [if_pos h]
theorem pErr_full (h0 : ls.length ≠ 0) (h : mx < ls.length) : pErr mx D f ls = 4 := by unfold pErr; rw [if_neg h0, if_pos h]
theorem pErr_line {k : Nat} {s : List UInt8} {a : Int} (h0 : ls.length ≠ 0) (h1 : ls.length ≤ mx) (hk : k < ls.length) (hg : ls.getD k ([], 0) = (s, a)) (h : ∀ l ∈ ls.take k, LnOk l) (hb : ¬ LnOk (s, a)) :
    pErr mx D f ls = if s.length = 0 ∨ 30 < s.length then 1 else 2 := by
  have hd : ls.drop k = (s, a) :: ls.drop (k + 1) := by
    rw [List.drop_eq_getElem_cons hk]
    rw [List.getD_eq_getElem?_getD, List.getElem?_eq_getElem hk] at hg
    simp only [Option.getD_some] at hg
    rw [hg]
  have e : firstBad ls = if s.length = 0 ∨ 30 < s.length then 1 else 2 := by
    rw [firstBad_at hk h, hd, firstBad]
    by_cases h2 : s.length = 0 ∨ 30 < s.length
    · rw [if_pos h2, if_pos h2]
    · rw [if_neg h2, if_neg h2]
      rw [if_neg]
      intro h3
      exact hb ⟨by simp only; omega, by simp only; omega, h3⟩
  have hne : firstBad ls ≠ 0 := by rw [e]; split <;> decide
  unfold pErr
  rw [if_neg h0, if_neg (by omega), if_pos hne, e]
theorem pErr_money (h0 : ls.length ≠ 0) (h1 : ls.length ≤ mx) (h : ∀ l ∈ ls, LnOk l) (ht : total ls ≠ 0) : pErr mx D f ls = 9 := by
  unfold pErr
  rw [if_neg h0, if_neg (by omega), if_neg (by rw [firstBad_ok h]; decide), if_pos ht]
theorem pErr_rest (h0 : ls.length ≠ 0) (h1 : ls.length ≤ mx) (h : ∀ l ∈ ls, LnOk l) (ht : total ls = 0) (hn : ¬ PostOk mx D f ls) : pErr mx D f ls = 4 := by
  unfold pErr
  rw [if_neg h0, if_neg (by omega), if_neg (by rw [firstBad_ok h]; decide), if_neg (by omega), if_neg hn]
theorem pErr_ok (h : PostOk mx D f ls) : pErr mx D f ls = 0 := by
  unfold pErr
  rw [if_neg (by have := h.1; omega), if_neg (by have := h.2.1; omega), if_neg (by rw [firstBad_ok h.2.2.1]; decide), if_neg (by have := h.2.2.2.1; omega), if_pos h]
theorem pErr_not (h : ¬ PostOk mx D f ls) : pErr mx D f ls ≠ 0 := by
  unfold pErr
  split
  · decide
  · split
    · decide
    · split
      · assumption
      · split
        · decide
        · first | decide | (rw [if_neg h]; decide)
end
/-- The lines with one more written. -/
def writtenL (xs : List Ln) (l : Ln) : List Ln := (xs.filter fun x => decide (x.1 < l.1)) ++ [(l.1, l.2 + sumAt l.1 xs)] ++ xs.filter fun x => decide (l.1 < x.1)
theorem sumAt_app (s : List UInt8) : ∀ (xs ys : List Ln), sumAt s (xs ++ ys) = sumAt s xs + sumAt s ys
  | [], ys => by simp [sumAt]
  | x :: r, ys => by
    have := sumAt_app s r ys
    simp only [List.cons_append, sumAt, this]
    omega
/-- Rising names. -/
def Rises (xs : List Ln) : Prop := (xs.map (·.1)).Pairwise (fun a b => a < b)
theorem lt_irr (a : List UInt8) : ¬ a < a := List.lt_irrefl a
theorem Rises.written {xs : List Ln} (h : Rises xs) (l : Ln) : Rises (writtenL xs l) := by
  have hf : ∀ p : Ln → Bool, Rises (xs.filter p) := fun p => List.Pairwise.sublist ((List.filter_sublist (l := xs) (p := p)).map _) h
  unfold Rises writtenL at *
  rw [List.map_append, List.map_append, List.pairwise_append, List.pairwise_append]
  refine ⟨⟨hf _, by simp, ?_⟩, hf _, ?_⟩
  · intro a ha b hb
    obtain ⟨x, hx, rfl⟩ := List.mem_map.1 ha
    simp only [List.mem_filter, decide_eq_true_eq] at hx
    simp only [List.map_cons, List.map_nil, List.mem_singleton] at hb
    rw [hb]
    exact hx.2
  · intro a ha b hb
    obtain ⟨y, hy, rfl⟩ := List.mem_map.1 hb
    simp only [List.mem_filter, decide_eq_true_eq] at hy
    rcases List.mem_append.1 ha with ha | ha
    · obtain ⟨x, hx, rfl⟩ := List.mem_map.1 ha
      simp only [List.mem_filter, decide_eq_true_eq] at hx
      exact List.lt_trans hx.2 hy.2
    · simp only [List.map_cons, List.map_nil, List.mem_singleton] at ha
      rw [ha]
      exact hy.2
theorem mem_written {xs : List Ln} {l : Ln} {s : List UInt8} {v : Int} : (s, v) ∈ writtenL xs l ↔ (s = l.1 ∧ v = l.2 + sumAt l.1 xs) ∨ (s ≠ l.1 ∧ (s, v) ∈ xs) := by
  unfold writtenL
  simp only [List.mem_append, List.mem_filter, decide_eq_true_eq, List.mem_singleton, Prod.mk.injEq]
  constructor
  · rintro ((⟨h1, h2⟩ | h) | ⟨h1, h2⟩)
    · exact .inr ⟨fun e => lt_irr _ (e ▸ h2), h1⟩
    · exact .inl h
    · exact .inr ⟨fun e => lt_irr _ (e ▸ h2), h1⟩
  · rintro (h | ⟨h1, h2⟩)
    · exact .inl (.inr h)
    · by_cases h3 : s < l.1
      · exact .inl (.inl ⟨h2, h3⟩)
      · have h4 := List.not_lt.1 h3
        refine .inr ⟨h2, ?_⟩
        exact List.not_le.1 fun h5 => h1 (List.le_antisymm h5 h4)
/-- Two rising lists of the same lines are one. -/
theorem rises_eq {xs ys : List Ln} (hx : Rises xs) (hy : Rises ys) (h : ∀ l, l ∈ xs ↔ l ∈ ys) : xs = ys := by
  have hx' : xs.Pairwise (fun a b => a.1 < b.1) := List.pairwise_map.1 hx
  have hy' : ys.Pairwise (fun a b => a.1 < b.1) := List.pairwise_map.1 hy
  have nx : xs.Nodup := List.Pairwise.imp (fun {a b} (hab : a.1 < b.1) (e : a = b) => lt_irr b.1 (e ▸ hab)) hx'
  have ny : ys.Nodup := List.Pairwise.imp (fun {a b} (hab : a.1 < b.1) (e : a = b) => lt_irr b.1 (e ▸ hab)) hy'
  have hp : xs.Perm ys := (List.perm_ext_iff_of_nodup nx ny).2 h
  refine List.Perm.eq_of_pairwise (le := fun a b : Ln => a.1 < b.1) (fun a b _ _ h1 h2 => ?_) hx' hy' hp
  exact absurd (List.lt_trans h1 h2) (lt_irr _)
end Go.Proofs.YtjoplhpaefngkaaDoor
