/- What an entry does to a book: plain laws over the maps' words, with no program in sight. Conditions: named in each theorem. -/
import Derived.Test.YtjoplhpaefngkaaDoorFrame
import Derived.Maps.Own
import Derived.Maps.Views
namespace Go.Proofs.YtjoplhpaefngkaaDoor
open Go.RowKit Go.ChangeShapes Go.WideShapes Go.ChangeAt

/-- A line: a name's bytes and an amount. -/
abbrev Ln := List UInt8 × Int
def kOf (s : List UInt8) : Lit := .string s
/-- The map D reads as the numbers f, 0 where there is none. -/
structure Bk (D : DataW Unit) (f : List UInt8 → Int) : Prop where
  tidy : Maps.Tidy D
  at_ : ∀ k, D.atKey (kOf k) (.lit (.int .i64 0)) = .lit (.int .i64 (f k))
theorem bk_empty : Bk (.map [] : DataW Unit) (fun _ => 0) := ⟨Maps.tidy_empty, fun _ => rfl⟩
/-- f with so much more at k. -/
def more (f : List UInt8 → Int) (k : List UInt8) (a : Int) : List UInt8 → Int := fun j => if j = k then f k + a else f j
theorem isKey_kOf (s : List UInt8) : WideAt.IsKeyLit (kOf s) := by simp [kOf, WideAt.IsKeyLit]
theorem kOf_ne {s t : List UInt8} (h : s ≠ t) : kOf s ≠ kOf t := fun e => by
  unfold kOf at e
  injection e with e
  exact h e
theorem Bk.put {D : DataW Unit} {f : List UInt8 → Int} (h : Bk D f) (k : List UInt8) (a : Int) : Bk (D.put (kOf k) (.lit (.int .i64 (f k + a)))) (more f k a) := by
  refine ⟨h.tidy.put (isKey_kOf k) _, fun j => ?_⟩
  by_cases hj : j = k
  · subst hj
    rw [Maps.atKey_put_same h.tidy.isMap (isKey_kOf j)]
    simp [more]
  · rw [Maps.atKey_put_other (kOf_ne hj), h.at_ j]
    simp [more, hj]
/-- The numbers behind lines. -/
def addAll (f : List UInt8 → Int) : List Ln → List UInt8 → Int
  | [] => f
  | l :: r => addAll (more f l.1 l.2) r
/-- The map behind lines. -/
def putAll (D : DataW Unit) (f : List UInt8 → Int) : List Ln → DataW Unit
  | [] => D
  | l :: r => putAll (D.put (kOf l.1) (.lit (.int .i64 (f l.1 + l.2)))) (more f l.1 l.2) r
def sumAt (k : List UInt8) : List Ln → Int
  | [] => 0
  | l :: r => (if k = l.1 then l.2 else 0) + sumAt k r
def negAll (ls : List Ln) : List Ln := ls.map fun l => (l.1, -l.2)
def total (ls : List Ln) : Int := (ls.map (·.2)).sum
theorem addAll_eq (k : List UInt8) : ∀ (ls : List Ln) (f : List UInt8 → Int), addAll f ls k = f k + sumAt k ls
  | [], f => by simp [addAll, sumAt]
  | l :: r, f => by
    rw [addAll, addAll_eq k r, sumAt]
    unfold more
    by_cases h : k = l.1
    · rw [if_pos h, if_pos h, h]; omega
    · rw [if_neg h, if_neg h]; omega
theorem sumAt_neg (k : List UInt8) : ∀ ls : List Ln, sumAt k (negAll ls) = - sumAt k ls
  | [] => rfl
  | l :: r => by
    have := sumAt_neg k r
    simp only [negAll, List.map_cons, sumAt] at this ⊢
    rw [this]
    split <;> omega
theorem addAll_back (f : List UInt8 → Int) (ls : List Ln) (k : List UInt8) : addAll (addAll f ls) (negAll ls) k = f k := by
  rw [addAll_eq, addAll_eq, sumAt_neg]
  omega
theorem total_neg : ∀ ls : List Ln, total (negAll ls) = - total ls
  | [] => rfl
  | l :: r => by
    have := total_neg r
    simp only [total, negAll, List.map_cons, List.sum_cons] at this ⊢
    omega
theorem addAll_app (f : List UInt8 → Int) : ∀ (ls : List Ln) (l : Ln), addAll f (ls ++ [l]) = more (addAll f ls) l.1 l.2 := by
  intro ls
  induction ls generalizing f with
  | nil => intro l; rfl
  | cons x r ih => intro l; simp only [List.cons_append, addAll, ih]
theorem putAll_app : ∀ (ls : List Ln) (D : DataW Unit) (f : List UInt8 → Int) (l : Ln), putAll D f (ls ++ [l]) = (putAll D f ls).put (kOf l.1) (.lit (.int .i64 (addAll f ls l.1 + l.2)))
  | [], _, _, _ => rfl
  | x :: r, D, f, l => by simp only [List.cons_append, putAll, addAll]; exact putAll_app r _ _ l
theorem Bk.putAll : ∀ {ls : List Ln} {D : DataW Unit} {f : List UInt8 → Int}, Bk D f → Bk (putAll D f ls) (addAll f ls)
  | [], _, _, h => h
  | l :: r, D, f, h => by
    simp only [Go.Proofs.YtjoplhpaefngkaaDoor.putAll, addAll]
    exact Bk.putAll (h.put l.1 l.2)
theorem has_putAll (k : List UInt8) : ∀ (ls : List Ln) (D : DataW Unit) (f : List UInt8 → Int), Maps.Tidy D → Maps.has (putAll D f ls) (kOf k) = (Maps.has D (kOf k) || ls.any fun l => decide (l.1 = k))
  | [], D, f, _ => by simp [putAll]
  | l :: r, D, f, h => by
    simp only [putAll, List.any_cons]
    rw [has_putAll k r _ _ (h.put (isKey_kOf l.1) _)]
    by_cases hk : k = l.1
    · subst hk
      rw [Maps.has_put_same h.isMap (isKey_kOf l.1)]
      simp
    · rw [Maps.has_put_other (kOf_ne hk)]
      have : decide (l.1 = k) = false := by simp; exact fun e => hk e.symm
      rw [this, Bool.false_or]
theorem size_putAll_have : ∀ (ls : List Ln) (D : DataW Unit) (f : List UInt8 → Int), Maps.Tidy D → (∀ l ∈ ls, Maps.has D (kOf l.1) = true) → Maps.size (putAll D f ls) = Maps.size D
  | [], D, f, _, _ => rfl
  | l :: r, D, f, h, hh => by
    simp only [putAll]
    rw [size_putAll_have r _ _ (h.put (isKey_kOf l.1) _) (fun x hx => ?_), Maps.size_put h, if_pos (hh l (by simp))]
    by_cases hk : kOf x.1 = kOf l.1
    · rw [hk]; exact Maps.has_put_same h.isMap (isKey_kOf l.1) _
    · rw [Maps.has_put_other hk]; exact hh x (by simp [hx])

def Within (n : Int) : Prop := -1125899906842624 ≤ n ∧ n ≤ 1125899906842624
/-- A line that may be posted. -/
def LnOk (l : Ln) : Prop := 0 < l.1.length ∧ l.1.length ≤ 30 ∧ Within l.2
/-- An entry that may be posted on D, f. -/
def PostOk (mx : Nat) (D : DataW Unit) (f : List UInt8 → Int) (ls : List Ln) : Prop :=
  0 < ls.length ∧ ls.length ≤ mx ∧ (∀ l ∈ ls, LnOk l) ∧ total ls = 0 ∧ (∀ k, Maps.has (putAll D f ls) (kOf k) = true → Within (addAll f ls k)) ∧ Maps.size (putAll D f ls) ≤ mx
/-- All numbers that are there are within; no more names than mx. -/
def Fine (mx : Nat) (D : DataW Unit) (f : List UInt8 → Int) : Prop := Bk D f ∧ (∀ k, Maps.has D (kOf k) = true → Within (f k)) ∧ Maps.size D ≤ mx
theorem fine_empty {mx : Nat} : Fine mx (.map [] : DataW Unit) (fun _ => 0) := ⟨bk_empty, fun _ _ => by unfold Within; simp only; omega, Nat.zero_le _⟩
theorem Fine.post {mx : Nat} {D : DataW Unit} {f : List UInt8 → Int} {ls : List Ln} (h : Fine mx D f) (hp : PostOk mx D f ls) : Fine mx (putAll D f ls) (addAll f ls) :=
  ⟨h.1.putAll, hp.2.2.2.2.1, hp.2.2.2.2.2⟩
/-- PACIOLI, ONE ENTRY: what was posted can be posted the other way round, and all is as it was. -/
theorem Fine.back {mx : Nat} {D : DataW Unit} {f : List UInt8 → Int} {ls : List Ln} (h : Fine mx D f) (hp : PostOk mx D f ls) : PostOk mx (putAll D f ls) (addAll f ls) (negAll ls) := by
  have hF := h.post hp
  obtain ⟨h1, h2, h3, h4, h5, h6⟩ := hp
  have hhave : ∀ l ∈ negAll ls, Maps.has (putAll D f ls) (kOf l.1) = true := by
    intro l hl
    obtain ⟨x, hx, rfl⟩ := List.mem_map.1 hl
    rw [has_putAll _ _ _ _ h.1.tidy]
    simp only [Bool.or_eq_true, List.any_eq_true]
    exact .inr ⟨x, hx, by simp⟩
  refine ⟨by simpa [negAll] using h1, by simpa [negAll] using h2, ?_, by rw [total_neg, h4]; rfl, ?_, ?_⟩
  · intro l hl
    obtain ⟨x, hx, rfl⟩ := List.mem_map.1 hl
    obtain ⟨g1, g2, g3⟩ := h3 x hx
    refine ⟨g1, g2, ?_⟩
    unfold Within at *
    simp only
    omega
  · intro k hk
    rw [addAll_back]
    have hk' : Maps.has (putAll D f ls) (kOf k) = true := by
      rw [has_putAll _ _ _ _ hF.1.tidy] at hk
      rcases Bool.or_eq_true _ _ ▸ hk with hk | hk
      · exact hk
      · obtain ⟨l, hl, e⟩ := List.any_eq_true.1 hk
        have := hhave l hl
        rw [← of_decide_eq_true e]
        exact this
    by_cases hD : Maps.has D (kOf k) = true
    · exact h.2.1 k hD
    · have e0 : f k = 0 := by
        have h0 := h.1.at_ k
        rw [Maps.atKey_of_not_has (by simpa using hD)] at h0
        injection h0 with h0
        injection h0 with h0 h1
        exact h1.symm
      rw [e0]
      unfold Within
      omega
  · rw [size_putAll_have _ _ _ hF.1.tidy hhave]
    exact h6
end Go.Proofs.YtjoplhpaefngkaaDoor
