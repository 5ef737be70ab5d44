/- The least choice that is enough: what it is, that none is less. Plain laws. No program in sight. Conditions: named in each theorem. -/
import Derived.Test.YtgickjghfndaaaaDoorPickE
namespace Go.Proofs.YtgickjghfndaaaaDoor

structure Cho where
  s : Int
  k : Int
  tk : Bool
  can : Bool
/-- Less, or as much with no more. -/
def Lex (a b c d : Int) : Prop := a < c ∨ (a = c ∧ b ≤ d)
instance {a b c d : Int} : Decidable (Lex a b c d) := by unfold Lex; infer_instance
def joinF (a : Int) (x y : Cho) : Cho := if y.can = true ∧ (x.can = false ∨ Lex (y.s + a) (y.k + 1) x.s x.k) then ⟨y.s + a, y.k + 1, true, true⟩ else ⟨x.s, x.k, false, x.can⟩
def bestF : List Int → Int → Cho
  | [], want => if want ≤ 0 then ⟨0, 0, false, true⟩ else ⟨0, 0, false, false⟩
  | a :: r, want => if want ≤ 0 then ⟨0, 0, false, true⟩ else joinF a (bestF r want) (bestF r (want - a))
theorem bestF_low (ns : List Int) {want : Int} (h : want ≤ 0) : bestF ns want = ⟨0, 0, false, true⟩ := by
  cases ns <;> unfold bestF <;> rw [if_pos h]
theorem bestF_nil {want : Int} (h : ¬ want ≤ 0) : bestF [] want = ⟨0, 0, false, false⟩ := by unfold bestF; rw [if_neg h]
theorem bestF_cons (a : Int) (r : List Int) {want : Int} (h : ¬ want ≤ 0) : bestF (a :: r) want = joinF a (bestF r want) (bestF r (want - a)) := by
  conv => lhs; unfold bestF
  rw [if_neg h]
theorem sum_pos {l : List Int} (hl : ∀ x ∈ l, 0 ≤ x) : 0 ≤ l.sum := by
  induction l with
  | nil => exact Int.le_refl _
  | cons x r ih =>
    rw [List.sum_cons]
    have := hl x (by simp)
    have := ih fun y hy => hl y (by simp [hy])
    omega
theorem bestF_in : ∀ (ns : List Int), (∀ x ∈ ns, 0 ≤ x) → ∀ want, 0 ≤ (bestF ns want).s ∧ (bestF ns want).s ≤ ns.sum ∧ 0 ≤ (bestF ns want).k ∧ (bestF ns want).k ≤ ns.length
  | [], _, want => by unfold bestF; split <;> simp
  | a :: r, h, want => by
    have h0 := h a (by simp)
    have hr : ∀ x ∈ r, 0 ≤ x := fun x hx => h x (by simp [hx])
    by_cases hw : want ≤ 0
    · rw [bestF_low _ hw]
      have := sum_pos h
      simp only [List.length_cons]
      omega
    · rw [bestF_cons _ _ hw]
      have i1 := bestF_in r hr want
      have i2 := bestF_in r hr (want - a)
      unfold joinF
      rw [List.sum_cons, List.length_cons]
      split
      · simp only []; omega
      · simp only []; omega
/-- The amounts that are picked, and their places. -/
def valsF : List Int → Int → List Int
  | [], _ => []
  | a :: r, want => if (bestF (a :: r) want).tk = true then a :: valsF r (want - a) else valsF r want
def pickF : List Int → Int → Int → List Int
  | [], _, _ => []
  | a :: r, i, want => if (bestF (a :: r) want).tk = true then i :: pickF r (i + 1) (want - a) else pickF r (i + 1) want
theorem valsF_low : ∀ (ns : List Int) {want : Int}, want ≤ 0 → valsF ns want = []
  | [], _, _ => rfl
  | a :: r, want, h => by
    unfold valsF
    rw [bestF_low _ h, if_neg (by simp)]
    exact valsF_low r h
theorem valsF_sub : ∀ (ns : List Int) (want : Int), (valsF ns want).Sublist ns
  | [], _ => by unfold valsF; exact List.Sublist.refl _
  | a :: r, want => by
    unfold valsF
    split
    · exact (valsF_sub r _).cons_cons a
    · exact (valsF_sub r _).cons a
theorem valsF_sum : ∀ (ns : List Int) (want : Int), (bestF ns want).can = true → (valsF ns want).sum = (bestF ns want).s ∧ ((valsF ns want).length : Int) = (bestF ns want).k ∧ want ≤ (bestF ns want).s
  | [], want, h => by
    by_cases hw : want ≤ 0
    · rw [bestF_low _ hw]; simp [valsF, hw]
    · rw [bestF_nil hw] at h; simp at h
  | a :: r, want, h => by
    by_cases hw : want ≤ 0
    · rw [bestF_low _ hw, valsF_low _ hw]; simp [hw]
    · unfold valsF
      rw [bestF_cons _ _ hw] at h ⊢
      by_cases hj : (bestF r (want - a)).can = true ∧ ((bestF r want).can = false ∨ Lex ((bestF r (want - a)).s + a) ((bestF r (want - a)).k + 1) (bestF r want).s (bestF r want).k)
      · have i := valsF_sum r (want - a) hj.1
        have e : joinF a (bestF r want) (bestF r (want - a)) = ⟨(bestF r (want - a)).s + a, (bestF r (want - a)).k + 1, true, true⟩ := by unfold joinF; rw [if_pos hj]
        rw [e, if_pos rfl, List.sum_cons, List.length_cons]
        simp only []
        omega
      · have e : joinF a (bestF r want) (bestF r (want - a)) = ⟨(bestF r want).s, (bestF r want).k, false, (bestF r want).can⟩ := by unfold joinF; rw [if_neg hj]
        rw [e] at h ⊢
        rw [if_neg (by simp)]
        exact valsF_sum r want h
/-- BELLMAN: none that is enough is less, nor as much with fewer. -/
theorem bestF_least : ∀ (ns : List Int), (∀ x ∈ ns, 0 ≤ x) → ∀ (want : Int) (c : List Int), c.Sublist ns → want ≤ c.sum → (bestF ns want).can = true ∧ Lex (bestF ns want).s (bestF ns want).k c.sum c.length
  | [], _, want, c, hc, hw => by
    obtain rfl := List.sublist_nil.1 hc
    rw [bestF_low _ (by simpa using hw)]
    exact ⟨rfl, .inr ⟨rfl, by simp⟩⟩
  | a :: r, h, want, c, hc, hw => by
    have h0 := h a (by simp)
    have hr : ∀ x ∈ r, 0 ≤ x := fun x hx => h x (by simp [hx])
    by_cases hl : want ≤ 0
    · rw [bestF_low _ hl]
      refine ⟨rfl, ?_⟩
      have hp := sum_pos (l := c) fun x hx => h x (hc.subset hx)
      unfold Lex
      simp only []
      omega
    · rw [bestF_cons _ _ hl]
      by_cases hj : (bestF r (want - a)).can = true ∧ ((bestF r want).can = false ∨ Lex ((bestF r (want - a)).s + a) ((bestF r (want - a)).k + 1) (bestF r want).s (bestF r want).k)
      · have e : joinF a (bestF r want) (bestF r (want - a)) = ⟨(bestF r (want - a)).s + a, (bestF r (want - a)).k + 1, true, true⟩ := by unfold joinF; rw [if_pos hj]
        rw [e]
        refine ⟨rfl, ?_⟩
        simp only []
        rcases List.sublist_cons_iff.1 hc with hc | ⟨c', rfl, hc2⟩
        · obtain ⟨i1, i2⟩ := bestF_least r hr want c hc hw
          rcases hj.2 with h9 | h9
          · rw [i1] at h9; cases h9
          · unfold Lex at *; omega
        · rw [List.sum_cons] at hw ⊢
          obtain ⟨i1, i2⟩ := bestF_least r hr (want - a) c' hc2 (by omega)
          rw [List.length_cons]
          unfold Lex at *
          omega
      · have e : joinF a (bestF r want) (bestF r (want - a)) = ⟨(bestF r want).s, (bestF r want).k, false, (bestF r want).can⟩ := by unfold joinF; rw [if_neg hj]
        rw [e]
        simp only []
        rcases List.sublist_cons_iff.1 hc with hc | ⟨c', rfl, hc2⟩
        · exact bestF_least r hr want c hc hw
        · rw [List.sum_cons] at hw ⊢
          obtain ⟨i1, i2⟩ := bestF_least r hr (want - a) c' hc2 (by omega)
          rw [List.length_cons]
          have h9 : (bestF r want).can = true ∧ ¬ Lex ((bestF r (want - a)).s + a) ((bestF r (want - a)).k + 1) (bestF r want).s (bestF r want).k := by
            cases hx : (bestF r want).can
            · exact absurd ⟨i1, .inl hx⟩ hj
            · exact ⟨rfl, fun hl => hj ⟨i1, .inr hl⟩⟩
          refine ⟨h9.1, ?_⟩
          have h8 := h9.2
          unfold Lex at *
          omega
theorem pickF_vals {g : Int → Int} : ∀ (ns : List Int) (i want : Int), (∀ j : Nat, j < ns.length → g (i + j) = nth ns j) → (pickF ns i want).map g = valsF ns want
  | [], _, _, _ => rfl
  | a :: r, i, want, h => by
    have h0 : g i = a := by have := h 0 (by simp); simpa [nth] using this
    have hr : ∀ j : Nat, j < r.length → g (i + 1 + j) = nth r j := fun j hj => by
      have := h (j + 1) (by simp; omega)
      rw [show i + 1 + (j : Int) = i + ((j + 1 : Nat) : Int) by omega, this]
      simp [nth]
    unfold pickF valsF
    split
    · rw [List.map_cons, h0, pickF_vals r _ _ hr]
    · exact pickF_vals r _ _ hr
theorem pickF_in : ∀ (ns : List Int) (i want : Int), (∀ x ∈ pickF ns i want, i ≤ x ∧ x < i + ns.length) ∧ Rise (pickF ns i want)
  | [], i, want => by unfold pickF; exact ⟨by simp, List.Pairwise.nil⟩
  | a :: r, i, want => by
    have i1 := pickF_in r (i + 1) want
    have i2 := pickF_in r (i + 1) (want - a)
    unfold pickF
    rw [List.length_cons]
    split
    · refine ⟨fun x hx => ?_, List.pairwise_cons.2 ⟨fun x hx => ?_, i2.2⟩⟩
      · rcases List.mem_cons.1 hx with rfl | hx
        · omega
        · have := i2.1 x hx; omega
      · have := i2.1 x hx; omega
    · exact ⟨fun x hx => by have := i1.1 x hx; omega, i1.2⟩
/-- How often the memory is written, at most, with so many amounts left. -/
def cap : Nat → Nat
  | 0 => 0
  | m + 1 => cap m + cap m + 1
theorem cap_lt : ∀ m, cap m + 1 ≤ 2 ^ m
  | 0 => by simp [cap]
  | m + 1 => by
    have := cap_lt m
    unfold cap
    rw [Nat.pow_succ]
    omega
theorem cap_30 {m : Nat} (h : m ≤ 30) : cap m < 1073741824 := by
  have h1 := cap_lt m
  have h2 : 2 ^ m ≤ 2 ^ 30 := Nat.pow_le_pow_right (by decide) h
  have h3 : 2 ^ 30 = 1073741824 := by decide
  omega
end Go.Proofs.YtgickjghfndaaaaDoor
