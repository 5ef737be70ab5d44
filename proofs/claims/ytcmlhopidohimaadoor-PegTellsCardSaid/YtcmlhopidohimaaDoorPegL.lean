/- Piles as lists: what is put at a key; what one has; what all have. Plain law, no program in sight. Conditions: named in each theorem. -/
import Derived.Test.YtcmlhopidohimaaDoorPegH
namespace Go.Proofs.YtcmlhopidohimaaDoor
open Go.RowKit Go.ChangeShapes Go.WideShapes Go.ChangeAt

section
variable {α : Type} {key : α → Int}
/-- What rises is parted at a key: those below, the one at it if it is there, those above. -/
theorem asc_part (t : Int) : ∀ {xs : List α}, Asc key xs →
    (∃ a b, xs = a ++ b ∧ lbN key t xs = a.length ∧ hasB key t xs = false ∧ (∀ x ∈ a, key x < t) ∧ ∀ x ∈ b, t < key x) ∨
    (∃ a y b, xs = a ++ y :: b ∧ lbN key t xs = a.length ∧ hasB key t xs = true ∧ key y = t ∧ (∀ x ∈ a, key x < t) ∧ ∀ x ∈ b, t < key x)
  | [], _ => .inl ⟨[], [], rfl, rfl, rfl, by simp, by simp⟩
  | x :: r, h => by
    have hr := List.pairwise_cons.1 h
    by_cases h1 : key x < t
    · have e1 : lbN key t (x :: r) = lbN key t r + 1 := by
        unfold lbN
        rw [List.countP_cons_of_pos (by simpa using h1)]
      have e2 : hasB key t (x :: r) = hasB key t r := by
        unfold hasB
        rw [e1, List.getElem?_cons_succ]
      rcases asc_part t hr.2 with ⟨a, b, rfl, q1, q2, q3, q4⟩ | ⟨a, y, b, rfl, q1, q2, q3, q4, q5⟩
      · refine .inl ⟨x :: a, b, rfl, by rw [e1, q1]; rfl, by rw [e2, q2], ?_, q4⟩
        intro z hz
        rcases List.mem_cons.1 hz with rfl | hz
        · exact h1
        · exact q3 z hz
      · refine .inr ⟨x :: a, y, b, rfl, by rw [e1, q1]; rfl, by rw [e2, q2], q3, ?_, q5⟩
        intro z hz
        rcases List.mem_cons.1 hz with rfl | hz
        · exact h1
        · exact q4 z hz
    · have hall : ∀ z ∈ x :: r, ¬ key z < t := by
        intro z hz
        rcases List.mem_cons.1 hz with rfl | hz
        · exact h1
        · have := hr.1 z hz
          omega
      have e1 : lbN key t (x :: r) = 0 := by
        unfold lbN
        rw [List.countP_eq_zero]
        intro z hz
        simpa using hall z hz
      by_cases h2 : key x = t
      · refine .inr ⟨[], x, r, rfl, e1, ?_, h2, by simp, fun z hz => by have := hr.1 z hz; omega⟩
        unfold hasB
        rw [e1]
        simp [h2]
      · refine .inl ⟨[], x :: r, rfl, e1, ?_, by simp, ?_⟩
        · unfold hasB
          rw [e1]
          simp [h2]
        · intro z hz
          rcases List.mem_cons.1 hz with rfl | hz
          · omega
          · have := hr.1 z hz
            omega
theorem filt_lo {t : Int} {a b : List α} (ha : ∀ x ∈ a, key x < t) (hb : ∀ x ∈ b, ¬ key x < t) : (a ++ b).filter (fun x => decide (key x < t)) = a := by
  rw [List.filter_append, List.filter_eq_self.2 (fun x hx => by simpa using ha x hx), List.filter_eq_nil_iff.2 (fun x hx => by simpa using hb x hx), List.append_nil]
theorem filt_hi {t : Int} {a b : List α} (ha : ∀ x ∈ a, ¬ t < key x) (hb : ∀ x ∈ b, t < key x) : (a ++ b).filter (fun x => decide (t < key x)) = b := by
  have e1 : b.filter (fun x => decide (t < key x)) = b := List.filter_eq_self.2 (fun x hx => by simpa using hb x hx)
  have e2 : a.filter (fun x => decide (t < key x)) = [] := List.filter_eq_nil_iff.2 (fun x hx => by simpa using ha x hx)
  rw [List.filter_append, e1, e2, List.nil_append]
/-- What is put at its place among what rises. -/
def insK (key : α → Int) (y : α) (xs : List α) : List α := xs.filter (fun x => decide (key x < key y)) ++ y :: xs.filter (fun x => decide (key y < key x))
theorem insK_lb {xs : List α} (h : Asc key xs) (y : α) (hh : hasB key (key y) xs = false) : xs.take (lbN key (key y) xs) ++ y :: xs.drop (lbN key (key y) xs) = insK key y xs := by
  rcases asc_part (key y) h with ⟨a, b, rfl, q1, -, q3, q4⟩ | ⟨a, z, b, -, -, q2, -⟩
  · unfold insK
    rw [q1, List.take_left' rfl, List.drop_left' rfl, filt_lo q3 (fun x hx => by have := q4 x hx; omega), filt_hi (fun x hx => by have := q3 x hx; omega) q4]
  · rw [hh] at q2
    cases q2
theorem asc_insK {xs : List α} (h : Asc key xs) (y : α) : Asc key (insK key y xs) := by
  unfold insK Asc
  rw [List.pairwise_append]
  refine ⟨h.filter _, List.pairwise_cons.2 ⟨fun z hz => by simpa using (List.mem_filter.1 hz).2, h.filter _⟩, ?_⟩
  intro u hu v hv
  have h1 : key u < key y := by simpa using (List.mem_filter.1 hu).2
  rcases List.mem_cons.1 hv with rfl | hv
  · exact h1
  · have h2 : key y < key v := by simpa using (List.mem_filter.1 hv).2
    omega
theorem has_not {t : Int} {xs : List α} (h : Asc key xs) (hh : hasB key t xs = false) : ∀ x ∈ xs, key x ≠ t := by
  rcases asc_part t h with ⟨a, b, rfl, -, -, q3, q4⟩ | ⟨a, z, b, -, -, q2, -⟩
  · intro x hx
    rcases List.mem_append.1 hx with hx | hx
    · have := q3 x hx
      omega
    · have := q4 x hx
      omega
  · rw [hh] at q2
    cases q2
theorem len_insK {xs : List α} (h : Asc key xs) (y : α) (hh : hasB key (key y) xs = false) : (insK key y xs).length = xs.length + 1 := by
  rw [← insK_lb h y hh, List.length_append, List.length_cons, List.length_take, List.length_drop]
  have : lbN key (key y) xs ≤ xs.length := List.countP_le_length
  omega
theorem mem_insK {xs : List α} {y z : α} (hz : z ∈ insK key y xs) : z = y ∨ z ∈ xs := by
  unfold insK at hz
  rcases List.mem_append.1 hz with hz | hz
  · exact .inr (List.mem_filter.1 hz).1
  · rcases List.mem_cons.1 hz with hz | hz
    · exact .inl hz
    · exact .inr (List.mem_filter.1 hz).1
/-- A sum over what rises, in three parts. -/
theorem sum_part (f : α → Int) (t : Int) : ∀ xs : List α, (xs.map f).sum = ((xs.filter (fun x => decide (key x < t))).map f).sum + ((xs.filter (fun x => decide (key x = t))).map f).sum + ((xs.filter (fun x => decide (t < key x))).map f).sum
  | [] => by simp
  | x :: r => by
    have ih := sum_part f t r
    rw [List.map_cons, List.sum_cons, ih]
    rcases Int.lt_trichotomy (key x) t with h | h | h
    · rw [List.filter_cons_of_pos (by simpa using h), List.filter_cons_of_neg (by simp; omega), List.filter_cons_of_neg (by simp; omega), List.map_cons, List.sum_cons]
      omega
    · rw [List.filter_cons_of_neg (by simp; omega), List.filter_cons_of_pos (by simpa using h), List.filter_cons_of_neg (by simp; omega), List.map_cons, List.sum_cons]
      omega
    · rw [List.filter_cons_of_neg (by simp; omega), List.filter_cons_of_neg (by simp; omega), List.filter_cons_of_pos (by simpa using h), List.map_cons, List.sum_cons]
      omega
end

/-- What one has, of piles of whatever order. -/
def amtS (t : Int) (ps : List (Int × Int)) : Int := ((ps.filter (fun x => decide (keyP x = t))).map (·.2)).sum
def sumAll (ps : List (Int × Int)) : Int := (ps.map (·.2)).sum
/-- What one has is n, then. -/
def setP (t n : Int) (ps : List (Int × Int)) : List (Int × Int) := ps.filter (fun x => decide (keyP x < t)) ++ (if n = 0 then [] else [(t, n)]) ++ ps.filter (fun x => decide (t < keyP x))
theorem amtP_eq {ps : List (Int × Int)} (h : Asc keyP ps) (t : Int) : amtP t ps = amtS t ps := by
  rcases asc_part t h with ⟨a, b, rfl, q1, q2, q3, q4⟩ | ⟨a, y, b, rfl, q1, q2, q0, q3, q4⟩
  · unfold amtP amtS
    rw [q2, List.filter_append, List.filter_eq_nil_iff.2 (fun x hx => by have := q3 x hx; simp; omega), List.filter_eq_nil_iff.2 (fun x hx => by have := q4 x hx; simp; omega)]
    rfl
  · unfold amtP amtS
    rw [q2, q1, List.filter_append, List.filter_eq_nil_iff.2 (fun x hx => by have := q3 x hx; simp; omega), List.filter_cons_of_pos (by simpa using q0), List.filter_eq_nil_iff.2 (fun x hx => by have := q4 x hx; simp; omega)]
    simp [List.getD_eq_getElem?_getD]
theorem moreP_set {ps : List (Int × Int)} (h : Asc keyP ps) (t d : Int) : moreP t d ps = setP t (amtS t ps + d) ps := by
  rw [← amtP_eq h]
  rcases asc_part t h with ⟨a, b, rfl, q1, q2, q3, q4⟩ | ⟨a, ⟨y0, y⟩, b, rfl, q1, q2, q0, q3, q4⟩
  · unfold moreP putP amtP setP
    rw [q2, q1, filt_lo q3 (fun x hx => by have := q4 x hx; omega), filt_hi (fun x hx => by have := q3 x hx; omega) q4]
    simp only [Bool.false_eq_true, if_false, List.take_left' rfl, List.drop_left' rfl, Int.zero_add]
    unfold addP
    have hg : (a ++ (t, (0 : Int)) :: b).getD a.length (0, 0) = (t, 0) := by simp [List.getD_eq_getElem?_getD]
    rw [hg]
    simp only [Int.zero_add]
    by_cases hd : d = 0
    · rw [if_pos hd, if_pos hd, List.take_left' rfl, ← List.drop_drop, List.drop_left' rfl]
      simp
    · rw [if_neg hd, if_neg hd]
      simp
  · replace q0 : y0 = t := q0
    subst q0
    unfold moreP putP amtP setP
    have hg : (a ++ (y0, y) :: b).getD a.length (0, 0) = (y0, y) := by simp [List.getD_eq_getElem?_getD]
    have f1 : (a ++ (y0, y) :: b).filter (fun x => decide (keyP x < y0)) = a := filt_lo q3 (fun x hx => by
      rcases List.mem_cons.1 hx with rfl | hx
      · exact Int.lt_irrefl _
      · have := q4 x hx
        omega)
    have f2 : (a ++ (y0, y) :: b).filter (fun x => decide (y0 < keyP x)) = b := by
      rw [show a ++ (y0, y) :: b = (a ++ [(y0, y)]) ++ b by simp]
      refine filt_hi (fun x hx => ?_) q4
      rcases List.mem_append.1 hx with hx | hx
      · have := q3 x hx
        omega
      · rcases List.mem_cons.1 hx with rfl | hx
        · exact Int.lt_irrefl _
        · cases hx
    rw [f1, f2, q2, q1]
    simp only [if_true]
    unfold addP
    rw [hg]
    by_cases hd : y + d = 0
    · rw [if_pos hd, if_pos hd, List.take_left' rfl, ← List.drop_drop, List.drop_left' rfl]
      simp
    · rw [if_neg hd, if_neg hd]
      simp
theorem asc_setP {ps : List (Int × Int)} (h : Asc keyP ps) (t n : Int) : Asc keyP (setP t n ps) := by
  have h1 := asc_insK h (t, n)
  unfold setP
  by_cases hn : n = 0
  · rw [if_pos hn, List.append_nil]
    exact h1.sublist (List.Sublist.append (List.Sublist.refl _) (List.sublist_cons_self _ _))
  · rw [if_neg hn, List.append_assoc]
    exact h1
theorem mem_setP {ps : List (Int × Int)} {t n : Int} {x : Int × Int} (hx : x ∈ setP t n ps) : x = (t, n) ∧ n ≠ 0 ∨ x ∈ ps := by
  unfold setP at hx
  rcases List.mem_append.1 hx with hx | hx
  · rcases List.mem_append.1 hx with hx | hx
    · exact .inr (List.mem_filter.1 hx).1
    · by_cases hn : n = 0
      · rw [if_pos hn] at hx
        cases hx
      · rw [if_neg hn, List.mem_singleton] at hx
        exact .inl ⟨hx, hn⟩
  · exact .inr (List.mem_filter.1 hx).1
theorem amtS_same (t n : Int) (ps : List (Int × Int)) : amtS t (setP t n ps) = n := by
  unfold amtS setP
  rw [List.filter_append, List.filter_append, List.filter_filter, List.filter_filter]
  have e1 : ps.filter (fun a => decide (keyP a = t) && decide (keyP a < t)) = [] := List.filter_eq_nil_iff.2 (fun x _ => by simp; omega)
  have e2 : ps.filter (fun a => decide (keyP a = t) && decide (t < keyP a)) = [] := List.filter_eq_nil_iff.2 (fun x _ => by simp; omega)
  rw [e1, e2]
  by_cases hn : n = 0
  · rw [if_pos hn]
    simp [hn]
  · rw [if_neg hn]
    simp [keyP]
theorem amtS_other {t u : Int} (h : u ≠ t) (n : Int) : ∀ ps : List (Int × Int), amtS u (setP t n ps) = amtS u ps := by
  have hm : ((if n = 0 then [] else [(t, n)]) : List (Int × Int)).filter (fun x => decide (keyP x = u)) = [] := by
    split
    · rfl
    · have h' : ¬ (t = u) := fun e => h e.symm
      rw [List.filter_cons_of_neg (by simp [keyP, h'])]
      rfl
  intro ps
  unfold amtS setP
  rw [List.filter_append, List.filter_append, hm, List.append_nil, List.map_append, List.sum_append, List.filter_filter, List.filter_filter]
  induction ps with
  | nil => simp
  | cons x r ih =>
    rcases Int.lt_trichotomy (keyP x) t with h1 | h1 | h1
    · by_cases h2 : keyP x = u
      · rw [List.filter_cons_of_pos (by simp; omega), List.filter_cons_of_neg (by simp; omega), List.filter_cons_of_pos (by simpa using h2), List.map_cons, List.sum_cons, List.map_cons, List.sum_cons]
        omega
      · rw [List.filter_cons_of_neg (by simp; omega), List.filter_cons_of_neg (by simp; omega), List.filter_cons_of_neg (by simpa using h2)]
        exact ih
    · rw [List.filter_cons_of_neg (by simp; omega), List.filter_cons_of_neg (by simp; omega), List.filter_cons_of_neg (by simp; omega)]
      exact ih
    · by_cases h2 : keyP x = u
      · rw [List.filter_cons_of_neg (by simp; omega), List.filter_cons_of_pos (by simp; omega), List.filter_cons_of_pos (by simpa using h2), List.map_cons, List.sum_cons, List.map_cons, List.sum_cons]
        omega
      · rw [List.filter_cons_of_neg (by simp; omega), List.filter_cons_of_neg (by simp; omega), List.filter_cons_of_neg (by simpa using h2)]
        exact ih
theorem sum_setP (t n : Int) (ps : List (Int × Int)) : sumAll (setP t n ps) = sumAll ps - amtS t ps + n := by
  have h := sum_part (key := keyP) (·.2) t ps
  have hm : (((if n = 0 then [] else [(t, n)]) : List (Int × Int)).map (·.2)).sum = n := by
    split
    · rename_i hn
      simp [hn]
    · simp
  unfold sumAll setP amtS
  rw [List.map_append, List.map_append, List.sum_append, List.sum_append, hm]
  omega
theorem setP_setP (t n m : Int) (ps : List (Int × Int)) : setP t m (setP t n ps) = setP t m ps := by
  have e1 : (setP t n ps).filter (fun x => decide (keyP x < t)) = ps.filter (fun x => decide (keyP x < t)) := by
    unfold setP
    rw [List.filter_append, List.filter_append, List.filter_filter, List.filter_filter]
    have e0 : ps.filter (fun a => decide (keyP a < t) && decide (t < keyP a)) = [] := List.filter_eq_nil_iff.2 (fun x _ => by simp; omega)
    rw [e0, List.append_nil]
    have hm : ((if n = 0 then [] else [(t, n)]) : List (Int × Int)).filter (fun x => decide (keyP x < t)) = [] := by
      split
      · rfl
      · rw [List.filter_cons_of_neg (by simp [keyP])]
        rfl
    rw [hm, List.append_nil]
    congr 1
    funext x
    simp
  have e2 : (setP t n ps).filter (fun x => decide (t < keyP x)) = ps.filter (fun x => decide (t < keyP x)) := by
    unfold setP
    rw [List.filter_append, List.filter_append, List.filter_filter, List.filter_filter]
    have e0 : ps.filter (fun a => decide (t < keyP a) && decide (keyP a < t)) = [] := List.filter_eq_nil_iff.2 (fun x _ => by simp; omega)
    rw [e0, List.nil_append]
    have hm : ((if n = 0 then [] else [(t, n)]) : List (Int × Int)).filter (fun x => decide (t < keyP x)) = [] := by
      split
      · rfl
      · rw [List.filter_cons_of_neg (by simp [keyP])]
        rfl
    rw [hm, List.nil_append]
    congr 1
    funext x
    simp
  have h1 : setP t m (setP t n ps) = (setP t n ps).filter (fun x => decide (keyP x < t)) ++ (if m = 0 then [] else [(t, m)]) ++ (setP t n ps).filter (fun x => decide (t < keyP x)) := rfl
  rw [h1, e1, e2]
  rfl
theorem setP_amt {ps : List (Int × Int)} (h : Asc keyP ps) (hz : ∀ x ∈ ps, x.2 ≠ 0) (t : Int) : setP t (amtS t ps) ps = ps := by
  rw [← amtP_eq h]
  rcases asc_part t h with ⟨a, b, rfl, q1, q2, q3, q4⟩ | ⟨a, ⟨y0, y⟩, b, rfl, q1, q2, q0, q3, q4⟩
  · unfold setP amtP
    rw [q2, filt_lo q3 (fun x hx => by have := q4 x hx; omega), filt_hi (fun x hx => by have := q3 x hx; omega) q4]
    simp
  · replace q0 : y0 = t := q0
    subst q0
    have hy : y ≠ 0 := hz (y0, y) (by simp)
    have f1 : (a ++ (y0, y) :: b).filter (fun x => decide (keyP x < y0)) = a := filt_lo q3 (fun x hx => by
      rcases List.mem_cons.1 hx with rfl | hx
      · exact Int.lt_irrefl _
      · have := q4 x hx
        omega)
    have f2 : (a ++ (y0, y) :: b).filter (fun x => decide (y0 < keyP x)) = b := by
      rw [show a ++ (y0, y) :: b = (a ++ [(y0, y)]) ++ b by simp]
      refine filt_hi (fun x hx => ?_) q4
      rcases List.mem_append.1 hx with hx | hx
      · have := q3 x hx
        omega
      · rcases List.mem_cons.1 hx with rfl | hx
        · exact Int.lt_irrefl _
        · cases hx
    have hg : (a ++ (y0, y) :: b).getD a.length (0, 0) = (y0, y) := by simp [List.getD_eq_getElem?_getD]
    unfold setP amtP
    rw [f1, f2, q2, q1, hg]
    simp [hy]
theorem len_setP (t n : Int) (ps : List (Int × Int)) : (setP t n ps).length ≤ ps.length + 1 := by
  have h3 : ∀ qs : List (Int × Int), (qs.filter (fun x => decide (keyP x < t))).length + (qs.filter (fun x => decide (t < keyP x))).length ≤ qs.length := by
    intro qs
    induction qs with
    | nil => simp
    | cons x r ih =>
      rcases Int.lt_trichotomy (keyP x) t with h1 | h1 | h1
      · rw [List.filter_cons_of_pos (by simpa using h1), List.filter_cons_of_neg (by simp; omega)]
        simp only [List.length_cons]
        omega
      · rw [List.filter_cons_of_neg (by simp; omega), List.filter_cons_of_neg (by simp; omega)]
        simp only [List.length_cons]
        omega
      · rw [List.filter_cons_of_neg (by simp; omega), List.filter_cons_of_pos (by simpa using h1)]
        simp only [List.length_cons]
        omega
  have h4 := h3 ps
  have hm : ((if n = 0 then [] else [(t, n)]) : List (Int × Int)).length ≤ 1 := by split <;> simp
  unfold setP
  rw [List.length_append, List.length_append]
  omega
theorem sum_nonneg {xs : List Int} (h : ∀ x ∈ xs, 0 ≤ x) : 0 ≤ xs.sum := by
  induction xs with
  | nil => simp
  | cons x r ih =>
    have h1 := h x (by simp)
    have h2 := ih (fun y hy => h y (by simp [hy]))
    rw [List.sum_cons]
    omega
theorem amtS_le {ps : List (Int × Int)} (h : ∀ x ∈ ps, 0 ≤ x.2) (t : Int) : 0 ≤ amtS t ps ∧ amtS t ps ≤ sumAll ps := by
  have hs := sum_part (key := keyP) (·.2) t ps
  have g : ∀ p : (Int × Int) → Bool, 0 ≤ ((ps.filter p).map (·.2)).sum := fun p => sum_nonneg (fun y hy => by
    obtain ⟨x, hx, rfl⟩ := List.mem_map.1 hy
    exact h x (List.mem_filter.1 hx).1)
  have h1 := g (fun x => decide (keyP x < t))
  have h2 := g (fun x => decide (keyP x = t))
  have h3 := g (fun x => decide (t < keyP x))
  unfold amtS sumAll
  omega
theorem amtS_mem : ∀ {ps : List (Int × Int)}, Asc keyP ps → ∀ x ∈ ps, amtS x.1 ps = x.2
  | [], _, x, hx => by cases hx
  | y :: r, h, x, hx => by
    have hr := List.pairwise_cons.1 h
    rcases List.mem_cons.1 hx with rfl | hx
    · unfold amtS
      rw [List.filter_cons_of_pos (by simp [keyP]), List.filter_eq_nil_iff.2 (fun z hz => by
        have h1 := hr.1 z hz
        rw [decide_eq_true_eq]
        intro e
        unfold keyP at h1 e
        omega)]
      simp
    · have h1 := hr.1 x hx
      have ih := amtS_mem hr.2 x hx
      unfold amtS at ih ⊢
      rw [List.filter_cons_of_neg (by
        rw [decide_eq_true_eq]
        intro e
        unfold keyP at h1 e
        omega)]
      exact ih
end Go.Proofs.YtcmlhopidohimaaDoor
