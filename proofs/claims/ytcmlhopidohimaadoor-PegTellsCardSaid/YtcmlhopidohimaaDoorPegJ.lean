/- A peg that is as it must be; what each act makes of it. Plain law, no program in sight. Conditions: named in each theorem. -/
import Derived.Test.YtcmlhopidohimaaDoorPegL
namespace Go.Proofs.YtcmlhopidohimaaDoor
open Go.RowKit Go.ChangeShapes Go.WideShapes Go.ChangeAt

theorem adj_asc {α : Type} {key : α → Int} {d : α} {xs : List α} (h : ∀ k, k < xs.length → risE key d xs k = 0) : Asc key xs := by
  have step : ∀ m i, i + m + 1 < xs.length → key (xs.getD i d) < key (xs.getD (i + m + 1) d) := by
    intro m
    induction m with
    | zero =>
      intro i hi
      have h1 := h (i + 1) hi
      unfold risE at h1
      split at h1
      · cases h1
      · rename_i hn
        rw [Nat.add_sub_cancel] at hn
        rw [Nat.add_zero]
        omega
    | succ m ih =>
      intro i hi
      have h1 := ih i (by omega)
      have h2 := h (i + m + 1 + 1) (by omega)
      unfold risE at h2
      split at h2
      · cases h2
      · rename_i hn
        rw [Nat.add_sub_cancel] at hn
        rw [show i + (m + 1) + 1 = i + m + 1 + 1 by omega]
        omega
  unfold Asc
  rw [List.pairwise_iff_getElem]
  intro i j hi hj hij
  have := step (j - i - 1) i (by omega)
  rw [show i + (j - i - 1) + 1 = j by omega] at this
  rw [List.getD_eq_getElem?_getD, List.getD_eq_getElem?_getD, List.getElem?_eq_getElem hi, List.getElem?_eq_getElem hj] at this
  exact this
theorem asc_adj {α : Type} {key : α → Int} {d : α} {xs : List α} (h : Asc key xs) : ∀ k, k < xs.length → risE key d xs k = 0 := by
  intro k hk
  unfold risE
  split
  · rename_i hn
    exfalso
    have h1 := List.pairwise_iff_getElem.1 h (k - 1) k (by omega) hk (by omega)
    rw [List.getD_eq_getElem?_getD, List.getD_eq_getElem?_getD, List.getElem?_eq_getElem hk, List.getElem?_eq_getElem (by omega)] at hn
    have := hn.2
    simp only [Option.getD_some] at this
    omega
  · rfl
theorem all_get {α : Type} {d : α} {xs : List α} {p : α → Prop} : (∀ k, k < xs.length → p (xs.getD k d)) ↔ ∀ x ∈ xs, p x := by
  constructor
  · intro h x hx
    obtain ⟨k, hk, rfl⟩ := List.getElem_of_mem hx
    have := h k hk
    rw [List.getD_eq_getElem?_getD, List.getElem?_eq_getElem hk] at this
    exact this
  · intro h k hk
    exact h _ (getD_mem d hk)
def sumOw (rs : List (Int × Int × Bool)) : Int := (rs.map owes).sum
/-- A peg that is as it must be. -/
structure Fit (l : Int) (ps : List (Int × Int)) (is : List Int) (rs : List (Int × Int × Bool)) : Prop where
  lp : ps.length ≤ 60
  li : is.length ≤ 60
  lr : rs.length ≤ 60
  ap : Asc keyP ps
  pos : ∀ x ∈ ps, 0 < x.2 ∧ x.2 ≤ 1125899906842624
  ai : Asc keyI is
  ar : Asc keyR rs
  am : ∀ r ∈ rs, 0 ≤ r.2.1 ∧ r.2.1 ≤ 1125899906842624
  sum : sumAll ps + sumOw rs = l
theorem pegQ_zero {l : Int} {ps : List (Int × Int)} {is : List Int} {rs : List (Int × Int × Bool)} : pegQ l ps is rs = 0 ↔ Fit l ps is rs := by
  have e1 : sumP ps ps.length = sumAll ps := by unfold sumP sumAll; rw [List.take_length]
  have e2 : sumR rs rs.length = sumOw rs := by unfold sumR sumOw; rw [List.take_length]
  constructor
  · intro h
    unfold pegQ at h
    by_cases c1 : 60 < ps.length ∨ 60 < is.length ∨ 60 < rs.length
    · rw [if_pos c1] at h
      cases h
    · rw [if_neg c1] at h
      by_cases c2 : firstE (pileE ps) ps.length = 0
      · rw [if_neg (by simpa using c2)] at h
        by_cases c3 : firstE (risE keyI 0 is) is.length = 0
        · rw [if_neg (by simpa using c3)] at h
          by_cases c4 : firstE (retE rs) rs.length = 0
          · rw [if_neg (by simpa using c4)] at h
            by_cases c5 : sumP ps ps.length + sumR rs rs.length = l
            · have f2 := firstE_zero.1 c2
              have f3 := firstE_zero.1 c3
              have f4 := firstE_zero.1 c4
              have g2 : ∀ k, k < ps.length → risE keyP (0, 0) ps k = 0 ∧ amtE (ps.getD k (0, 0)).2 = 0 := by
                intro k hk
                have := f2 k hk
                unfold pileE at this
                by_cases hr : risE keyP (0, 0) ps k = 0
                · rw [if_neg (by simpa using hr)] at this
                  exact ⟨hr, this⟩
                · rw [if_pos hr] at this
                  cases this
              have g4 : ∀ k, k < rs.length → risE keyR (0, 0, false) rs k = 0 ∧ moneyE (rs.getD k (0, 0, false)).2.1 = 0 := by
                intro k hk
                have := f4 k hk
                unfold retE at this
                by_cases hr : risE keyR (0, 0, false) rs k = 0
                · rw [if_neg (by simpa using hr)] at this
                  exact ⟨hr, this⟩
                · rw [if_pos hr] at this
                  cases this
              refine ⟨by omega, by omega, by omega, adj_asc fun k hk => (g2 k hk).1, all_get.1 fun k hk => amtE_zero.1 (g2 k hk).2, adj_asc f3, adj_asc fun k hk => (g4 k hk).1, all_get.1 fun k hk => moneyE_zero.1 (g4 k hk).2, ?_⟩
              rw [← e1, ← e2]
              exact c5
            · rw [if_pos (by simpa using c5)] at h
              cases h
          · rw [if_pos (by simpa using c4)] at h
            exact absurd h c4
        · rw [if_pos (by simpa using c3)] at h
          cases h
      · rw [if_pos (by simpa using c2)] at h
        exact absurd h c2
  · rintro ⟨h1, h2, h3, h4, h5, h6, h7, h8, h9⟩
    have c2 : firstE (pileE ps) ps.length = 0 := firstE_zero.2 fun k hk => by
      unfold pileE
      rw [asc_adj h4 k hk]
      exact amtE_zero.2 (h5 _ (getD_mem (0, 0) hk))
    have c3 : firstE (risE keyI 0 is) is.length = 0 := firstE_zero.2 (asc_adj h6)
    have c4 : firstE (retE rs) rs.length = 0 := firstE_zero.2 fun k hk => by
      unfold retE
      rw [asc_adj h7 k hk]
      exact moneyE_zero.2 (h8 _ (getD_mem (0, 0, false) hk))
    unfold pegQ
    rw [if_neg (by omega), if_neg (by simpa using c2), if_neg (by simpa using c3), if_neg (by simpa using c4), if_neg (by rw [e1, e2, h9]; simp)]

abbrev PegS := Int × List (Int × Int) × List Int × List (Int × Int × Bool)
def emptyS : PegS := (0, [], [], [])
def checkS (s : PegS) : Int := pegQ s.1 s.2.1 s.2.2.1 s.2.2.2
/-- Ahead of any act. -/
def startS (s : PegS) (n : Int) : Int := if checkS s ≠ 0 then checkS s else moneyE n
/-- What came: what is wrong with it; what is then. -/
def inQ (s : PegS) (id w n : Int) : Int :=
  if startS s n ≠ 0 then startS s n else if hasB keyI id s.2.2.1 = true then 6
  else if 1125899906842624 < s.1 + n ∨ 60 < s.2.2.1.length + 1 ∨ 60 < (setP w (amtS w s.2.1 + n) s.2.1).length then 4 else 0
def inR (s : PegS) (id w n : Int) : PegS := (s.1 + n, setP w (amtS w s.2.1 + n) s.2.1, insK keyI id s.2.2.1, s.2.2.2)
/-- What somebody paid somebody. -/
def movedP (ps : List (Int × Int)) (f t n : Int) : List (Int × Int) := setP t (amtS t (setP f (amtS f ps - n) ps) + n) (setP f (amtS f ps - n) ps)
def moveQ (s : PegS) (f t n : Int) : Int :=
  if startS s n ≠ 0 then startS s n else if amtS f s.2.1 < n then 9 else if 60 < (movedP s.2.1 f t n).length then 4 else 0
def moveR (s : PegS) (f t n : Int) : PegS := (s.1, movedP s.2.1 f t n, s.2.2.1, s.2.2.2)
/-- What is on its way back. -/
def outQ (s : PegS) (x w n : Int) : Int :=
  if startS s n ≠ 0 then startS s n else if amtS w s.2.1 < n then 9 else if hasB keyR x s.2.2.2 = true then 6 else if 60 < s.2.2.2.length + 1 then 4 else 0
def outR (s : PegS) (x w n : Int) : PegS := (s.1, setP w (amtS w s.2.1 - n) s.2.1, s.2.2.1, insK keyR (x, n, false) s.2.2.2)
/-- What is paid. -/
def gotR (x : Int) (rs : List (Int × Int × Bool)) : Int × Int × Bool := rs.getD (lbN keyR x rs) (0, 0, false)
def payQ (s : PegS) (x : Int) : Int :=
  if startS s 0 ≠ 0 then startS s 0 else if hasB keyR x s.2.2.2 = false then 5 else if (gotR x s.2.2.2).2.2 = true then 6 else 0
def payR (s : PegS) (x : Int) : PegS := (s.1 - (gotR x s.2.2.2).2.1, s.2.1, s.2.2.1, s.2.2.2.set (lbN keyR x s.2.2.2) ((gotR x s.2.2.2).1, (gotR x s.2.2.2).2.1, true))

def FitS (s : PegS) : Prop := Fit s.1 s.2.1 s.2.2.1 s.2.2.2
theorem start_zero {s : PegS} {n : Int} (h : startS s n = 0) : FitS s ∧ 0 ≤ n ∧ n ≤ 1125899906842624 := by
  unfold startS at h
  by_cases c : checkS s = 0
  · rw [if_neg (by simpa using c)] at h
    exact ⟨pegQ_zero.1 c, moneyE_zero.1 h⟩
  · rw [if_pos c] at h
    exact absurd h c
theorem zero_start {s : PegS} {n : Int} (h : FitS s) (hn : 0 ≤ n ∧ n ≤ 1125899906842624) : startS s n = 0 := by
  have e : checkS s = 0 := pegQ_zero.2 h
  unfold startS
  rw [if_neg (by simp [e])]
  exact moneyE_zero.2 hn
theorem Fit.nonneg {l : Int} {ps : List (Int × Int)} {is : List Int} {rs : List (Int × Int × Bool)} (h : Fit l ps is rs) : (∀ x ∈ ps, 0 ≤ x.2) ∧ 0 ≤ sumAll ps ∧ 0 ≤ sumOw rs := by
  have h0 : ∀ x ∈ ps, 0 ≤ x.2 := fun x hx => by have := h.pos x hx; omega
  refine ⟨h0, sum_nonneg fun y hy => ?_, sum_nonneg fun y hy => ?_⟩
  · obtain ⟨x, hx, rfl⟩ := List.mem_map.1 hy
    exact h0 x hx
  · obtain ⟨x, hx, rfl⟩ := List.mem_map.1 hy
    have := h.am x hx
    unfold owes
    split <;> omega
theorem Fit.amt {l : Int} {ps : List (Int × Int)} {is : List Int} {rs : List (Int × Int × Bool)} (h : Fit l ps is rs) (t : Int) : 0 ≤ amtS t ps ∧ amtS t ps ≤ sumAll ps ∧ sumAll ps ≤ l := by
  obtain ⟨h1, h2, h3⟩ := h.nonneg
  have := amtS_le h1 t
  have := h.sum
  omega
theorem Fit.amt_le {l : Int} {ps : List (Int × Int)} {is : List Int} {rs : List (Int × Int × Bool)} (h : Fit l ps is rs) (t : Int) : 0 ≤ amtS t ps ∧ amtS t ps ≤ 1125899906842624 := by
  rw [← amtP_eq h.ap]
  unfold amtP
  split
  · rename_i hh
    have := h.pos _ (getD_mem (0, 0) (has_lt hh))
    omega
  · omega
theorem sum_le_60 {xs : List Int} {M : Int} (h : ∀ x ∈ xs, x ≤ M) : xs.sum ≤ xs.length * M := by
  induction xs with
  | nil => simp
  | cons x r ih =>
    have h1 := h x (by simp)
    have h2 := ih (fun y hy => h y (by simp [hy]))
    rw [List.sum_cons, List.length_cons, Int.natCast_succ, Int.add_mul]
    omega
theorem Fit.big {l : Int} {ps : List (Int × Int)} {is : List Int} {rs : List (Int × Int × Bool)} (h : Fit l ps is rs) : 0 ≤ l ∧ l ≤ 120 * 1125899906842624 := by
  obtain ⟨h1, h2, h3⟩ := h.nonneg
  have e1 : sumAll ps ≤ (ps.map (·.2)).length * 1125899906842624 := sum_le_60 fun y hy => by
    obtain ⟨x, hx, rfl⟩ := List.mem_map.1 hy
    exact (h.pos x hx).2
  have e2 : sumOw rs ≤ (rs.map owes).length * 1125899906842624 := sum_le_60 fun y hy => by
    obtain ⟨x, hx, rfl⟩ := List.mem_map.1 hy
    have := h.am x hx
    unfold owes
    split <;> omega
  rw [List.length_map] at e1 e2
  have := h.lp
  have := h.lr
  have := h.sum
  omega
theorem sum_insK (x n : Int) {rs : List (Int × Int × Bool)} (h : Asc keyR rs) (hh : hasB keyR x rs = false) : sumOw (insK keyR (x, n, false) rs) = sumOw rs + n := by
  have h1 := sum_part (key := keyR) owes x rs
  have h2 : rs.filter (fun r => decide (keyR r = x)) = [] := List.filter_eq_nil_iff.2 fun r hr => by simpa using has_not h hh r hr
  rw [h2] at h1
  unfold sumOw insK
  have e : keyR (x, n, false) = x := rfl
  have e1 : owes (x, n, false) = n := rfl
  rw [List.map_append, List.map_cons, List.sum_append, List.sum_cons, h1, e, e1, List.map_nil, List.sum_nil]
  omega
/-- What is put there keeps a peg as it must be, if it is no more than all. -/
theorem Fit.set {l l' : Int} {ps : List (Int × Int)} {is is' : List Int} {rs rs' : List (Int × Int × Bool)} (h : Fit l ps is rs) (t n : Int) (hn : 0 ≤ n) (hm : n ≤ 1125899906842624) (hl : (setP t n ps).length ≤ 60)
    (hi : is'.length ≤ 60 ∧ Asc keyI is') (hr : rs'.length ≤ 60 ∧ Asc keyR rs' ∧ ∀ r ∈ rs', 0 ≤ r.2.1 ∧ r.2.1 ≤ 1125899906842624) (hs : sumAll ps - amtS t ps + n + sumOw rs' = l') : Fit l' (setP t n ps) is' rs' :=
  ⟨hl, hi.1, hr.1, asc_setP h.ap t n, fun x hx => by
    rcases mem_setP hx with ⟨rfl, h0⟩ | hx
    · exact ⟨by dsimp only; omega, hm⟩
    · exact h.pos x hx, hi.2, hr.2.1, hr.2.2, by rw [sum_setP]; exact hs⟩
theorem in_fit {s : PegS} {id w n : Int} (h : inQ s id w n = 0) : FitS s ∧ FitS (inR s id w n) ∧ 0 ≤ n ∧ s.1 + n ≤ 1125899906842624 ∧ hasB keyI id s.2.2.1 = false := by
  unfold inQ at h
  by_cases c : startS s n = 0
  · rw [if_neg (by simpa using c)] at h
    obtain ⟨hf, h0, h1⟩ := start_zero c
    cases c2 : hasB keyI id s.2.2.1 with
    | true => rw [if_pos c2] at h; cases h
    | false =>
      rw [if_neg (by rw [c2]; decide)] at h
      by_cases c3 : 1125899906842624 < s.1 + n ∨ 60 < s.2.2.1.length + 1 ∨ 60 < (setP w (amtS w s.2.1 + n) s.2.1).length
      · rw [if_pos c3] at h; cases h
      · have ha := Fit.amt hf w
        refine ⟨hf, Fit.set hf w _ (by omega) (by omega) (by omega) ⟨?_, asc_insK hf.ai id⟩ ⟨hf.lr, hf.ar, hf.am⟩ ?_, h0, by omega, rfl⟩
        · have := len_insK hf.ai id c2
          show (insK keyI id s.2.2.1).length ≤ 60
          omega
        · have := hf.sum
          unfold inR
          dsimp only
          omega
  · rw [if_pos c] at h
    exact absurd h c
theorem out_fit {s : PegS} {x w n : Int} (h : outQ s x w n = 0) : FitS s ∧ FitS (outR s x w n) ∧ 0 ≤ n ∧ n ≤ 1125899906842624 ∧ n ≤ amtS w s.2.1 ∧ hasB keyR x s.2.2.2 = false ∧ s.2.2.2.length + 1 ≤ 60 := by
  unfold outQ at h
  by_cases c : startS s n = 0
  · rw [if_neg (by simpa using c)] at h
    obtain ⟨hf, h0, h1⟩ := start_zero c
    by_cases c1 : amtS w s.2.1 < n
    · rw [if_pos c1] at h; cases h
    rw [if_neg c1] at h
    cases c2 : hasB keyR x s.2.2.2 with
    | true => rw [if_pos c2] at h; cases h
    | false =>
      rw [if_neg (by rw [c2]; decide)] at h
      by_cases c3 : 60 < s.2.2.2.length + 1
      · rw [if_pos c3] at h; cases h
      · have ha := Fit.amt hf w
        have hb := Fit.amt_le hf w
        refine ⟨hf, Fit.set hf w _ (by omega) (by omega) ?_ ⟨hf.li, hf.ai⟩ ⟨?_, asc_insK hf.ar (x, n, false), ?_⟩ ?_, h0, h1, by omega, rfl, by omega⟩
        · by_cases hz : amtS w s.2.1 = 0
          · have e : setP w (amtS w s.2.1 - n) s.2.1 = s.2.1 := by
              have e0 : amtS w s.2.1 - n = amtS w s.2.1 := by omega
              rw [e0]
              exact setP_amt hf.ap (fun y hy => by have := hf.pos y hy; omega) w
            rw [e]
            exact hf.lp
          · -- who has something is there: no more are there
            have hlen : (setP w (amtS w s.2.1 - n) s.2.1).length ≤ s.2.1.length := by
              rcases asc_part w hf.ap with ⟨a, b, he, q1, q2, q3, q4⟩ | ⟨a, y, b, he, q1, q2, q0, q3, q4⟩
              · exfalso
                apply hz
                rw [← amtP_eq hf.ap]
                unfold amtP
                rw [q2]
                rfl
              · unfold setP
                have f1 : s.2.1.filter (fun x => decide (keyP x < w)) = a := by
                  rw [he]
                  exact filt_lo q3 (fun x hx => by
                    rcases List.mem_cons.1 hx with rfl | hx
                    · omega
                    · have := q4 x hx
                      omega)
                have f2 : s.2.1.filter (fun x => decide (w < keyP x)) = b := by
                  rw [he, show a ++ y :: b = (a ++ [y]) ++ b by simp]
                  refine filt_hi (fun x hx => ?_) q4
                  rcases List.mem_append.1 hx with hx | hx
                  · have := q3 x hx
                    omega
                  · rcases List.mem_cons.1 hx with rfl | hx
                    · omega
                    · cases hx
                rw [f1, f2, he]
                split <;> simp <;> omega
            exact Nat.le_trans hlen hf.lp
        · have := len_insK hf.ar (x, n, false) c2
          unfold outR
          dsimp only
          omega
        · intro r hr
          rcases mem_insK hr with rfl | hr
          · exact ⟨h0, h1⟩
          · exact hf.am r hr
        · have := hf.sum
          unfold outR
          dsimp only
          rw [sum_insK x n hf.ar c2]
          omega
  · rw [if_pos c] at h
    exact absurd h c
/-- What is not yet looked at in its number. -/
def PFit (ps : List (Int × Int)) : Prop := Asc keyP ps ∧ ∀ x ∈ ps, 0 < x.2 ∧ x.2 ≤ 1125899906842624
theorem PFit.set {ps : List (Int × Int)} (h : PFit ps) (t : Int) {n : Int} (h0 : 0 ≤ n) (hn : n ≤ 1125899906842624) : PFit (setP t n ps) :=
  ⟨asc_setP h.1 t n, fun x hx => by
    rcases mem_setP hx with ⟨rfl, h0⟩ | hx
    · exact ⟨by dsimp only; omega, hn⟩
    · exact h.2 x hx⟩
theorem PFit.amt {ps : List (Int × Int)} (h : PFit ps) (t : Int) : 0 ≤ amtS t ps ∧ amtS t ps ≤ 1125899906842624 ∧ amtS t ps ≤ sumAll ps := by
  refine ⟨(amtS_le (fun x hx => by have := h.2 x hx; omega) t).1, ?_, (amtS_le (fun x hx => by have := h.2 x hx; omega) t).2⟩
  rw [← amtP_eq h.1]
  unfold amtP
  split
  · rename_i hh
    exact (h.2 _ (getD_mem (0, 0) (has_lt hh))).2
  · omega
theorem Fit.piles {l : Int} {ps : List (Int × Int)} {is : List Int} {rs : List (Int × Int × Bool)} (h : Fit l ps is rs) : PFit ps := ⟨h.ap, h.pos⟩
theorem move_start {s : PegS} {f t n : Int} (h : moveQ s f t n = 0) : FitS s ∧ 0 ≤ n ∧ n ≤ 1125899906842624 ∧ n ≤ amtS f s.2.1 ∧ (movedP s.2.1 f t n).length ≤ 60 := by
  unfold moveQ at h
  by_cases c : startS s n = 0
  · rw [if_neg (by simpa using c)] at h
    obtain ⟨hf, h0, h1⟩ := start_zero c
    by_cases c1 : amtS f s.2.1 < n
    · rw [if_pos c1] at h; cases h
    rw [if_neg c1] at h
    by_cases c3 : 60 < (movedP s.2.1 f t n).length
    · rw [if_pos c3] at h; cases h
    · exact ⟨hf, h0, h1, by omega, by omega⟩
  · rw [if_pos c] at h
    exact absurd h c
theorem move_fit {s : PegS} {f t n : Int} (h : moveQ s f t n = 0) (hl : s.1 ≤ 1125899906842624) : FitS s ∧ FitS (moveR s f t n) := by
  obtain ⟨hf, h0, h1, h2, h3⟩ := move_start h
  have hp := Fit.piles hf
  have ha := Fit.amt hf f
  have p1 := hp.set f (n := amtS f s.2.1 - n) (by omega) (by omega)
  have s1 := sum_setP f (amtS f s.2.1 - n) s.2.1
  have a1 := p1.amt t
  have p2 := p1.set t (n := amtS t (setP f (amtS f s.2.1 - n) s.2.1) + n) (by omega) (by omega)
  refine ⟨hf, h3, hf.li, hf.lr, p2.1, p2.2, hf.ai, hf.ar, hf.am, ?_⟩
  have s2 := sum_setP t (amtS t (setP f (amtS f s.2.1 - n) s.2.1) + n) (setP f (amtS f s.2.1 - n) s.2.1)
  have hs := hf.sum
  show sumAll (movedP s.2.1 f t n) + sumOw s.2.2.2 = s.1
  unfold movedP
  omega
theorem sum_setOw (y : Int × Int × Bool) : ∀ (rs : List (Int × Int × Bool)) (k : Nat), k < rs.length → sumOw (rs.set k y) = sumOw rs - owes (rs.getD k (0, 0, false)) + owes y
  | x :: r, 0, _ => by
    unfold sumOw
    rw [List.set_cons_zero, List.map_cons, List.map_cons, List.sum_cons, List.sum_cons]
    show _ = owes x + _ - owes x + _
    omega
  | x :: r, k + 1, h => by
    have ih := sum_setOw y r k (by simpa using h)
    unfold sumOw at ih ⊢
    rw [List.set_cons_succ, List.map_cons, List.map_cons, List.sum_cons, List.sum_cons, ih]
    show _ = owes x + _ - owes (r.getD k (0, 0, false)) + _
    omega
theorem asc_set {α : Type} {key : α → Int} {y d : α} : ∀ {xs : List α} {k : Nat}, Asc key xs → k < xs.length → key y = key (xs.getD k d) → Asc key (xs.set k y)
  | x :: r, 0, h, _, he => by
    have hr := List.pairwise_cons.1 h
    have he' : key y = key x := he
    refine List.pairwise_cons.2 ⟨fun z hz => ?_, hr.2⟩
    rw [he']
    exact hr.1 z hz
  | x :: r, k + 1, h, hk, he => by
    have hr := List.pairwise_cons.1 h
    have hk' : k < r.length := by simpa using hk
    have he' : key y = key (r.getD k d) := he
    refine List.pairwise_cons.2 ⟨fun z hz => ?_, asc_set (d := d) hr.2 hk' he'⟩
    rcases List.mem_or_eq_of_mem_set hz with hz | rfl
    · exact hr.1 z hz
    · rw [he']
      exact hr.1 _ (getD_mem d hk')
theorem pay_start {s : PegS} {x : Int} (h : payQ s x = 0) : FitS s ∧ hasB keyR x s.2.2.2 = true ∧ (gotR x s.2.2.2).2.2 = false := by
  unfold payQ at h
  by_cases c : startS s 0 = 0
  · rw [if_neg (by simpa using c)] at h
    obtain ⟨hf, h0, h1⟩ := start_zero c
    cases c2 : hasB keyR x s.2.2.2 with
    | false => rw [if_pos c2] at h; cases h
    | true =>
      rw [if_neg (by rw [c2]; decide)] at h
      cases c3 : (gotR x s.2.2.2).2.2 with
      | true => rw [if_pos c3] at h; cases h
      | false => exact ⟨hf, rfl, rfl⟩
  · rw [if_pos c] at h
    exact absurd h c
theorem pay_fit {s : PegS} {x : Int} (h : payQ s x = 0) : FitS s ∧ FitS (payR s x) ∧ (payR s x).1 ≤ s.1 := by
  obtain ⟨hf, h1, h2⟩ := pay_start h
  have hL := has_lt h1
  have hm := hf.am _ (getD_mem (0, 0, false) hL)
  have hs := sum_setOw ((gotR x s.2.2.2).1, (gotR x s.2.2.2).2.1, true) s.2.2.2 (lbN keyR x s.2.2.2) hL
  have e1 : owes (s.2.2.2.getD (lbN keyR x s.2.2.2) (0, 0, false)) = (gotR x s.2.2.2).2.1 := by
    unfold owes gotR
    unfold gotR at h2
    rw [h2]
    rfl
  have e2 : owes ((gotR x s.2.2.2).1, (gotR x s.2.2.2).2.1, true) = 0 := rfl
  rw [e1, e2] at hs
  refine ⟨hf, ⟨hf.lp, hf.li, ?_, hf.ap, hf.pos, hf.ai, asc_set (d := (0, 0, false)) hf.ar hL rfl, ?_, ?_⟩, ?_⟩
  · show (s.2.2.2.set _ _).length ≤ 60
    rw [List.length_set]
    exact hf.lr
  · intro r hr
    rcases List.mem_or_eq_of_mem_set hr with hr | rfl
    · exact hf.am r hr
    · exact hm
  · have := hf.sum
    show sumAll s.2.1 + sumOw (s.2.2.2.set _ _) = s.1 - (gotR x s.2.2.2).2.1
    rw [hs]
    omega
  · show s.1 - (gotR x s.2.2.2).2.1 ≤ s.1
    unfold gotR
    omega
end Go.Proofs.YtcmlhopidohimaaDoor
