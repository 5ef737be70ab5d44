/- Two who are shown one root: where their ways part, the other way round: the walk of part. Conditions: named in each theorem. -/
import Derived.Test.YtkpbhbafapdboaaDoorTwoA
import Derived.Test.YtkpbhbafapdboaaDoorInv
import Derived.Test.YtkpbhbafapdboaaDoorAudS
import Derived.Great.BuildSlice
namespace Go.Proofs.YtkpbhbafapdboaaDoor
open Go.RowKit Go.ChangeShapes Go.WideShapes Go.ChangeAt

theorem put_same (a : Act) (d : Nat) (v : Value) (h : d < a.tmps.size) : (a.put (some d) v).eval (.tmp d) = v := by
  simp [Act.put, Act.eval, h]
theorem put_other (a : Act) (d : Nat) (v : Value) (t : Nat) (h : t ≠ d) : (a.put (some d) v).eval (.tmp t) = a.eval (.tmp t) := by
  refine Act.eval_put (fun d' hd => ?_)
  injection hd with hd
  subst hd
  intro e
  injection e with e
  exact h e
theorem flag_set {L : Array Bool} {i : Nat} (h : i < L.size) (k : Nat) : (L.setIfInBounds i true).getD k false = if k = i then true else L.getD k false := by
  by_cases hk : k = i
  · subst hk
    rw [if_pos rfl]
    simp [Array.getD_eq_getD_getElem?, h]
  · rw [if_neg hk, getD_set_ne false (fun e => hk e.symm)]
/-- The slots whose rows are the call's own; what kind each is of, which operation fills it, which takes it, what it holds. -/
def trk : List Nat := [126, 128, 130, 131, 134, 136, 138, 139]
def clsN (t : Nat) : Nat := if t = 130 then 1 else if t = 138 then 3 else if t < 132 then 0 else 2
def idxN (t : Nat) : Nat := if t = 126 then 1 else if t = 128 then 3 else if t = 130 then 5 else if t = 131 then 6 else if t = 134 then 9 else if t = 136 then 11 else if t = 138 then 13 else 14
def conN (t : Nat) : Nat := if t = 126 then 3 else if t = 128 then 6 else if t = 130 then 6 else if t = 131 then 17 else if t = 134 then 11 else if t = 136 then 14 else if t = 138 then 14 else 17
def contN (P Q : List Tot) (x y : Tot) (t : Nat) : List Tot := if t = 126 then [] else if t = 128 then Q else if t = 130 then [y] else if t = 131 then Q ++ [y] else if t = 134 then [] else if t = 136 then P else if t = 138 then [x] else P ++ [x]
/-- What holds at a state of the region. -/
structure St (a0 : Act) (w3 : World) (P Q : List Tot) (x y : Tot) (vals : List (Nat × Nat × Value)) (L : Array Bool) (a : Act) (w : World) : Prop where
  sz : a.tmps.size = 178
  lsz : L.size = 22
  defs : a.defers = a0.defers
  frame : ∀ t : Nat, t < 14 ∨ 16 ≤ t → t < 125 → a.eval (.tmp t) = a0.eval (.tmp t)
  below : Below w3.heap.size w3 w
  lt : ∀ s ∈ trk, ∀ k, (a.eval (.tmp s)).ownBlock = some k → k < w.heap.size
  ap : ∀ s ∈ trk, ∀ t ∈ trk, clsN s ≠ clsN t → Apart (a.eval (.tmp s)) (a.eval (.tmp t))
  own : ∀ s ∈ trk, L.getD (idxN s) false = true → L.getD (conN s) false = false → TOwn w w3.heap.size (a.eval (.tmp s)) (contN P Q x y s).length (contN P Q x y s)
  vls : ∀ e ∈ vals, L.getD e.1 false = true → a.eval (.tmp e.2.1) = e.2.2
section
variable {a0 : Act} {w3 : World} {P Q : List Tot} {x y : Tot} {vals : List (Nat × Nat × Value)} {L : Array Bool} {a : Act} {w : World}
/-- An operation that fills a slot of none of these. -/
theorem St.pure (h : St a0 w3 P Q x y vals L a w) (i d : Nat) (v : Value) (w' : World) (hb : Below w.heap.size w w') (hi : i < L.size) (hd : d ∉ trk) (hd1 : (14 ≤ d ∧ d < 16) ∨ (125 ≤ d ∧ d < 178)) (hix : ∀ s ∈ trk, idxN s ≠ i)
    (hv : ∀ e ∈ vals, (e.1 = i → e.2 = (d, v)) ∧ (e.2.1 = d → e.1 = i)) : St a0 w3 P Q x y vals (L.setIfInBounds i true) (a.put (some d) v) w' := by
  have hds : d < a.tmps.size := by rw [h.sz]; omega
  have htr : ∀ s ∈ trk, s ≠ d := fun s hs e => hd (e ▸ hs)
  refine ⟨by simp [Act.put, h.sz], by simp [h.lsz], h.defs, fun t ht ht2 => ?_, h.below.trans (hb.mono h.below.size), fun s hs k hk => ?_, fun s hs t ht hne => ?_, fun s hs h1 h2 => ?_, fun e he h1 => ?_⟩
  · rw [put_other _ _ _ _ (show t ≠ d by omega)]; exact h.frame t ht ht2
  · rw [put_other _ _ _ _ (htr s hs)] at hk
    exact Nat.lt_of_lt_of_le (h.lt s hs k hk) hb.size
  · rw [put_other _ _ _ _ (htr s hs), put_other _ _ _ _ (htr t ht)]
    exact h.ap s hs t ht hne
  · rw [put_other _ _ _ _ (htr s hs)]
    rw [flag_set hi, if_neg (hix s hs)] at h1
    rw [flag_set hi] at h2
    split at h2
    · cases h2
    · exact own_below (h.own s hs h1 h2) hb
  · rw [flag_set hi] at h1
    by_cases hei : e.1 = i
    · have := (hv e he).1 hei
      rw [this]
      exact put_same _ _ _ hds
    · rw [if_neg hei] at h1
      rw [put_other _ _ _ _ (fun hh => hei ((hv e he).2 hh))]
      exact h.vls e he h1
/-- An operation that fills a slot of these. -/
theorem St.mem (h : St a0 w3 P Q x y vals L a w) (i d : Nat) (v : Value) (w' : World) (row : Option Nat) (hg : w.grownBy w' row) (hb : Below w3.heap.size w w') (hi : i < L.size) (hd : d ∈ trk) (hid : idxN d = i)
    (hother : ∀ s ∈ trk, clsN s ≠ clsN d → ∀ k, (a.eval (.tmp s)).ownBlock = some k → row ≠ some k)
    (hsame : ∀ s ∈ trk, s ≠ d → clsN s = clsN d → L.getD (idxN s) false = true → L.getD (conN s) false = false → conN s ≠ i → row = none)
    (hat : (∃ s ∈ trk, clsN s = clsN d ∧ v.ownBlock = (a.eval (.tmp s)).ownBlock) ∨ ∃ g, v.ownBlock = some g ∧ w.heap.size ≤ g)
    (hown : TOwn w' w3.heap.size v (contN P Q x y d).length (contN P Q x y d))
    (hv : ∀ e ∈ vals, e.1 ≠ i ∧ e.2.1 ≠ d) : St a0 w3 P Q x y vals (L.setIfInBounds i true) (a.put (some d) v) w' := by
  have hdr : 125 ≤ d ∧ d < 178 := by
    have : ∀ s ∈ trk, 125 ≤ s ∧ s < 178 := by decide
    exact this d hd
  have hds : d < a.tmps.size := by rw [h.sz]; omega
  have hidx : ∀ s ∈ trk, s ≠ d → idxN s ≠ i := by
    have : ∀ s ∈ trk, ∀ t ∈ trk, s ≠ t → idxN s ≠ idxN t := by decide
    intro s hs hsd
    rw [← hid]
    exact this s hs d hd hsd
  have hvlt : ∀ k, v.ownBlock = some k → k < w'.heap.size := fun k hk => World.ownsRow.lt hown k hk |>.2
  have hvap : ∀ s ∈ trk, clsN s ≠ clsN d → Apart v (a.eval (.tmp s)) := by
    intro s hs hne k hk hk2
    rcases hat with ⟨s1, hs1, hc, e⟩ | ⟨g, e, hge⟩
    · rw [e] at hk
      exact h.ap s1 hs1 s hs (by rw [hc]; exact fun e => hne e.symm) k hk hk2
    · rw [e] at hk
      injection hk with hk
      have := h.lt s hs k hk2
      omega
  refine ⟨by simp [Act.put, h.sz], by simp [h.lsz], h.defs, fun t ht ht2 => ?_, h.below.trans hb, fun s hs k hk => ?_, fun s hs t ht hne => ?_, fun s hs h1 h2 => ?_, fun e he h1 => ?_⟩
  · rw [put_other _ _ _ _ (show t ≠ d by omega)]; exact h.frame t ht ht2
  · by_cases hsd : s = d
    · subst hsd
      rw [put_same _ _ _ hds] at hk
      exact hvlt k hk
    · rw [put_other _ _ _ _ hsd] at hk
      exact Nat.lt_of_lt_of_le (h.lt s hs k hk) hb.size
  · by_cases hsd : s = d
    · subst hsd
      have htd : t ≠ s := fun e => hne (by rw [e])
      rw [put_same _ _ _ hds, put_other _ _ _ _ htd]
      exact hvap t ht (fun e => hne e.symm)
    · by_cases htd : t = d
      · subst htd
        rw [put_same _ _ _ hds, put_other _ _ _ _ hsd]
        exact (hvap s hs hne).symm
      · rw [put_other _ _ _ _ hsd, put_other _ _ _ _ htd]
        exact h.ap s hs t ht hne
  · by_cases hsd : s = d
    · subst hsd
      rw [put_same _ _ _ hds]
      exact hown
    · rw [put_other _ _ _ _ hsd]
      rw [flag_set hi, if_neg (hidx s hs hsd)] at h1
      rw [flag_set hi] at h2
      split at h2
      · cases h2
      · rename_i hci
        refine World.ownsRow.kept (h.own s hs h1 h2) hg ?_
        cases hk : (a.eval (.tmp s)).ownBlock with
        | none => exact .inl rfl
        | some k =>
          refine .inr (fun e => ?_)
          by_cases hc : clsN s = clsN d
          · have := hsame s hs hsd hc h1 h2 hci
            rw [this] at e
            cases e
          · exact hother s hs hc k hk e.symm
  · obtain ⟨e1, e2⟩ := hv e he
    rw [flag_set hi, if_neg e1] at h1
    rw [put_other _ _ _ _ e2]
    exact h.vls e he h1
/-- Other values for what has not come up. -/
theorem St.re {vals' : List (Nat × Nat × Value)} (h : St a0 w3 P Q x y vals L a w) (hv : ∀ e ∈ vals', L.getD e.1 false = true → e ∈ vals) : St a0 w3 P Q x y vals' L a w :=
  ⟨h.sz, h.lsz, h.defs, h.frame, h.below, h.lt, h.ap, h.own, fun e he hl => h.vls e (hv e he hl) hl⟩
end
set_option maxRecDepth 100000 in
theorem wpList_none {ops : Array Oper} {rest : List Oper} {o : Oper} {a : Act} {w : World} {Q : Exit → Act → World → Prop} (hg : o.guard = none) (ho : o.op = .buildSlice 26 0 #[])
    (h : wpList Tryd.prog ops Q rest (a.put o.dst (.slice (some ⟨w.heap.size, 0, none⟩) 0 0)) (w.alloc (.cells #[] 25))) : wpList Tryd.prog ops Q (o :: rest) a w := by
  refine wpList_plain hg fun K hK => ?_
  obtain ⟨dst, op, type, pos, after, guard⟩ := o
  simp only at ho hg
  subst ho
  go_simp
  exact hK _ _ h
theorem own_none (w : World) (base : Nat) (hb : base ≤ w.heap.size) : TOwn (w.alloc (.cells #[] 25)) base (.slice (some ⟨w.heap.size, 0, none⟩) 0 0) 0 [] :=
  World.ownsRow_made (base := base) w #[] 0 hb (by decide) rfl
theorem own_one (w : World) (base : Nat) (hb : base ≤ w.heap.size) (t : Tot) (ht : t.2.length = 32) : TOwn (w.alloc (.cells (totR t.1 t.2) 25)) base (.slice (some ⟨w.heap.size, 0, none⟩) 1 1) 1 [t] := by
  have e : ([t] : List Tot).flatMap totE = totL t.1 t.2 := by simp [totE_eq ht]
  unfold TOwn
  rw [e]
  exact ⟨by rw [totL_len ht], .inr ⟨w.heap.size, 1, totR t.1 t.2, rfl, hb, heap_alloc_new w _, Nat.le_refl _, by decide, by rw [totR_size ht], by unfold totR; simp; rw [List.take_of_length_le (by rw [totL_len ht]; decide)]⟩⟩
theorem onesT (ts : List Tot) : ∀ u ∈ ts.flatMap totE, u.oneCell' = true := by
  intro u hu
  obtain ⟨t, -, ht⟩ := List.mem_flatMap.1 hu
  have h := totR_one t.1 (fit t.2)
  exact Array.all_eq_true_iff_forall_mem.1 h u (by show u ∈ (totL t.1 (fit t.2)).toArray; simpa using (show u ∈ totL t.1 (fit t.2) from ht))
theorem calls_part (v0 v1 v2 v3 v4 v5 v6 : Value) (w : World) : (callFunc 9 #[v0, v1, v2, v3, v4, v5, v6]).run Tryd.prog w = .ok (.enter 9 #[v0, v1, v2, v3, v4, v5, v6]) w := by kernel_rfl
theorem wpList_callAny {P : Program} {ops : Array Oper} {rest : List Oper} {o : Oper} {a : Act} {w : World} {Q : Exit → Act → World → Prop} (hg : o.guard = none) (f : FuncId) (args : Array Value) (hrun : (execOp a.eval o).run P w = .ok (.enter f args) w)
    {R : Ending → World → Prop} (hc : Calls P f args w R) (h : ∀ e w', R e w' → ∃ v, e = .returned v ∧ wpList P ops Q rest (a.put o.dst v) w') : wpList P ops Q (o :: rest) a w := by
  refine wpList_plain hg fun K hK => ?_
  unfold Oper.wp
  rw [hrun, Oper.upon_enter]
  refine hc.mono fun e w'' hh => ?_
  obtain ⟨v, rfl, h2⟩ := h e w'' hh
  exact hK _ _ h2
theorem town_concat {w : World} {base k : Nat} {v : Value} {xs ys : List Tot} (hk : k = (xs ++ ys).length) (h : w.ownsRow base 25 33 v k (xs.flatMap totE ++ ys.flatMap totE)) : TOwn w base v (xs ++ ys).length (xs ++ ys) := by
  subst hk
  unfold TOwn
  rw [List.flatMap_append]
  exact h
end Go.Proofs.YtkpbhbafapdboaaDoor
