/- A region that draws its order, by what holds at each of its states: words of this seat's own. Conditions: named in each theorem. -/
import Derived.Test.YtiigggbghgfdoaaDoorRec
import Derived.OrdersHeld
namespace Go.Proofs.YtiigggbghgfdoaaDoor
open Go.RowKit Go.ChangeShapes Go.WideShapes Go.ChangeAt

/-- K behind what ends well; else Q. -/
def After (K : Act → World → Prop) (Q : Exit → Act → World → Prop) : Exit → Act → World → Prop
  | .normal, a, w => K a w
  | .exit i, a, w => Q (.exit i) a w
  | .goto l, a, w => Q (.goto l) a w
  | .ret, a, w => Q .ret a w
  | .panic c, a, w => Q (.panic c) a w
  | .outgrown, a, w => Q .outgrown a w
theorem wpOp_of_list {P : Program} {ops : Array Oper} {Q : Exit → Act → World → Prop} {i : Nat} {o : Oper} {K : Act → World → Prop} {a : Act} {w : World} (ho : ops[i]? = some o)
    (h : wpList P ops (After K Q) [o] a w) : wpOp P ops Q i K a w := by
  unfold wpOp
  simp only [ho]
  unfold wpList at h
  split
  · rename_i hw
    rw [if_pos hw] at h
    rcases h with h | h
    · refine .inl ?_
      have h' : o.wp P a w K (After K Q) := Oper.wp_mono (fun _ _ h => h) h
      unfold Oper.wp at h' ⊢
      generalize (execOp a.eval o).run P w = r at h'
      cases r with
      | ok n w' =>
        cases n <;> first | exact h' | (exact Calls.mono h' (fun e w'' he => by cases e <;> exact he))
      | halt x w' => cases x <;> exact h'
    · exact .inr h
  · rename_i hw
    rw [if_neg hw] at h
    exact h
/-- So many have not come up yet. -/
def leftN (ops : Array Oper) (listed : Array Bool) : Nat := (List.range ops.size).countP fun i => !listed.getD i true
theorem countP_lt {α : Type} (p q : α → Bool) (hpq : ∀ x, q x = true → p x = true) : ∀ (l : List α) (x : α), x ∈ l → p x = true → q x = false → l.countP q < l.countP p
  | [], x, hx, _, _ => by cases hx
  | y :: r, x, hx, h1, h2 => by
    have hle : r.countP q ≤ r.countP p := List.countP_mono_left (fun z _ => hpq z)
    rw [List.countP_cons, List.countP_cons]
    rcases List.mem_cons.1 hx with rfl | hx
    · rw [h1, h2]
      simp
      omega
    · have ih := countP_lt p q hpq r x hx h1 h2
      by_cases hq : q y = true
      · rw [if_pos hq, if_pos (hpq y hq)]
        omega
      · rw [if_neg hq]
        split <;> omega
theorem ready_is {md : Region.Mode} {ops : Array Oper} {listed : Array Bool} {i : Nat} (h : i ∈ Region.ready md ops listed) : i < ops.size ∧ listed.getD i true = false ∧ i < listed.size := by
  unfold Region.ready at h
  have h1 := List.mem_filter.1 h
  have h2 := h1.2
  simp only [Bool.and_eq_true, Bool.not_eq_true'] at h2
  refine ⟨List.mem_range.1 h1.1, h2.1, ?_⟩
  refine Nat.lt_of_not_le fun hn => ?_
  have := h2.1
  rw [Array.getD_eq_getD_getElem?, Array.getElem?_eq_none hn] at this
  cases this
theorem leftN_set {md : Region.Mode} {ops : Array Oper} {listed : Array Bool} {i : Nat} (h : i ∈ Region.ready md ops listed) : leftN ops (listed.setIfInBounds i true) < leftN ops listed := by
  obtain ⟨h1, h2, h3⟩ := ready_is h
  unfold leftN
  refine countP_lt _ _ ?_ _ i (List.mem_range.2 h1) (by simpa using h2) ?_
  · intro x hx
    by_cases hxi : x = i
    · subst hxi; simpa using h2
    · rw [getD_set_ne true (fun e => hxi e.symm)] at hx
      exact hx
  · simp [Array.getD_eq_getD_getElem?, h3]
theorem wpAny_inv {P : Program} {md : Region.Mode} {ops : Array Oper} {Q : Exit → Act → World → Prop} (I : Array Bool → Act → World → Prop)
    (step : ∀ (listed : Array Bool) (a : Act) (w : World) (i : Nat), I listed a w → i ∈ Region.ready md ops listed → wpOp P ops Q i (I (listed.setIfInBounds i true)) a w)
    (fin : ∀ (listed : Array Bool) (a : Act) (w : World), I listed a w → Region.ready md ops listed = [] → Q .normal a w) :
    ∀ (fuel : Nat) (listed : Array Bool) (a : Act) (w : World), leftN ops listed ≤ fuel → I listed a w → wpAny P md ops Q fuel listed a w
  | 0, listed, a, w, hf, hI => by
    have hr : Region.ready md ops listed = [] := by
      cases hr : Region.ready md ops listed with
      | nil => rfl
      | cons x xs =>
        have := leftN_set (md := md) (ops := ops) (listed := listed) (i := x) (by rw [hr]; exact List.mem_cons_self ..)
        omega
    exact ⟨hr, fin listed a w hI hr⟩
  | fuel + 1, listed, a, w, hf, hI =>
    ⟨fun hr => fin listed a w hI hr, fun i hi => wpOp_mono (fun a' w' h' => wpAny_inv I step fin fuel _ a' w' (by have := leftN_set hi; omega) h') (step listed a w i hI hi)⟩
/-- A region that draws its order: what holds ahead of all, and is kept by each that may come up, holds behind all. -/
theorem wp_region_inv {P : Program} {ops : Array Oper} {Q : Exit → Act → World → Prop} {id : Nat} {a : Act} {w : World} (hm : P.follows .mixedOrders = true) (I : Array Bool → Act → World → Prop)
    (h0 : I (Array.replicate ops.size false) a w.drew)
    (step : ∀ (listed : Array Bool) (a : Act) (w : World) (i : Nat), I listed a w → i ∈ Region.ready .any ops listed → wpOp P ops Q i (I (listed.setIfInBounds i true)) a w)
    (fin : ∀ (listed : Array Bool) (a : Act) (w : World), I listed a w → Region.ready .any ops listed = [] → Q .normal a w) : (Code.region id ops true).wp P Q a w :=
  wp_region_any hm (wpAny_inv I step fin ops.size _ a _ (by unfold leftN; exact Nat.le_trans List.countP_le_length (by simp)) h0)
/-- What has come up, and what waits for what: of a list of what each waits for. -/
theorem ready_dep {md : Region.Mode} {ops : Array Oper} {listed : Array Bool} {i : Nat} (h : i ∈ Region.ready md ops listed) {o : Oper} (ho : ops[i]? = some o) {e} (he : e ∈ o.after) (hb : Region.binds md e = true) : listed.getD e.on false = true := by
  unfold Region.ready at h
  have h1 := (List.mem_filter.1 h).2
  simp only [ho, Option.map_some, Option.getD_some, Bool.and_eq_true, Array.all_eq_true_iff_forall_mem] at h1
  have h2 := h1.2 e he
  simpa [hb] using h2
/-- When none may come up, and each waits for those ahead of it alone, all have come up. -/
theorem all_up {md : Region.Mode} {ops : Array Oper} {listed : Array Bool} (hr : Region.ready md ops listed = []) (hn : listed.size = ops.size) (hw : ∀ i, i < ops.size → ∀ e ∈ (ops[i]!).after, e.on < i) : ∀ i, i < ops.size → listed.getD i false = true := by
  intro i
  induction i using Nat.strongRecOn with
  | ind i ih =>
    intro hi
    cases hl : listed.getD i false with
    | true => rfl
    | false =>
      exfalso
      have hin : i ∈ Region.ready md ops listed := by
        unfold Region.ready
        refine List.mem_filter.2 ⟨List.mem_range.2 hi, ?_⟩
        have e1 : listed.getD i true = false := by
          rw [Array.getD_eq_getD_getElem?] at hl ⊢
          rw [Array.getElem?_eq_getElem (by omega)] at hl ⊢
          exact hl
        have e2 : ops[i]? = some ops[i]! := by rw [Array.getElem?_eq_getElem hi, getElem!_pos ops i hi]
        rw [e1, e2]
        simp only [Bool.not_false, Option.map_some, Option.getD_some, Bool.true_and, Array.all_eq_true_iff_forall_mem]
        intro e he
        have h1 := hw i hi e he
        simp [ih e.on h1 (by omega)]
      rw [hr] at hin
      cases hin
/-- What has come up, all that it waits for has come up, too. -/
def ClosedUp (ops : Array Oper) (L : Array Bool) : Prop := ∀ (k : Nat) (o : Oper), ops[k]? = some o → L.getD k false = true → ∀ e ∈ o.after, Region.binds .any e = true → L.getD e.on false = true
/-- The same, with what holds of the frame at first, and all being closed. -/
theorem wp_region_inv2 {P : Program} {ops : Array Oper} {Q : Exit → Act → World → Prop} {id : Nat} {a : Act} {w : World} (hm : P.follows .mixedOrders = true) (F : Act → Prop) (I : Act → Array Bool → Act → World → Prop)
    (hF : F a) (h0 : ∀ a0, F a0 → I a0 (Array.replicate ops.size false) a0 w.drew)
    (step : ∀ (a0 : Act), F a0 → ∀ (listed : Array Bool) (a : Act) (w : World) (i : Nat), I a0 listed a w → ClosedUp ops listed → i ∈ Region.ready .any ops listed → wpOp P ops Q i (I a0 (listed.setIfInBounds i true)) a w)
    (fin : ∀ (a0 : Act), F a0 → ∀ (listed : Array Bool) (a : Act) (w : World), I a0 listed a w → Region.ready .any ops listed = [] → Q .normal a w) : (Code.region id ops true).wp P Q a w := by
  refine wp_region_inv hm (fun L a' w' => I a L a' w' ∧ ClosedUp ops L) ⟨h0 a hF, ?_⟩ ?_ ?_
  · intro k o _ hl
    rw [Array.getD_eq_getD_getElem?, Array.getElem?_replicate] at hl
    split at hl <;> simp at hl
  · rintro L a' w' i ⟨h, hc⟩ hi
    refine wpOp_mono (fun a2 w2 h2 => ⟨h2, ?_⟩) (step a hF L a' w' i h hc hi)
    obtain ⟨h1, hl, hs⟩ := ready_is hi
    intro k o ho hk e he hb
    have hmono : L.getD e.on false = true → (L.setIfInBounds i true).getD e.on false = true := by
      intro hh
      by_cases hei : e.on = i
      · rw [hei]
        simp [Array.getD_eq_getD_getElem?, hs]
      · rw [getD_set_ne false (fun x => hei x.symm)]
        exact hh
    by_cases hki : k = i
    · subst hki
      exact hmono (ready_dep hi ho he hb)
    · rw [getD_set_ne false (fun x => hki x.symm)] at hk
      exact hmono (hc k o ho hk e he hb)
  · rintro L a' w' ⟨h, -⟩ hr
    exact fin a hF L a' w' h hr
end Go.Proofs.YtiigggbghgfdoaaDoor
