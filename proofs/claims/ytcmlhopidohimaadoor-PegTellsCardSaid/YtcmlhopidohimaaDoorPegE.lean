/- More for somebody, or less: the walk. Conditions: named in each theorem. -/
import Derived.Test.YtcmlhopidohimaaDoorPegD
import Derived.Outline
namespace Go.Proofs.YtcmlhopidohimaaDoor
open Go.RowKit Go.ChangeShapes Go.WideShapes Go.ChangeAt

def putP (t : Int) (ps : List (Int × Int)) : List (Int × Int) := if hasB keyP t ps then ps else ps.take (lbN keyP t ps) ++ (t, 0) :: ps.drop (lbN keyP t ps)
/-- What one has is made more, or less; what is none is taken out. -/
def addP (L : Nat) (d : Int) (qs : List (Int × Int)) : List (Int × Int) := if (qs.getD L (0, 0)).2 + d = 0 then qs.take L ++ qs.drop (L + 1) else qs.set L ((qs.getD L (0, 0)).1, (qs.getD L (0, 0)).2 + d)
def moreP (t d : Int) (ps : List (Int × Int)) : List (Int × Int) := addP (lbN keyP t ps) d (putP t ps)

/-- All but some are kept. -/
def KeptBut (w w' : World) (S : Nat → Prop) : Prop := w.heap.size ≤ w'.heap.size ∧ ∀ k, k < w.heap.size → ¬ S k → w'.heap[k]? = w.heap[k]?
theorem KeptBut.trans {w w1 w2 : World} {S T U : Nat → Prop} (h1 : KeptBut w w1 S) (h2 : KeptBut w1 w2 T) (hs : ∀ k, S k → U k) (ht : ∀ k, k < w.heap.size → T k → U k) : KeptBut w w2 U :=
  ⟨Nat.le_trans h1.1 h2.1, fun k hk hn => (h2.2 k (Nat.lt_of_lt_of_le hk h1.1) (fun h => hn (ht k hk h))).trans (h1.2 k hk (fun h => hn (hs k h)))⟩
theorem KeptBut.below {w w' : World} (h : Below w.heap.size w w') (S : Nat → Prop) : KeptBut w w' S := ⟨h.size, fun k hk _ => h.block k hk⟩
theorem KeptBut.setCell (w : World) (p : Addr) (u : Value) (S : Nat → Prop) (h : S p.block) : KeptBut w (w.setCell p u) S := ⟨by simp, fun k _ hn => Below.heap_setCell w p u k (fun e => hn (e ▸ h))⟩
theorem KeptBut.grew {w w' : World} {v v' : Value} (h : Grew w w' v v') (S : Nat → Prop) (hs : ∀ k, v.ownBlock = some k → S k) : KeptBut w w' S := ⟨h.by_.size, fun k hk hn => h.by_.block k hk (fun e => hn (hs k e.symm))⟩
theorem KeptBut.alloc (w : World) (o : Obj) (S : Nat → Prop) : KeptBut w (w.alloc o) S := ⟨by simp, fun k hk _ => Below.heap_alloc w o k hk⟩

theorem own_setcell {w : World} {base g : Nat} {e : TypeId} {sz n c : Nat} {xs : List Value} (h : w.ownsRow base e sz (.slice (some ⟨g, 0, none⟩) n c) n xs) (j : Nat) (u : Value) (hn : 0 < n) :
    (w.setCell ⟨g, j, none⟩ u).ownsRow base e sz (.slice (some ⟨g, 0, none⟩) n c) n (xs.set j u) := by
  obtain ⟨g', cur, e1, hb, hg, hnc, hcm, hl, ht⟩ := own_open h (.inl hn)
  injection e1 with e1
  injection e1 with e1 _
  subst e1
  have h2 := heap_setCell_same w g j cur.toArray e u hg
  refine own_shut (cur := cur.set j u) hb (by rw [h2]; simp) hnc hcm (by simpa using hl) ?_
  rw [List.take_set, ht]
theorem flat_setP (a : Int) : ∀ (xs : List (Int × Int)) (L : Nat), L < xs.length → (xs.flatMap encP).set (L * 2 + 1) (.int .i64 a) = (xs.set L ((xs.getD L (0, 0)).1, a)).flatMap encP
  | [], L, h => by simp at h
  | x :: r, 0, _ => rfl
  | x :: r, L + 1, h => by
    have ih := flat_setP a r L (by simpa using h)
    have e : (L + 1) * 2 + 1 = (L * 2 + 1) + 1 + 1 := by omega
    rw [e]
    simp only [List.flatMap_cons, encP, List.cons_append, List.nil_append, List.set_cons_succ, List.getD_cons_succ]
    rw [ih]

/-- What is known of the pile that is made more. -/
structure PileAt (W : World) (base pb g N C L : Nat) (k : Int) (v2 v3 : Value) (qs : List (Int × Int)) : Prop where
  box : W.heap[pb]? = some (.cells #[.int .i64 k, .slice (some ⟨g, 0, none⟩) N C, v2, v3] 26 (0, 0))
  own : OwnP W base (.slice (some ⟨g, 0, none⟩) N C) N qs
  lt : L < N
  far : g ≠ pb


set_option maxHeartbeats 2000000 in
set_option maxRecDepth 100000 in
/-- The part behind the searching: the pile is there. -/
theorem PileAt.facts {W : World} {base pb g m C L : Nat} {k d y1 y2 : Int} {v2 v3 : Value} {qs : List (Int × Int)} (h : PileAt W base pb g (m + 1) C L k v2 v3 qs) (hy : qs.getD L (0, 0) = (y1, y2)) :
    L ≤ m ∧ m + 1 ≤ C ∧ C ≤ 9223372036854775807 ∧ g < W.heap.size ∧ pb < W.heap.size ∧ base ≤ g ∧
    W.cell? ⟨pb, 1, none⟩ = some (.slice (some ⟨g, 0, none⟩) (m + 1) C) ∧ W.frozen? ⟨pb, 1, none⟩ = false ∧ W.cell? ⟨g, L * 2 + 1, none⟩ = some (.int .i64 y2) ∧ W.frozen? ⟨g, L * 2 + 1, none⟩ = false ∧
    PileAt (W.setCell ⟨g, L * 2 + 1, none⟩ (.int .i64 (y2 + d))) base pb g (m + 1) C L k v2 v3 (qs.set L (y1, y2 + d)) := by
  have hlt := h.lt
  obtain ⟨g', cur, e1, hb, hg, hnc, hcm, hl, ht⟩ := own_open h.own (.inl (by omega))
  injection e1 with e1
  injection e1 with e1 _
  subst e1
  have hq : qs.length = m + 1 := by
    have := h.own.1
    rw [flat_len encP_len] at this
    omega
  have hc : cur[L * 2 + 1]? = some (.int .i64 y2) := by
    have e := flat_get encP_len (0, 0) qs (k := L) (j := 1) (by omega) (by decide)
    rw [hy, ← ht, List.getElem?_take_of_lt (by omega)] at e
    exact e
  unfold maxLen at hcm
  refine ⟨by omega, hnc, by omega, (Array.getElem?_eq_some_iff.1 hg).1, (Array.getElem?_eq_some_iff.1 h.box).1, hb, by simp [World.cell?, h.box], by simp [World.frozen?, h.box], by simp [World.cell?, hg, hc], by simp [World.frozen?, hg], ?_⟩
  refine ⟨(Below.heap_setCell W _ _ pb (fun e => h.far e.symm)).trans h.box, ?_, h.lt, h.far⟩
  have ho := own_setcell h.own (L * 2 + 1) (.int .i64 (y2 + d)) (by omega)
  rw [flat_setP (y2 + d) qs L (by omega), hy] at ho
  exact ho


/-- What was done to the piles alone. -/
structure From (w W : World) (base pb g : Nat) (A : Option Addr) (n C : Nat) : Prop where
  below : Below base w W
  kept : KeptBut w W (fun j => j = pb ∨ (Value.slice A n C).ownBlock = some j)
  at_ : (Value.slice A n C).ownBlock = some g ∨ w.heap.size ≤ g
def MoreD (w w' : World) (base pb : Nat) (k : Int) (v2 v3 : Value) (A : Option Addr) (n C : Nat) (xs : List (Int × Int)) : Prop :=
  ∃ (A' : Option Addr) (n' C' : Nat), w'.heap[pb]? = some (.cells #[.int .i64 k, .slice A' n' C', v2, v3] 26 (0, 0)) ∧ OwnP w' base (.slice A' n' C') n' xs ∧ (∀ g o s, A' = some ⟨g, o, s⟩ → g ≠ pb) ∧ Below base w w' ∧
    KeptBut w w' (fun j => j = pb ∨ (Value.slice A n C).ownBlock = some j) ∧ ((Value.slice A' n' C').ownBlock = (Value.slice A n C).ownBlock ∨ ∃ g, (Value.slice A' n' C').ownBlock = some g ∧ w.heap.size ≤ g)
theorem From.set {w W : World} {base pb g n C : Nat} {A : Option Addr} (h : From w W base pb g A n C) (hb : base ≤ g) (j : Nat) (u : Value) : From w (W.setCell ⟨g, j, none⟩ u) base pb g A n C :=
  ⟨h.below.setCell hb u, h.kept.trans (KeptBut.setCell W ⟨g, j, none⟩ u (fun k => k = g) rfl) (fun _ h => h) (fun k hk e => by
    rcases h.at_ with h1 | h1
    · exact .inr (by rw [h1, e])
    · omega), h.at_⟩
theorem From.own {w W : World} {base pb g n C : Nat} {A : Option Addr} (h : From w W base pb g A n C) {N C' : Nat} : (Value.slice (some ⟨g, 0, none⟩) N C').ownBlock = (Value.slice A n C).ownBlock ∨ ∃ q, (Value.slice (some ⟨g, 0, none⟩) N C').ownBlock = some q ∧ w.heap.size ≤ q := by
  rcases h.at_ with h1 | h1
  · exact .inl h1.symm
  · exact .inr ⟨g, rfl, h1⟩
theorem PileAt.fin {w W : World} {base pb g N C L n c : Nat} {k : Int} {v2 v3 : Value} {A : Option Addr} {qs : List (Int × Int)} (h : PileAt W base pb g N C L k v2 v3 qs) (hf : From w W base pb g A n c) : MoreD w W base pb k v2 v3 A n c qs :=
  ⟨_, _, _, h.box, h.own, fun g' o s e => by
    injection e with e
    injection e with e
    exact e ▸ h.far, hf.below, hf.kept, hf.own⟩
/-- The box behind what was taken out. -/
theorem PileAt.box3 {W W3 : World} {base pb g m C L : Nat} {k : Int} {v2 v3 : Value} {qs : List (Int × Int)} (h : PileAt W base pb g (m + 1) C L k v2 v3 qs) {v' : Value} (hg : Grew W W3 (.slice (some ⟨g, 0, none⟩) (m + 1) C) v') :
    W3.heap[pb]? = some (.cells #[.int .i64 k, .slice (some ⟨g, 0, none⟩) (m + 1) C, v2, v3] 26 (0, 0)) :=
  (hg.by_.block pb (Array.getElem?_eq_some_iff.1 h.box).1 (fun e => h.far (by injection e with e; exact e.symm))).trans h.box
theorem PileAt.del {w W W3 : World} {base pb g m C L n c : Nat} {k : Int} {v2 v3 : Value} {A : Option Addr} {qs rs : List (Int × Int)} (h : PileAt W base pb g (m + 1) C L k v2 v3 qs) (hf : From w W base pb g A n c) (hbp : base ≤ pb) {A' : Option Addr} {c' : Nat}
    (ho : OwnP W3 base (.slice A' m c') m rs) (hb : Below base W W3) (hg : Grew W W3 (.slice (some ⟨g, 0, none⟩) (m + 1) C) (.slice A' m c')) : MoreD w (W3.setCell ⟨pb, 1, none⟩ (.slice A' m c')) base pb k v2 v3 A n c rs := by
  have hbx := h.box3 hg
  have hpb := (Array.getElem?_eq_some_iff.1 h.box).1
  have hg' : ∀ q o s, A' = some ⟨q, o, s⟩ → q = g ∨ W.heap.size ≤ q := by
    rintro q o s rfl
    rcases hg.at_ with e | ⟨q', e, h'⟩
    · left
      have : some q = some g := e
      injection this
    · right
      have : some q = some q' := e
      injection this with this
      omega
  have hfar : ∀ q o s, A' = some ⟨q, o, s⟩ → q ≠ pb := by
    intro q o s e he
    have h1 := h.far
    rcases hg' q o s e with h2 | h2 <;> omega
  refine ⟨A', m, c', ?_, ?_, hfar, (hf.below.trans hb).setCell hbp _, ?_, ?_⟩
  · rw [heap_setCell_same W3 pb 1 _ _ _ hbx]
    rfl
  · refine ownsRow_setCell_other ho ?_ _
    intro e
    cases A' with
    | none => cases e
    | some a =>
      obtain ⟨q, o, s⟩ := a
      injection e with e
      exact hfar q o s rfl e
  · refine (hf.kept.trans (KeptBut.grew hg (fun j => j = g) (fun j e => ?_)) (fun _ h => h) (fun j hj e => ?_)).trans (KeptBut.setCell W3 ⟨pb, 1, none⟩ _ (fun j => j = pb) rfl) (fun _ h => h) (fun j _ e => .inl e)
    · injection e with e
      exact e.symm
    · rcases hf.at_ with h1 | h1
      · exact .inr (by rw [h1, e])
      · omega
  · cases A' with
    | none =>
      rcases hg.at_ with e | ⟨q', e, h'⟩ <;> cases e
    | some a =>
      obtain ⟨q, o, s⟩ := a
      rcases hg' q o s rfl with rfl | h2
      · rcases hf.at_ with h1 | h1
        · exact .inl h1.symm
        · exact .inr ⟨q, rfl, h1⟩
      · exact .inr ⟨q, rfl, Nat.le_trans hf.kept.1 h2⟩
end Go.Proofs.YtcmlhopidohimaaDoor
