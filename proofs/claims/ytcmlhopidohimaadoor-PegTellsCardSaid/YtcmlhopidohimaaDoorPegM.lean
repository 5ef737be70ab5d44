/- A peg in memory, in its box and as a value: words for the walks of its acts. Conditions: named in each theorem. -/
import Derived.Test.YtcmlhopidohimaaDoorPegK
namespace Go.Proofs.YtcmlhopidohimaaDoor
open Go.RowKit Go.ChangeShapes Go.WideShapes Go.ChangeAt

/-- A peg's value reads as s; its rows lie at or behind block N. -/
def PegAt (N : Nat) (W : World) (v : Value) (s : PegS) : Prop :=
  ∃ (A1 : Option Addr) (n1 c1 : Nat) (A2 : Option Addr) (n2 c2 : Nat) (A3 : Option Addr) (n3 c3 : Nat), v = pegV s.1 A1 n1 c1 A2 n2 c2 A3 n3 c3 ∧ FSl encP 2 W W.heap.size A1 n1 s.2.1 ∧ FSl encI 1 W W.heap.size A2 n2 s.2.2.1 ∧ FSl encR 3 W W.heap.size A3 n3 s.2.2.2 ∧
    n1 ≤ c1 ∧ n2 ≤ c2 ∧ n3 ≤ c3 ∧ c1 ≤ maxLen ∧ c3 ≤ maxLen ∧ Far N A1 ∧ Far N A2 ∧ Far N A3
theorem PegAt.below {N : Nat} {W W' : World} {v : Value} {s : PegS} (h : PegAt N W v s) (hb : Below W.heap.size W W') : PegAt N W' v s := by
  obtain ⟨A1, n1, c1, A2, n2, c2, A3, n3, c3, e, h1, h2, h3, h4⟩ := h
  exact ⟨A1, n1, c1, A2, n2, c2, A3, n3, c3, e, (FSl.below h1 hb).more hb.size, (FSl.below h2 hb).more hb.size, (FSl.below h3 hb).more hb.size, h4⟩
theorem far_none (N : Nat) : Far N none := fun _ _ _ e => by cases e
theorem zero_at (N : Nat) (W : World) : PegAt N W zeroPeg emptyS := ⟨none, 0, 0, none, 0, 0, none, 0, 0, rfl, FSl.nil_, FSl.nil_, FSl.nil_, Nat.le_refl _, Nat.le_refl _, Nat.le_refl _, Nat.zero_le _, Nat.zero_le _, far_none N, far_none N, far_none N⟩
theorem PegAt.mono {N M : Nat} {W : World} {v : Value} {s : PegS} (h : PegAt N W v s) (hM : M ≤ N) : PegAt M W v s := by
  obtain ⟨A1, n1, c1, A2, n2, c2, A3, n3, c3, e, h1, h2, h3, k1, k2, k3, m1, m3, f1, f2, f3⟩ := h
  exact ⟨A1, n1, c1, A2, n2, c2, A3, n3, c3, e, h1, h2, h3, k1, k2, k3, m1, m3, f1.mono hM, f2.mono hM, f3.mono hM⟩
theorem sl_set {w : World} {B sz n N : Nat} {A : Option Addr} {xs : List Value} (h : Sl w B sz A n xs) (hf : Far N A) {p : Addr} (hp : p.block < N) (u : Value) : Sl (w.setCell p u) B sz A n xs :=
  ⟨h.len, fun hn => by
    obtain ⟨b, off, e, hb, hc⟩ := h.cells hn
    exact ⟨b, off, e, hb, fun j v hv => (World.cell?_setCell_other w p _ u (fun e' => by
      have := hf b off none e
      subst e'
      exact absurd hp (Nat.not_lt.2 this))).trans (hc j v hv)⟩⟩
theorem PegAt.set {N : Nat} {W : World} {v : Value} {s : PegS} (h : PegAt N W v s) {p : Addr} (hp : p.block < N) (u : Value) : PegAt N (W.setCell p u) v s := by
  obtain ⟨A1, n1, c1, A2, n2, c2, A3, n3, c3, e, h1, h2, h3, k1, k2, k3, m1, m3, f1, f2, f3⟩ := h
  refine ⟨A1, n1, c1, A2, n2, c2, A3, n3, c3, e, ?_, ?_, ?_, k1, k2, k3, m1, m3, f1, f2, f3⟩
  · exact Sl.more (sl_set h1 f1 hp u) (by simp)
  · exact Sl.more (sl_set h2 f2 hp u) (by simp)
  · exact Sl.more (sl_set h3 f3 hp u) (by simp)
/-- What an act tells: the peg, or none. -/
def actOut (q : Int) (s : PegS) : PegS := if q = 0 then s else emptyS
theorem actOut_no {q : Int} (h : q ≠ 0) (s : PegS) : actOut q s = emptyS := by unfold actOut; rw [if_neg h]
theorem actOut_ok (s : PegS) : actOut 0 s = s := rfl

/-- A peg in its box, with the box of what is told beside it; all rows the call's own. -/
structure PegBox (w0 W : World) (s : PegS) (A1 : Option Addr) (n1 c1 : Nat) (A2 : Option Addr) (n2 c2 : Nat) (A3 : Option Addr) (n3 c3 : Nat) : Prop where
  box : W.heap[w0.heap.size]? = some (.cells #[.int .i64 s.1, .slice A1 n1 c1, .slice A2 n2 c2, .slice A3 n3 c3] 26 (0, 0))
  res : W.heap[w0.heap.size + 1]? = some (.cells #[.int .i64 0, .slice none 0 0, .slice none 0 0, .slice none 0 0] 26 (0, 0))
  own : Own3 W (w0.heap.size + 2) A1 n1 c1 s.2.1 A2 n2 c2 s.2.2.1 A3 n3 c3 s.2.2.2
  below : Below w0.heap.size w0 W
  size : w0.heap.size + 2 ≤ W.heap.size
section
variable {w0 W W' : World} {s : PegS} {A1 A2 A3 : Option Addr} {n1 c1 n2 c2 n3 c3 g : Nat}
theorem PegBox.cells (h : PegBox w0 W s A1 n1 c1 A2 n2 c2 A3 n3 c3) :
    (W.cell? ⟨w0.heap.size, 0, none⟩ = some (.int .i64 s.1) ∧ W.cell? ⟨w0.heap.size, 1, none⟩ = some (.slice A1 n1 c1) ∧ W.cell? ⟨w0.heap.size, 2, none⟩ = some (.slice A2 n2 c2) ∧ W.cell? ⟨w0.heap.size, 3, none⟩ = some (.slice A3 n3 c3)) ∧
    (W.frozen? ⟨w0.heap.size, 0, none⟩ = false ∧ W.frozen? ⟨w0.heap.size, 1, none⟩ = false ∧ W.frozen? ⟨w0.heap.size, 2, none⟩ = false ∧ W.frozen? ⟨w0.heap.size, 3, none⟩ = false) :=
  (keep4 (Below.refl W.heap.size W) (by have := h.size; omega) h.box).2
theorem PegBox.rescells (h : PegBox w0 W s A1 n1 c1 A2 n2 c2 A3 n3 c3) :
    (W.cell? ⟨w0.heap.size + 1, 0, none⟩ = some (.int .i64 0) ∧ W.cell? ⟨w0.heap.size + 1, 1, none⟩ = some (.slice none 0 0) ∧ W.cell? ⟨w0.heap.size + 1, 2, none⟩ = some (.slice none 0 0) ∧ W.cell? ⟨w0.heap.size + 1, 3, none⟩ = some (.slice none 0 0)) ∧
    (W.frozen? ⟨w0.heap.size + 1, 0, none⟩ = false ∧ W.frozen? ⟨w0.heap.size + 1, 1, none⟩ = false ∧ W.frozen? ⟨w0.heap.size + 1, 2, none⟩ = false ∧ W.frozen? ⟨w0.heap.size + 1, 3, none⟩ = false) :=
  (keep4 (Below.refl W.heap.size W) (by have := h.size; omega) h.res).2
theorem PegBox.keep (h : PegBox w0 W s A1 n1 c1 A2 n2 c2 A3 n3 c3) (hb : Below W.heap.size W W') : PegBox w0 W' s A1 n1 c1 A2 n2 c2 A3 n3 c3 := by
  have hs := h.size
  exact ⟨(hb.block _ (by omega)).trans h.box, (hb.block _ (by omega)).trans h.res, ⟨own_below h.own.p hb, own_below h.own.i hb, own_below h.own.r hb, h.own.pi, h.own.pr, h.own.ir⟩, h.below.trans (hb.mono (by omega)), Nat.le_trans hs hb.size⟩
theorem heap_set {w : World} {b o : Nat} {u : Value} {cs : Array Value} {t : TypeId} (h : w.heap[b]? = some (.cells cs t (0, 0))) : (w.setCell ⟨b, o, none⟩ u).heap[b]? = some (.cells (cs.setIfInBounds o u) t (0, 0)) :=
  heap_setCell_same w b o cs t u h
theorem Own3.keep {W W' : World} {base l1 l2 l3 : Nat} {ps : List (Int × Int)} {is : List Int} {rs : List (Int × Int × Bool)} (h : Own3 W base A1 n1 l1 ps A2 n2 l2 is A3 n3 l3 rs) (hk : ∀ k, base ≤ k → k < W.heap.size → W'.heap[k]? = W.heap[k]?) : Own3 W' base A1 n1 l1 ps A2 n2 l2 is A3 n3 l3 rs :=
  ⟨own_keep h.p hk, own_keep h.i hk, own_keep h.r hk, h.pi, h.pr, h.ir⟩
theorem PegBox.init {w0 w1 : World} {v0 v1 v2 v3 : Value} {l : Int} {ps : List (Int × Int)} {is : List Int} {rs : List (Int × Int × Bool)} (hbox : w1.heap[w0.heap.size]? = some (.cells #[v0, v1, v2, v3] 26 (0, 0)))
    (hres : w1.heap[w0.heap.size + 1]? = some (.cells #[.int .i64 0, .slice none 0 0, .slice none 0 0, .slice none 0 0] 26 (0, 0))) (ho : Own3 w1 (w0.heap.size + 2) A1 n1 c1 ps A2 n2 c2 is A3 n3 c3 rs) (hb : Below w0.heap.size w0 w1) (hs : w0.heap.size + 2 ≤ w1.heap.size) :
    PegBox w0 ((((w1.setCell ⟨w0.heap.size, 0, none⟩ (.int .i64 l)).setCell ⟨w0.heap.size, 1, none⟩ (.slice A1 n1 c1)).setCell ⟨w0.heap.size, 2, none⟩ (.slice A2 n2 c2)).setCell ⟨w0.heap.size, 3, none⟩ (.slice A3 n3 c3)) (l, ps, is, rs) A1 n1 c1 A2 n2 c2 A3 n3 c3 := by
  have hoth : ∀ k, k ≠ w0.heap.size → ((((w1.setCell ⟨w0.heap.size, 0, none⟩ (.int .i64 l)).setCell ⟨w0.heap.size, 1, none⟩ (.slice A1 n1 c1)).setCell ⟨w0.heap.size, 2, none⟩ (.slice A2 n2 c2)).setCell ⟨w0.heap.size, 3, none⟩ (.slice A3 n3 c3)).heap[k]? = w1.heap[k]? := fun k hk => by
    rw [Below.heap_setCell _ _ _ _ hk, Below.heap_setCell _ _ _ _ hk, Below.heap_setCell _ _ _ _ hk, Below.heap_setCell _ _ _ _ hk]
  refine ⟨?_, (hoth _ (by omega)).trans hres, ho.keep (fun k hk _ => hoth k (by omega)), (((hb.setCell (Nat.le_refl _) _).setCell (Nat.le_refl _) _).setCell (Nat.le_refl _) _).setCell (Nat.le_refl _) _, by simpa using hs⟩
  exact heap_set (heap_set (heap_set (heap_set hbox)))
/-- So much is locked, then. -/
theorem PegBox.lock (h : PegBox w0 W s A1 n1 c1 A2 n2 c2 A3 n3 c3) (l : Int) : PegBox w0 (W.setCell ⟨w0.heap.size, 0, none⟩ (.int .i64 l)) (l, s.2) A1 n1 c1 A2 n2 c2 A3 n3 c3 :=
  ⟨heap_set h.box, (Below.heap_setCell _ _ _ _ (by simp)).trans h.res, h.own.keep (fun k hk _ => Below.heap_setCell _ _ _ _ (by dsimp only; omega)), h.below.setCell (Nat.le_refl _) _, by simpa using h.size⟩
/-- A row of ints with one more. -/
theorem PegBox.ins (h : PegBox w0 W s A1 n1 c1 A2 n2 c2 A3 n3 c3) {o : Obj} {w2 : World} {A' : Option Addr} {n' c' : Nat} {is' : List Int} (ho : OwnI w2 (w0.heap.size + 2) (.slice A' n' c') n' is') (hb : Below (w0.heap.size + 2) (W.alloc o) w2)
    (hg : Grew (W.alloc o) w2 (.slice A2 n2 c2) (.slice A' n' c')) : PegBox w0 (w2.setCell ⟨w0.heap.size, 2, none⟩ (.slice A' n' c')) (s.1, s.2.1, is', s.2.2.2) A1 n1 c1 A' n' c' A3 n3 c3 := by
  have hs := h.size
  have hal : Below W.heap.size W (W.alloc o) := (Below.refl _ _).alloc (Nat.le_refl _) o
  have hbA := h.keep hal
  have hk : ∀ k, k < w0.heap.size + 2 → w2.heap[k]? = W.heap[k]? := fun k hk => (hb.block k hk).trans (Below.heap_alloc W o k (by omega))
  obtain ⟨p1, p2⟩ := hg.other hbA.own.p hbA.own.pi.symm
  obtain ⟨r1, r2⟩ := hg.other hbA.own.r hbA.own.ir
  have hset : ∀ k, w0.heap.size + 2 ≤ k → k < w2.heap.size → (w2.setCell ⟨w0.heap.size, 2, none⟩ (.slice A' n' c')).heap[k]? = w2.heap[k]? := fun k hk _ => Below.heap_setCell _ _ _ _ (by dsimp only; omega)
  refine ⟨?_, ?_, Own3.keep ⟨p1, ho, r1, p2.symm, hbA.own.pr, r2⟩ hset, ?_, ?_⟩
  · exact heap_set ((hk _ (by omega)).trans h.box)
  · exact (Below.heap_setCell _ _ _ _ (by simp)).trans ((hk _ (by omega)).trans h.res)
  · exact (hbA.below.trans (hb.mono (by omega))).setCell (Nat.le_refl _) _
  · have := hb.size
    simp at this ⊢
    omega
/-- A row of returns with one more. -/
theorem PegBox.insR (h : PegBox w0 W s A1 n1 c1 A2 n2 c2 A3 n3 c3) {o : Obj} {w2 : World} {A' : Option Addr} {n' c' : Nat} {rs' : List (Int × Int × Bool)} (ho : OwnR w2 (w0.heap.size + 2) (.slice A' n' c') n' rs') (hb : Below (w0.heap.size + 2) (W.alloc o) w2)
    (hg : Grew (W.alloc o) w2 (.slice A3 n3 c3) (.slice A' n' c')) : PegBox w0 (w2.setCell ⟨w0.heap.size, 3, none⟩ (.slice A' n' c')) (s.1, s.2.1, s.2.2.1, rs') A1 n1 c1 A2 n2 c2 A' n' c' := by
  have hs := h.size
  have hal : Below W.heap.size W (W.alloc o) := (Below.refl _ _).alloc (Nat.le_refl _) o
  have hbA := h.keep hal
  have hk : ∀ k, k < w0.heap.size + 2 → w2.heap[k]? = W.heap[k]? := fun k hk => (hb.block k hk).trans (Below.heap_alloc W o k (by omega))
  obtain ⟨p1, p2⟩ := hg.other hbA.own.p hbA.own.pr.symm
  obtain ⟨i1, i2⟩ := hg.other hbA.own.i hbA.own.ir.symm
  have hset : ∀ k, w0.heap.size + 2 ≤ k → k < w2.heap.size → (w2.setCell ⟨w0.heap.size, 3, none⟩ (.slice A' n' c')).heap[k]? = w2.heap[k]? := fun k hk _ => Below.heap_setCell _ _ _ _ (by dsimp only; omega)
  refine ⟨?_, ?_, Own3.keep ⟨p1, i1, ho, hbA.own.pi, p2.symm, i2.symm⟩ hset, ?_, ?_⟩
  · exact heap_set ((hk _ (by omega)).trans h.box)
  · exact (Below.heap_setCell _ _ _ _ (by simp)).trans ((hk _ (by omega)).trans h.res)
  · exact (hbA.below.trans (hb.mono (by omega))).setCell (Nat.le_refl _) _
  · have := hb.size
    simp at this ⊢
    omega
/-- A return, marked as paid. -/
theorem flat_setR (x : Int × Int × Bool) : ∀ (xs : List (Int × Int × Bool)) (L : Nat), L < xs.length → xs.getD L (0, 0, false) = x → (xs.flatMap encR).set (L * 3 + 2) (.bool true) = (xs.set L (x.1, x.2.1, true)).flatMap encR
  | [], L, h, _ => by simp at h
  | y :: r, 0, _, e => by
    have e' : y = x := e
    subst e'
    rfl
  | y :: r, L + 1, h, e => by
    have ih := flat_setR x r L (by simpa using h) e
    have e2 : (L + 1) * 3 + 2 = (L * 3 + 2) + 1 + 1 + 1 := by omega
    rw [e2, List.set_cons_succ, List.flatMap_cons, List.flatMap_cons]
    show (Value.int .i64 y.1) :: (Value.int .i64 y.2.1) :: (Value.bool y.2.2) :: (r.flatMap encR).set (L * 3 + 2) (.bool true) = _
    rw [ih]
    rfl
theorem grown_cell (w : World) (g j : Nat) (u : Value) : w.grownBy (w.setCell ⟨g, j, none⟩ u) (some g) :=
  ⟨rfl, rfl, rfl, by simp, fun k _ hn => Below.heap_setCell w _ _ k (fun e => hn (by rw [e]))⟩
theorem PegBox.paid (h : PegBox w0 W s A1 n1 c1 A2 n2 c2 (some ⟨g, 0, none⟩) n3 c3) {L : Nat} (hL : L < n3) {x : Int × Int × Bool} (hx : s.2.2.2.getD L (0, 0, false) = x) (hlen : s.2.2.2.length = n3) :
    PegBox w0 (W.setCell ⟨g, L * 3 + 2, none⟩ (.bool true)) (s.1, s.2.1, s.2.2.1, s.2.2.2.set L (x.1, x.2.1, true)) A1 n1 c1 A2 n2 c2 (some ⟨g, 0, none⟩) n3 c3 := by
  have hg : w0.heap.size + 2 ≤ g := own_block_ge h.own.r g rfl
  have hr := own_setcell h.own.r (L * 3 + 2) (.bool true) (by omega)
  rw [flat_setR x s.2.2.2 L (by omega) hx] at hr
  refine ⟨(Below.heap_setCell _ _ _ _ (by dsimp only; omega)).trans h.box, (Below.heap_setCell _ _ _ _ (by dsimp only; omega)).trans h.res, ⟨?_, ?_, hr, h.own.pi, h.own.pr, h.own.ir⟩, h.below.setCell (by dsimp only; omega) _, by simpa using h.size⟩
  · exact h.own.p.kept (grown_cell W g _ _) (.inr (fun e => h.own.pr g e rfl))
  · exact h.own.i.kept (grown_cell W g _ _) (.inr (fun e => h.own.ir g e rfl))
/-- What more leaves. -/
theorem PegBox.more (h : PegBox w0 W s A1 n1 c1 A2 n2 c2 A3 n3 c3) {ps' : List (Int × Int)} (hm : MoreD W W' w0.heap.size w0.heap.size s.1 (.slice A2 n2 c2) (.slice A3 n3 c3) A1 n1 c1 ps') :
    ∃ A' n' c', PegBox w0 W' (s.1, ps', s.2.2) A' n' c' A2 n2 c2 A3 n3 c3 := by
  obtain ⟨A', n', c', hbox, hown, hfar, hbel, hkept, hat⟩ := hm
  have hs := h.size
  have hnb : ∀ k, w0.heap.size + 2 ≤ k → k < W.heap.size → (Value.slice A1 n1 c1).ownBlock ≠ some k → W'.heap[k]? = W.heap[k]? := fun k hk hlt hne => hkept.2 k hlt (fun e => by
    rcases e with e | e
    · omega
    · exact hne e)
  have hres : (Value.slice A1 n1 c1).ownBlock ≠ some (w0.heap.size + 1) := fun e => by
    have := own_block_ge h.own.p _ e
    omega
  have hge : ∀ k, (Value.slice A' n' c').ownBlock = some k → w0.heap.size + 2 ≤ k ∧ ((Value.slice A1 n1 c1).ownBlock = some k ∨ W.heap.size ≤ k) := by
    intro k hk
    rcases hat with e | ⟨g, e, hg⟩
    · rw [e] at hk
      exact ⟨own_block_ge h.own.p k hk, .inl hk⟩
    · rw [hk] at e
      injection e with e
      subst e
      exact ⟨by omega, .inr hg⟩
  refine ⟨A', n', c', hbox, (hkept.2 _ (by omega) (fun e => by
    rcases e with e | e
    · omega
    · exact hres e)).trans h.res, ⟨?_, ?_, ?_, ?_, ?_, h.own.ir⟩, h.below.trans hbel, Nat.le_trans hs hkept.1⟩
  · refine ⟨hown.1, ?_⟩
    rcases hown.2 with h1 | ⟨g, cap, cur, h1, h2, h3⟩
    · exact .inl h1
    · exact .inr ⟨g, cap, cur, h1, (hge g (by rw [h1]; rfl)).1, h3⟩
  · refine ⟨h.own.i.1, ?_⟩
    rcases h.own.i.2 with h1 | ⟨g, cap, cur, h1, h2, h3, h4⟩
    · exact .inl h1
    · exact .inr ⟨g, cap, cur, h1, h2, (hnb g h2 (Array.getElem?_eq_some_iff.1 h3).1 (fun e => h.own.pi g e (by rw [h1]; rfl))).trans h3, h4⟩
  · refine ⟨h.own.r.1, ?_⟩
    rcases h.own.r.2 with h1 | ⟨g, cap, cur, h1, h2, h3, h4⟩
    · exact .inl h1
    · exact .inr ⟨g, cap, cur, h1, h2, (hnb g h2 (Array.getElem?_eq_some_iff.1 h3).1 (fun e => h.own.pr g e (by rw [h1]; rfl))).trans h3, h4⟩
  · intro k hk hu
    have hlt := (h.own.i.lt k hu).2
    rcases (hge k hk).2 with e | e
    · exact h.own.pi k e hu
    · omega
  · intro k hk hu
    have hlt := (h.own.r.lt k hu).2
    rcases (hge k hk).2 with e | e
    · exact h.own.pr k e hu
    · omega
theorem own_caps {w : World} {base sz n c : Nat} {e : TypeId} {A : Option Addr} {xs : List Value} (h : w.ownsRow base e sz (.slice A n c) n xs) : n ≤ c ∧ c ≤ maxLen := by
  obtain ⟨A', c', e, h1, h2⟩ := own_slice h
  injection e with _ _ e
  subst e
  exact ⟨h1, h2⟩
theorem PegBox.lens (h : PegBox w0 W s A1 n1 c1 A2 n2 c2 A3 n3 c3) : s.2.1.length = n1 ∧ s.2.2.1.length = n2 ∧ s.2.2.2.length = n3 := by
  have h1 := h.own.p.1
  have h2 := h.own.i.1
  have h3 := h.own.r.1
  rw [flat_len encP_len] at h1
  rw [flat_len encI_len] at h2
  rw [flat_len encR_len] at h3
  omega
theorem putP_get {ps : List (Int × Int)} (h : Asc keyP ps) (t : Int) : ((putP t ps).getD (lbN keyP t ps) (0, 0)).2 = amtS t ps := by
  rw [← amtP_eq h]
  unfold putP amtP
  split
  · rfl
  · have hle : lbN keyP t ps ≤ ps.length := List.countP_le_length
    rw [List.getD_eq_getElem?_getD, List.getElem?_append_right (by rw [List.length_take]; omega), List.length_take, Nat.min_eq_left hle, Nat.sub_self]
    rfl
/-- More, of a peg in its box. -/
theorem PegBox.calls_more (h : PegBox w0 W s A1 n1 c1 A2 n2 c2 A3 n3 c3) (hs : Asc keyP s.2.1) (hn : n1 ≤ 900) (t d : Int) (hwr : -9223372036854775808 ≤ amtS t s.2.1 + d ∧ amtS t s.2.1 + d ≤ 9223372036854775807) :
    Calls Tryd.prog 34 #[.pointer (some ⟨w0.heap.size, 0, none⟩), .int .i64 t, .int .i64 d] W (fun e w' => e = .returned (.tuple #[]) ∧ ∃ A' n' c', PegBox w0 w' (s.1, setP t (amtS t s.2.1 + d) s.2.1, s.2.2) A' n' c' A2 n2 c2 A3 n3 c3) := by
  have hz := h.size
  refine (more_any s.2.1 hs t d w0.heap.size w0.heap.size n1 c1 s.1 A1 A2 n2 c2 A3 n3 c3 W h.box (own_lower h.own.p (by omega)) ?_ (Nat.le_refl _) (by omega) hn ?_).mono ?_
  · rintro g o q rfl
    have := own_block_ge h.own.p g rfl
    omega
  · rw [putP_get hs, IntKind.wrap_i64]
    omega
  · rintro e w' ⟨rfl, hm⟩
    rw [moreP_set hs] at hm
    exact ⟨rfl, h.more hm⟩
theorem PegBox.calls_amount (h : PegBox w0 W s A1 n1 c1 A2 n2 c2 A3 n3 c3) (hs : Asc keyP s.2.1) (hn : n1 ≤ 1000) (t : Int) :
    Calls Tryd.prog 28 #[pegV s.1 A1 n1 c1 A2 n2 c2 A3 n3 c3, .int .i64 t] W (fun e w' => e = .returned (.int .i64 (amtS t s.2.1)) ∧ PegBox w0 w' s A1 n1 c1 A2 n2 c2 A3 n3 c3) := by
  refine (amount_any s.2.1 hs s.1 A1 n1 c1 A2 n2 c2 A3 n3 c3 t W (Sl.own h.own.p) hn).mono ?_
  rintro e w' ⟨rfl, hb⟩
  rw [amtP_eq hs]
  exact ⟨rfl, h.keep hb⟩
theorem PegBox.calls_ret (h : PegBox w0 W s A1 n1 c1 A2 n2 c2 A3 n3 c3) (hs : Asc keyR s.2.2.2) (hn : n3 ≤ 1000) (t : Int) {r : Bool} (hr : hasB keyR t s.2.2.2 = r) :
    Calls Tryd.prog 36 #[pegV s.1 A1 n1 c1 A2 n2 c2 A3 n3 c3, .int .i64 t] W (fun e w' => e = .returned (.tuple #[.int .i64 (lbN keyR t s.2.2.2), .bool r]) ∧ PegBox w0 w' s A1 n1 c1 A2 n2 c2 A3 n3 c3) := by
  refine (ret_any s.2.2.2 hs s.1 A1 n1 c1 A2 n2 c2 A3 n3 c3 t W (Sl.own h.own.r) hn).mono ?_
  rintro e w' ⟨rfl, hb⟩
  rw [hr]
  exact ⟨rfl, h.keep hb⟩
theorem PegBox.calls_insR (h : PegBox w0 W s A1 n1 c1 A2 n2 c2 A3 n3 c3) (hs : Asc keyR s.2.2.2) (hn : n3 ≤ 900) (x a : Int) (hr : hasB keyR x s.2.2.2 = false) :
    Calls Tryd.prog 37 #[.slice A3 n3 c3, .int .i64 (lbN keyR x s.2.2.2), .slice (some ⟨W.heap.size, 0, none⟩) 1 1] (W.alloc (.cells #[.int .i64 x, .int .i64 a, .bool false] 49)) (fun e w' => ∃ A' c', e = .returned (.slice A' (n3 + 1) c') ∧
      PegBox w0 (w'.setCell ⟨w0.heap.size, 3, none⟩ (.slice A' (n3 + 1) c')) (s.1, s.2.1, s.2.2.1, insK keyR (x, a, false) s.2.2.2) A1 n1 c1 A2 n2 c2 A' (n3 + 1) c' ∧ w'.heap[w0.heap.size]? = some (.cells #[.int .i64 s.1, .slice A1 n1 c1, .slice A2 n2 c2, .slice A3 n3 c3] 26 (0, 0))) := by
  have hz := h.size
  have hle : lbN keyR x s.2.2.2 ≤ n3 := by
    have h1 : lbN keyR x s.2.2.2 ≤ s.2.2.2.length := List.countP_le_length
    have h2 := h.own.r.1
    rw [flat_len encR_len] at h2
    omega
  have hal : Below W.heap.size W (W.alloc (.cells #[.int .i64 x, .int .i64 a, .bool false] 49)) := (Below.refl _ _).alloc (Nat.le_refl _) _
  refine (insertR_any s.2.2.2 (x, a, false) (lbN keyR x s.2.2.2) n3 hle A3 c3 (w0.heap.size + 2) W.heap.size (W.alloc (.cells #[.int .i64 x, .int .i64 a, .bool false] 49)) (own_below h.own.r hal) (heap_alloc_new _ _) ?_ (by omega) (by simp; omega)).mono ?_
  · rintro g o q rfl
    have := (h.own.r.lt g rfl).2
    omega
  · rintro e w' ⟨A', c', rfl, ho, hb, hg⟩
    have e := insK_lb (key := keyR) hs (x, a, false) hr
    change s.2.2.2.take (lbN keyR x s.2.2.2) ++ (x, a, false) :: s.2.2.2.drop (lbN keyR x s.2.2.2) = insK keyR (x, a, false) s.2.2.2 at e
    rw [e] at ho
    exact ⟨A', c', rfl, h.insR ho hb hg, (hb.block _ (by omega)).trans (h.keep hal).box⟩
theorem PegBox.drew (h : PegBox w0 W s A1 n1 c1 A2 n2 c2 A3 n3 c3) : PegBox w0 W.drew s A1 n1 c1 A2 n2 c2 A3 n3 c3 :=
  ⟨h.box, h.res, ⟨h.own.p, h.own.i, h.own.r, h.own.pi, h.own.pr, h.own.ir⟩, below_drew1 h.below, h.size⟩
theorem box_cells {w1 : World} {b : Nat} {v0 v1 v2 v3 : Value} {t : TypeId} (hh : w1.heap[b]? = some (.cells #[v0, v1, v2, v3] t (0, 0))) :
    (w1.cell? ⟨b, 0, none⟩ = some v0 ∧ w1.cell? ⟨b, 1, none⟩ = some v1 ∧ w1.cell? ⟨b, 2, none⟩ = some v2 ∧ w1.cell? ⟨b, 3, none⟩ = some v3) ∧
    (w1.frozen? ⟨b, 0, none⟩ = false ∧ w1.frozen? ⟨b, 1, none⟩ = false ∧ w1.frozen? ⟨b, 2, none⟩ = false ∧ w1.frozen? ⟨b, 3, none⟩ = false) := by
  refine ⟨⟨?_, ?_, ?_, ?_⟩, ?_, ?_, ?_, ?_⟩ <;> simp [World.cell?, World.frozen?, hh]
theorem PegBox.got (h : PegBox w0 W s A1 n1 c1 A2 n2 c2 (some ⟨g, 0, none⟩) n3 c3) {L : Nat} (hL : L < n3) {x : Int × Int × Bool} (hx : s.2.2.2.getD L (0, 0, false) = x) :
    W.cell? ⟨g, L * 3 + 1, none⟩ = some (.int .i64 x.2.1) ∧ W.cell? ⟨g, L * 3 + 2, none⟩ = some (.bool x.2.2) ∧ W.frozen? ⟨g, L * 3 + 2, none⟩ = false ∧ w0.heap.size + 2 ≤ g ∧ g < W.heap.size ∧ n3 ≤ c3 := by
  obtain ⟨b, off, e, hb, hc⟩ := FSl.at_ encR_len (by decide) (0, 0, false) (Sl.own h.own.r : FSl encR 3 W W.heap.size (some ⟨g, 0, none⟩) n3 s.2.2.2) hL
  injection e with e
  injection e with e1 e2
  subst e1 e2
  rw [hx] at hc
  have c1 := hc 1 _ rfl
  have c2 := hc 2 _ rfl
  rw [Nat.zero_add] at c1 c2
  obtain ⟨g', cur, e, h1, h2, h3, -⟩ := own_open h.own.r (.inl (by omega))
  injection e with e
  injection e with e1 e2
  subst e1
  exact ⟨c1, c2, by simp [World.frozen?, h2], h1, hb, h3⟩
/-- What is told. -/
theorem PegBox.done (h : PegBox w0 W s A1 n1 c1 A2 n2 c2 A3 n3 c3) {W' : World} (hb : Below w0.heap.size W W') (hk : ∀ k, w0.heap.size + 2 ≤ k → W'.heap[k]? = W.heap[k]?) :
    PegAt w0.heap.size W' (pegV s.1 A1 n1 c1 A2 n2 c2 A3 n3 c3) s ∧ Below w0.heap.size w0 W' := by
  have ho := h.own.keep (W' := W') (fun k hk' _ => hk k hk')
  exact ⟨⟨A1, n1, c1, A2, n2, c2, A3, n3, c3, rfl, Sl.own ho.p, Sl.own ho.i, Sl.own ho.r, (own_caps ho.p).1, (own_caps ho.i).1, (own_caps ho.r).1, (own_caps ho.p).2, (own_caps ho.r).2, (far_own ho.p).mono (by omega), (far_own ho.i).mono (by omega), (far_own ho.r).mono (by omega)⟩, h.below.trans hb⟩
theorem res_low {w0 W : World} (h : w0.heap.size ≤ W.heap.size) (u0 u1 u2 u3 : Value) : Low w0.heap.size W ((((W.setCell ⟨w0.heap.size + 1, 0, none⟩ u0).setCell ⟨w0.heap.size + 1, 1, none⟩ u1).setCell ⟨w0.heap.size + 1, 2, none⟩ u2).setCell ⟨w0.heap.size + 1, 3, none⟩ u3) :=
  ((((Low.refl h).set (by dsimp only; omega) (by dsimp only; omega) _).set (by dsimp only; omega) (by dsimp only; omega) _).set (by dsimp only; omega) (by dsimp only; omega) _).set (by dsimp only; omega) (by dsimp only; omega) _
theorem PegBox.fin (h : PegBox w0 W s A1 n1 c1 A2 n2 c2 A3 n3 c3) (u0 u1 u2 u3 : Value) :
    PegAt w0.heap.size ((((W.setCell ⟨w0.heap.size + 1, 0, none⟩ u0).setCell ⟨w0.heap.size + 1, 1, none⟩ u1).setCell ⟨w0.heap.size + 1, 2, none⟩ u2).setCell ⟨w0.heap.size + 1, 3, none⟩ u3) (pegV s.1 A1 n1 c1 A2 n2 c2 A3 n3 c3) s ∧
    Below w0.heap.size w0 ((((W.setCell ⟨w0.heap.size + 1, 0, none⟩ u0).setCell ⟨w0.heap.size + 1, 1, none⟩ u1).setCell ⟨w0.heap.size + 1, 2, none⟩ u2).setCell ⟨w0.heap.size + 1, 3, none⟩ u3) :=
  have hl := res_low (w0 := w0) (W := W) (by have := h.size; omega) u0 u1 u2 u3
  h.done hl.1 hl.2
theorem bad_fin {w0 W : World} (h : Below w0.heap.size w0 W) (u0 u1 u2 u3 : Value) :
    PegAt w0.heap.size ((((W.setCell ⟨w0.heap.size + 1, 0, none⟩ u0).setCell ⟨w0.heap.size + 1, 1, none⟩ u1).setCell ⟨w0.heap.size + 1, 2, none⟩ u2).setCell ⟨w0.heap.size + 1, 3, none⟩ u3) zeroPeg emptyS ∧
    Below w0.heap.size w0 ((((W.setCell ⟨w0.heap.size + 1, 0, none⟩ u0).setCell ⟨w0.heap.size + 1, 1, none⟩ u1).setCell ⟨w0.heap.size + 1, 2, none⟩ u2).setCell ⟨w0.heap.size + 1, 3, none⟩ u3) :=
  ⟨zero_at _ _, h.trans (res_low (w0 := w0) (W := W) h.size u0 u1 u2 u3).1⟩
end
end Go.Proofs.YtcmlhopidohimaaDoor
