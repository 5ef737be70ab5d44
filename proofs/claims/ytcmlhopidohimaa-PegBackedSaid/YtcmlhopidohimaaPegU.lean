/- A peg behind acts: the walk. Conditions: named in each theorem. -/
import Derived.Test.YtcmlhopidohimaaPegR
import Derived.Test.YtcmlhopidohimaaPegO
import Derived.Deep.RegionHeld3
import Derived.StillTailTactics
import Derived.Deep.Cut
namespace Go.Proofs.Ytcmlhopidohimaa
open Go.RowKit Go.ChangeShapes Go.WideShapes Go.ChangeAt

/-- A peg as it must be, with no more locked than there is. -/
def Good (s : PegS) : Prop := FitS s ∧ s.1 ≤ 1125899906842624
theorem good_empty : Good emptyS := ⟨pegQ_zero.1 (by decide), by decide⟩
/-- What an act tells: a peg as it must be, or an error. -/
def Told (N : Nat) (W : World) (v E : Value) : Prop := (E = .nilIface ∧ ∃ s, Good s ∧ PegAt N W v s) ∨ ∃ q, E = .iface 45 (.int .i64 q)
/-- What an act's call leaves. -/
def ActPost (W : World) (e : Ending) (w' : World) : Prop := ∃ E l X x y Y z u Z a t, e = .returned (.tuple #[.agg #[.int .i64 l, .slice X x y, .slice Y z u, .slice Z a t], E]) ∧ Told W.heap.size w' (.agg #[.int .i64 l, .slice X x y, .slice Y z u, .slice Z a t]) E ∧ Below W.heap.size W w'
theorem act_post {W w' : World} {e : Ending} {q : Int} {s' : PegS} (hg : q = 0 → Good s') (h : ∃ v', e = .returned (.tuple #[v', errP q]) ∧ PegAt W.heap.size w' v' (actOut q s') ∧ Below W.heap.size W w') : ActPost W e w' := by
  obtain ⟨v', rfl, hp, hb⟩ := h
  obtain ⟨A1, n1, c1, A2, n2, c2, A3, n3, c3, rfl⟩ := id hp.agg
  refine ⟨errP q, _, A1, n1, c1, A2, n2, c2, A3, n3, c3, rfl, ?_, hb⟩
  by_cases h : q = 0
  · subst h
    rw [actOut_ok] at hp
    exact .inl ⟨rfl, s', hg rfl, hp⟩
  · exact .inr ⟨q, errP_no h⟩
section
variable {s : PegS} {v : Value} {N : Nat}
theorem in_told (id t n : Int) (W : World) (h : PegAt N W v s) : Calls Try.prog 6 #[v, .int .i64 id, .int .i64 t, .int .i64 n] W (ActPost W) :=
  (in_any s v id t n W h).mono fun _ _ hh => act_post (fun hq => ⟨(in_fit hq).2.1, (in_fit hq).2.2.2.1⟩) hh
theorem move_told (hg : Good s) (f t n : Int) (W : World) (h : PegAt N W v s) : Calls Try.prog 19 #[v, .int .i64 f, .int .i64 t, .int .i64 n] W (ActPost W) :=
  (move_any s v f t n W h).mono fun _ _ hh => act_post (fun hq => ⟨(move_fit hq hg.2).2, hg.2⟩) hh
theorem out_told (hg : Good s) (x t n : Int) (W : World) (h : PegAt N W v s) : Calls Try.prog 7 #[v, .int .i64 x, .int .i64 t, .int .i64 n] W (ActPost W) :=
  (out_any s v x t n W h).mono fun _ _ hh => act_post (fun hq => ⟨(out_fit hq).2.1, hg.2⟩) hh
theorem pay_told (hg : Good s) (x : Int) (W : World) (h : PegAt N W v s) : Calls Try.prog 8 #[v, .int .i64 x] W (ActPost W) :=
  (pay_any s v x W h).mono fun _ _ hh => act_post (fun hq => ⟨(pay_fit hq).2.1, Int.le_trans (pay_fit hq).2.2 hg.2⟩) hh
end
theorem below_drew0 {wr w2 : World} (h : Below wr.drew.heap.size wr.drew w2) : Below wr.heap.size wr w2 := ⟨h.os, h.tape, h.output, h.size, h.block⟩
theorem below_drewA {wr w2 : World} {c : Obj} (h : Below (wr.alloc c).drew.heap.size (wr.alloc c).drew w2) : Below wr.heap.size wr w2 :=
  ((Below.refl _ _).alloc (Nat.le_refl _) _).trans ((below_drew0 h).mono (by simp))
theorem box_drewA {wr w2 : World} {cs : Array Value} {t : TypeId} (h : Below (wr.alloc (.cells cs t)).drew.heap.size (wr.alloc (.cells cs t)).drew w2) : w2.heap[wr.heap.size]? = some (.cells cs t (0, 0)) :=
  ((below_drew0 h).block wr.heap.size (by simp)).trans (heap_alloc_new wr (.cells cs t))
/-- What is told, in a box of its own. -/
structure NextAt (wr W : World) (nb : Nat) (l : Int) (X : Option Addr) (x y : Nat) (Y : Option Addr) (z u : Nat) (Z : Option Addr) (a t : Nat) (E : Value) : Prop where
  below : Below wr.heap.size wr W
  big : wr.heap.size ≤ nb
  box : W.heap[nb]? = some (.cells #[.int .i64 l, .slice X x y, .slice Y z u, .slice Z a t] 26 (0, 0))
  told : Told wr.heap.size W (.agg #[.int .i64 l, .slice X x y, .slice Y z u, .slice Z a t]) E
theorem Told.below {N : Nat} {W W' : World} {v E : Value} (h : Told N W v E) (hb : Below W.heap.size W W') : Told N W' v E := by
  rcases h with ⟨e, s, hg, hp⟩ | h
  · exact .inl ⟨e, s, hg, hp.below hb⟩
  · exact .inr h
theorem Told.set {N : Nat} {W : World} {v E : Value} (h : Told N W v E) {p : Addr} (hp : p.block < N) (u : Value) : Told N (W.setCell p u) v E := by
  rcases h with ⟨e, s, hg, hq⟩ | h
  · exact .inl ⟨e, s, hg, hq.set hp u⟩
  · exact .inr h
theorem Told.mono {N M : Nat} {W : World} {v E : Value} (h : Told N W v E) (hM : M ≤ N) : Told M W v E := by
  rcases h with ⟨e, s, hg, hq⟩ | h
  · exact .inl ⟨e, s, hg, hq.mono hM⟩
  · exact .inr h
section
variable {wr w2 : World} {l : Int} {X Y Z : Option Addr} {x y z u a t : Nat} {E : Value}
theorem next_alloc (hb : Below wr.heap.size wr w2) {N : Nat} (hN : wr.heap.size ≤ N) (h : Told N w2 (.agg #[.int .i64 l, .slice X x y, .slice Y z u, .slice Z a t]) E) : NextAt wr (w2.alloc (.cells #[.int .i64 l, .slice X x y, .slice Y z u, .slice Z a t] 26)) w2.heap.size l X x y Y z u Z a t E :=
  ⟨hb.alloc hb.size _, hb.size, heap_alloc_new _ _, (h.below ((Below.refl _ _).alloc (Nat.le_refl _) _)).mono hN⟩
theorem next_set {nb N : Nat} {v0 v1 v2 v3 : Value} (hb : Below wr.heap.size wr w2) (hbox : w2.heap[nb]? = some (.cells #[v0, v1, v2, v3] 26 (0, 0))) (hn : wr.heap.size ≤ nb) (hN : nb < N) (h : Told N w2 (.agg #[.int .i64 l, .slice X x y, .slice Y z u, .slice Z a t]) E) :
    NextAt wr ((((w2.setCell ⟨nb, 0, none⟩ (.int .i64 l)).setCell ⟨nb, 1, none⟩ (.slice X x y)).setCell ⟨nb, 2, none⟩ (.slice Y z u)).setCell ⟨nb, 3, none⟩ (.slice Z a t)) nb l X x y Y z u Z a t E :=
  ⟨(((hb.setCell (by exact hn) _).setCell (by exact hn) _).setCell (by exact hn) _).setCell (by exact hn) _, hn, heap_set (heap_set (heap_set (heap_set hbox))), ((((h.set (by exact hN) _).set (by exact hN) _).set (by exact hN) _).set (by exact hN) _).mono (by omega)⟩
end
/-- The peg so far: what came in, or what an act told. -/
def PegKeep (w W : World) (v : Value) (s : PegS) : Prop := PegAt 0 w v s ∨ PegAt (w.heap.size + 2) W v s
theorem PegKeep.at_ {w W : World} {v : Value} {s : PegS} (h : PegKeep w W v s) (hb : Below w.heap.size w W) : PegAt 0 W v s := by
  rcases h with h | h
  · exact h.below hb
  · exact h.mono (Nat.zero_le _)
theorem PegKeep.step {w W W' : World} {v : Value} {s : PegS} (h : PegKeep w W v s) (hb : Below W.heap.size W W') : PegKeep w W' v s := h.imp id fun h => h.below hb
end Go.Proofs.Ytcmlhopidohimaa
