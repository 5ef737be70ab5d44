/- A deal in memory: its block, what allocs and stores leave of it. No condition. -/
import Derived.Test.YtionmkmoddfehaaDoorSwapE
import Derived.Test.YtionmkmoddfehaaDoorSwapRe
import Derived.DeepKeys
import Derived.Test.YtionmkmoddfehaaDoorErr
import Derived.Deep.RegionHeld3
namespace Go.Proofs.YtionmkmoddfehaaDoor
open Go.RowKit Go.ChangeShapes Go.WideShapes Go.ChangeAt

/-- A deal that lies in a block of its own. -/
structure DealAt (w : World) (b : Nat) (d : Deal) : Prop where
  c0 : w.cell? ⟨b, 0, none⟩ = some (.int .i64 d.g0)
  c1 : w.cell? ⟨b, 1, none⟩ = some (.int .i64 d.g1)
  c2 : w.cell? ⟨b, 2, none⟩ = some (.int .i64 d.e0)
  c3 : w.cell? ⟨b, 3, none⟩ = some (.int .i64 d.e1)
  c4 : w.cell? ⟨b, 4, none⟩ = some (.int .i64 d.s0)
  c5 : w.cell? ⟨b, 5, none⟩ = some (.int .i64 d.s1)
  c6 : w.cell? ⟨b, 6, none⟩ = some (.bool d.kn)
  c7 : w.cell? ⟨b, 7, none⟩ = some (.int .i64 d.now)
  fz : ∀ i, w.frozen? ⟨b, i, none⟩ = false
theorem DealAt.keep {w w' : World} {b : Nat} {d : Deal} (h : DealAt w b d) (hc : ∀ i, w'.cell? ⟨b, i, none⟩ = w.cell? ⟨b, i, none⟩) (hf : ∀ i, w'.frozen? ⟨b, i, none⟩ = w.frozen? ⟨b, i, none⟩) : DealAt w' b d :=
  ⟨by rw [hc]; exact h.c0, by rw [hc]; exact h.c1, by rw [hc]; exact h.c2, by rw [hc]; exact h.c3, by rw [hc]; exact h.c4, by rw [hc]; exact h.c5, by rw [hc]; exact h.c6, by rw [hc]; exact h.c7, fun i => by rw [hf]; exact h.fz i⟩
theorem DealAt.below {w w' : World} {b B : Nat} {d : Deal} (h : DealAt w b d) (hb : Below B w w') (hB : b < B) : DealAt w' b d :=
  h.keep (fun i => hb.cell (p := ⟨b, i, none⟩) hB) (fun i => hb.frozen (p := ⟨b, i, none⟩) hB)

theorem new_kept {W0 w2 : World} {Z : Array Value} {t : TypeId} {n : Nat} (hn : W0.heap.size = n) (hb : Below (W0.alloc (.cells Z t)).heap.size (W0.alloc (.cells Z t)) w2) :
    (∀ o, w2.cell? ⟨n, o, none⟩ = Z[o]?) ∧ (∀ o, w2.frozen? ⟨n, o, none⟩ = false) ∧ n < w2.heap.size := by
  subst hn
  refine ⟨fun o => ?_, fun o => ?_, ?_⟩
  · rw [hb.cell (by simp)]; exact World.cell?_alloc_at _ _ _ _ rfl
  · rw [hb.frozen (by simp)]; exact World.frozen?_alloc_at _ _ _ _ rfl
  · have := hb.size
    simp at this
    omega

theorem new_kept_drew {W0 w2 : World} {Z : Array Value} {t : TypeId} (hb : Below (W0.alloc (.cells Z t)).drew.heap.size (W0.alloc (.cells Z t)).drew w2) :
    (∀ o, w2.cell? ⟨W0.heap.size, o, none⟩ = Z[o]?) ∧ (∀ o, w2.frozen? ⟨W0.heap.size, o, none⟩ = false) ∧ W0.heap.size < w2.heap.size :=
  new_kept rfl (show Below (W0.alloc (.cells Z t)).heap.size (W0.alloc (.cells Z t)) w2 from ⟨hb.os, hb.tape, hb.output, hb.size, hb.block⟩)

theorem below_drew {wr w2 : World} (h : Below wr.drew.heap.size wr.drew w2) : Below wr.heap.size wr w2 := ⟨h.os, h.tape, h.output, h.size, h.block⟩
theorem below_drew_alloc {wr w2 : World} {c : Obj} (h : Below (wr.alloc c).drew.heap.size (wr.alloc c).drew w2) : Below wr.heap.size wr w2 :=
  ((Below.refl _ _).alloc (Nat.le_refl _) _).trans ((below_drew h).mono (by simp))
theorem new_cells {wr w2 : World} {t : TypeId} {a0 a1 a2 a3 a4 a5 a6 a7 : Value} (h : Below (wr.alloc (.cells #[a0, a1, a2, a3, a4, a5, a6, a7] t)).drew.heap.size (wr.alloc (.cells #[a0, a1, a2, a3, a4, a5, a6, a7] t)).drew w2) :
    w2.cell? ⟨wr.heap.size, 0, none⟩ = some a0 ∧ w2.cell? ⟨wr.heap.size, 1, none⟩ = some a1 ∧ w2.cell? ⟨wr.heap.size, 2, none⟩ = some a2 ∧ w2.cell? ⟨wr.heap.size, 3, none⟩ = some a3 ∧ w2.cell? ⟨wr.heap.size, 4, none⟩ = some a4 ∧ w2.cell? ⟨wr.heap.size, 5, none⟩ = some a5 ∧ w2.cell? ⟨wr.heap.size, 6, none⟩ = some a6 ∧ w2.cell? ⟨wr.heap.size, 7, none⟩ = some a7 ∧ (∀ o, w2.frozen? ⟨wr.heap.size, o, none⟩ = false) ∧ wr.heap.size < w2.heap.size := by
  obtain ⟨hc, hf, hl⟩ := new_kept_drew h
  exact ⟨hc 0, hc 1, hc 2, hc 3, hc 4, hc 5, hc 6, hc 7, hf, hl⟩
theorem kept11 {w2 wr : World} {b b1 b2 b3 o1 o2 o3 : Nat} {a0 a1 a2 a3 a4 a5 a6 a7 v1 v2 v3 : Value} (h : Below wr.heap.size wr w2) (l0 : b < wr.heap.size) (m1 : b1 < wr.heap.size) (m2 : b2 < wr.heap.size) (m3 : b3 < wr.heap.size)
    (H : wr.cell? ⟨b, 0, none⟩ = some a0 ∧ wr.cell? ⟨b, 1, none⟩ = some a1 ∧ wr.cell? ⟨b, 2, none⟩ = some a2 ∧ wr.cell? ⟨b, 3, none⟩ = some a3 ∧ wr.cell? ⟨b, 4, none⟩ = some a4 ∧ wr.cell? ⟨b, 5, none⟩ = some a5 ∧ wr.cell? ⟨b, 6, none⟩ = some a6 ∧ wr.cell? ⟨b, 7, none⟩ = some a7 ∧
      wr.cell? ⟨b1, o1, none⟩ = some v1 ∧ wr.cell? ⟨b2, o2, none⟩ = some v2 ∧ wr.cell? ⟨b3, o3, none⟩ = some v3) (hf : ∀ i, wr.frozen? ⟨b, i, none⟩ = false) :
    (w2.cell? ⟨b, 0, none⟩ = some a0 ∧ w2.cell? ⟨b, 1, none⟩ = some a1 ∧ w2.cell? ⟨b, 2, none⟩ = some a2 ∧ w2.cell? ⟨b, 3, none⟩ = some a3 ∧ w2.cell? ⟨b, 4, none⟩ = some a4 ∧ w2.cell? ⟨b, 5, none⟩ = some a5 ∧ w2.cell? ⟨b, 6, none⟩ = some a6 ∧ w2.cell? ⟨b, 7, none⟩ = some a7 ∧
      w2.cell? ⟨b1, o1, none⟩ = some v1 ∧ w2.cell? ⟨b2, o2, none⟩ = some v2 ∧ w2.cell? ⟨b3, o3, none⟩ = some v3) ∧ b < w2.heap.size ∧ b1 < w2.heap.size ∧ b2 < w2.heap.size ∧ b3 < w2.heap.size ∧ (∀ i, w2.frozen? ⟨b, i, none⟩ = false) := by
  obtain ⟨h0, h1, h2, h3, h4, h5, h6, h7, q1, q2, q3⟩ := H
  have hs := h.size
  refine ⟨⟨?_, ?_, ?_, ?_, ?_, ?_, ?_, ?_, ?_, ?_, ?_⟩, by omega, by omega, by omega, by omega, fun i => ?_⟩
  · rw [h.cell (by exact l0)]; exact h0
  · rw [h.cell (by exact l0)]; exact h1
  · rw [h.cell (by exact l0)]; exact h2
  · rw [h.cell (by exact l0)]; exact h3
  · rw [h.cell (by exact l0)]; exact h4
  · rw [h.cell (by exact l0)]; exact h5
  · rw [h.cell (by exact l0)]; exact h6
  · rw [h.cell (by exact l0)]; exact h7
  · rw [h.cell (by exact m1)]; exact q1
  · rw [h.cell (by exact m2)]; exact q2
  · rw [h.cell (by exact m3)]; exact q3
  · rw [h.frozen (by exact l0)]; exact hf i
theorem kept_alloc11 {wr : World} {c : Obj} {b b1 b2 b3 o1 o2 o3 : Nat} {a0 a1 a2 a3 a4 a5 a6 a7 v1 v2 v3 : Value} (l0 : b < wr.heap.size) (m1 : b1 < wr.heap.size) (m2 : b2 < wr.heap.size) (m3 : b3 < wr.heap.size)
    (H : wr.cell? ⟨b, 0, none⟩ = some a0 ∧ wr.cell? ⟨b, 1, none⟩ = some a1 ∧ wr.cell? ⟨b, 2, none⟩ = some a2 ∧ wr.cell? ⟨b, 3, none⟩ = some a3 ∧ wr.cell? ⟨b, 4, none⟩ = some a4 ∧ wr.cell? ⟨b, 5, none⟩ = some a5 ∧ wr.cell? ⟨b, 6, none⟩ = some a6 ∧ wr.cell? ⟨b, 7, none⟩ = some a7 ∧
      wr.cell? ⟨b1, o1, none⟩ = some v1 ∧ wr.cell? ⟨b2, o2, none⟩ = some v2 ∧ wr.cell? ⟨b3, o3, none⟩ = some v3) :
    (wr.alloc c).cell? ⟨b, 0, none⟩ = some a0 ∧ (wr.alloc c).cell? ⟨b, 1, none⟩ = some a1 ∧ (wr.alloc c).cell? ⟨b, 2, none⟩ = some a2 ∧ (wr.alloc c).cell? ⟨b, 3, none⟩ = some a3 ∧ (wr.alloc c).cell? ⟨b, 4, none⟩ = some a4 ∧ (wr.alloc c).cell? ⟨b, 5, none⟩ = some a5 ∧ (wr.alloc c).cell? ⟨b, 6, none⟩ = some a6 ∧ (wr.alloc c).cell? ⟨b, 7, none⟩ = some a7 ∧
      (wr.alloc c).cell? ⟨b1, o1, none⟩ = some v1 ∧ (wr.alloc c).cell? ⟨b2, o2, none⟩ = some v2 ∧ (wr.alloc c).cell? ⟨b3, o3, none⟩ = some v3 := by
  obtain ⟨h0, h1, h2, h3, h4, h5, h6, h7, q1, q2, q3⟩ := H
  have h : Below wr.heap.size wr (wr.alloc c) := (Below.refl _ _).alloc (Nat.le_refl _) _
  refine ⟨?_, ?_, ?_, ?_, ?_, ?_, ?_, ?_, ?_, ?_, ?_⟩
  · rw [h.cell (by exact l0)]; exact h0
  · rw [h.cell (by exact l0)]; exact h1
  · rw [h.cell (by exact l0)]; exact h2
  · rw [h.cell (by exact l0)]; exact h3
  · rw [h.cell (by exact l0)]; exact h4
  · rw [h.cell (by exact l0)]; exact h5
  · rw [h.cell (by exact l0)]; exact h6
  · rw [h.cell (by exact l0)]; exact h7
  · rw [h.cell (by exact m1)]; exact q1
  · rw [h.cell (by exact m2)]; exact q2
  · rw [h.cell (by exact m3)]; exact q3
theorem kept_drew11 {wr : World} {b b1 b2 b3 o1 o2 o3 : Nat} {a0 a1 a2 a3 a4 a5 a6 a7 v1 v2 v3 : Value} (H : wr.cell? ⟨b, 0, none⟩ = some a0 ∧ wr.cell? ⟨b, 1, none⟩ = some a1 ∧ wr.cell? ⟨b, 2, none⟩ = some a2 ∧ wr.cell? ⟨b, 3, none⟩ = some a3 ∧ wr.cell? ⟨b, 4, none⟩ = some a4 ∧ wr.cell? ⟨b, 5, none⟩ = some a5 ∧ wr.cell? ⟨b, 6, none⟩ = some a6 ∧ wr.cell? ⟨b, 7, none⟩ = some a7 ∧ wr.cell? ⟨b1, o1, none⟩ = some v1 ∧ wr.cell? ⟨b2, o2, none⟩ = some v2 ∧ wr.cell? ⟨b3, o3, none⟩ = some v3) : wr.drew.cell? ⟨b, 0, none⟩ = some a0 ∧ wr.drew.cell? ⟨b, 1, none⟩ = some a1 ∧ wr.drew.cell? ⟨b, 2, none⟩ = some a2 ∧ wr.drew.cell? ⟨b, 3, none⟩ = some a3 ∧ wr.drew.cell? ⟨b, 4, none⟩ = some a4 ∧ wr.drew.cell? ⟨b, 5, none⟩ = some a5 ∧ wr.drew.cell? ⟨b, 6, none⟩ = some a6 ∧ wr.drew.cell? ⟨b, 7, none⟩ = some a7 ∧ wr.drew.cell? ⟨b1, o1, none⟩ = some v1 ∧ wr.drew.cell? ⟨b2, o2, none⟩ = some v2 ∧ wr.drew.cell? ⟨b3, o3, none⟩ = some v3 := H
theorem kept_alloc_drew11 {wr : World} {c : Obj} {b b1 b2 b3 o1 o2 o3 : Nat} {a0 a1 a2 a3 a4 a5 a6 a7 v1 v2 v3 : Value} (l0 : b < wr.heap.size) (m1 : b1 < wr.heap.size) (m2 : b2 < wr.heap.size) (m3 : b3 < wr.heap.size) (H : wr.cell? ⟨b, 0, none⟩ = some a0 ∧ wr.cell? ⟨b, 1, none⟩ = some a1 ∧ wr.cell? ⟨b, 2, none⟩ = some a2 ∧ wr.cell? ⟨b, 3, none⟩ = some a3 ∧ wr.cell? ⟨b, 4, none⟩ = some a4 ∧ wr.cell? ⟨b, 5, none⟩ = some a5 ∧ wr.cell? ⟨b, 6, none⟩ = some a6 ∧ wr.cell? ⟨b, 7, none⟩ = some a7 ∧ wr.cell? ⟨b1, o1, none⟩ = some v1 ∧ wr.cell? ⟨b2, o2, none⟩ = some v2 ∧ wr.cell? ⟨b3, o3, none⟩ = some v3) : (wr.alloc c).drew.cell? ⟨b, 0, none⟩ = some a0 ∧ (wr.alloc c).drew.cell? ⟨b, 1, none⟩ = some a1 ∧ (wr.alloc c).drew.cell? ⟨b, 2, none⟩ = some a2 ∧ (wr.alloc c).drew.cell? ⟨b, 3, none⟩ = some a3 ∧ (wr.alloc c).drew.cell? ⟨b, 4, none⟩ = some a4 ∧ (wr.alloc c).drew.cell? ⟨b, 5, none⟩ = some a5 ∧ (wr.alloc c).drew.cell? ⟨b, 6, none⟩ = some a6 ∧ (wr.alloc c).drew.cell? ⟨b, 7, none⟩ = some a7 ∧ (wr.alloc c).drew.cell? ⟨b1, o1, none⟩ = some v1 ∧ (wr.alloc c).drew.cell? ⟨b2, o2, none⟩ = some v2 ∧ (wr.alloc c).drew.cell? ⟨b3, o3, none⟩ = some v3 := kept_alloc11 l0 m1 m2 m3 H
theorem set8_far {W : World} {nb : Nat} {u0 u1 u2 u3 u4 u5 u6 u7 : Value} {c : Nat} {o : Nat} (h : c < nb) : ((((((((W.setCell ⟨nb, 0, none⟩ u0).setCell ⟨nb, 1, none⟩ u1).setCell ⟨nb, 2, none⟩ u2).setCell ⟨nb, 3, none⟩ u3).setCell ⟨nb, 4, none⟩ u4).setCell ⟨nb, 5, none⟩ u5).setCell ⟨nb, 6, none⟩ u6).setCell ⟨nb, 7, none⟩ u7).cell? ⟨c, o, none⟩ = W.cell? ⟨c, o, none⟩ := by
  iterate 8 rw [World.cell?_setCell_far _ _ _ _ (by exact Nat.ne_of_gt h)]
theorem kept_set11 {W : World} {nb : Nat} {u0 u1 u2 u3 u4 u5 u6 u7 : Value} {b b1 b2 b3 o1 o2 o3 : Nat} {a0 a1 a2 a3 a4 a5 a6 a7 v1 v2 v3 : Value} (l0 : b < nb) (m1 : b1 < nb) (m2 : b2 < nb) (m3 : b3 < nb) (H : W.cell? ⟨b, 0, none⟩ = some a0 ∧ W.cell? ⟨b, 1, none⟩ = some a1 ∧ W.cell? ⟨b, 2, none⟩ = some a2 ∧ W.cell? ⟨b, 3, none⟩ = some a3 ∧ W.cell? ⟨b, 4, none⟩ = some a4 ∧ W.cell? ⟨b, 5, none⟩ = some a5 ∧ W.cell? ⟨b, 6, none⟩ = some a6 ∧ W.cell? ⟨b, 7, none⟩ = some a7 ∧ W.cell? ⟨b1, o1, none⟩ = some v1 ∧ W.cell? ⟨b2, o2, none⟩ = some v2 ∧ W.cell? ⟨b3, o3, none⟩ = some v3) : ((((((((W.setCell ⟨nb, 0, none⟩ u0).setCell ⟨nb, 1, none⟩ u1).setCell ⟨nb, 2, none⟩ u2).setCell ⟨nb, 3, none⟩ u3).setCell ⟨nb, 4, none⟩ u4).setCell ⟨nb, 5, none⟩ u5).setCell ⟨nb, 6, none⟩ u6).setCell ⟨nb, 7, none⟩ u7).cell? ⟨b, 0, none⟩ = some a0 ∧ ((((((((W.setCell ⟨nb, 0, none⟩ u0).setCell ⟨nb, 1, none⟩ u1).setCell ⟨nb, 2, none⟩ u2).setCell ⟨nb, 3, none⟩ u3).setCell ⟨nb, 4, none⟩ u4).setCell ⟨nb, 5, none⟩ u5).setCell ⟨nb, 6, none⟩ u6).setCell ⟨nb, 7, none⟩ u7).cell? ⟨b, 1, none⟩ = some a1 ∧ ((((((((W.setCell ⟨nb, 0, none⟩ u0).setCell ⟨nb, 1, none⟩ u1).setCell ⟨nb, 2, none⟩ u2).setCell ⟨nb, 3, none⟩ u3).setCell ⟨nb, 4, none⟩ u4).setCell ⟨nb, 5, none⟩ u5).setCell ⟨nb, 6, none⟩ u6).setCell ⟨nb, 7, none⟩ u7).cell? ⟨b, 2, none⟩ = some a2 ∧ ((((((((W.setCell ⟨nb, 0, none⟩ u0).setCell ⟨nb, 1, none⟩ u1).setCell ⟨nb, 2, none⟩ u2).setCell ⟨nb, 3, none⟩ u3).setCell ⟨nb, 4, none⟩ u4).setCell ⟨nb, 5, none⟩ u5).setCell ⟨nb, 6, none⟩ u6).setCell ⟨nb, 7, none⟩ u7).cell? ⟨b, 3, none⟩ = some a3 ∧ ((((((((W.setCell ⟨nb, 0, none⟩ u0).setCell ⟨nb, 1, none⟩ u1).setCell ⟨nb, 2, none⟩ u2).setCell ⟨nb, 3, none⟩ u3).setCell ⟨nb, 4, none⟩ u4).setCell ⟨nb, 5, none⟩ u5).setCell ⟨nb, 6, none⟩ u6).setCell ⟨nb, 7, none⟩ u7).cell? ⟨b, 4, none⟩ = some a4 ∧ ((((((((W.setCell ⟨nb, 0, none⟩ u0).setCell ⟨nb, 1, none⟩ u1).setCell ⟨nb, 2, none⟩ u2).setCell ⟨nb, 3, none⟩ u3).setCell ⟨nb, 4, none⟩ u4).setCell ⟨nb, 5, none⟩ u5).setCell ⟨nb, 6, none⟩ u6).setCell ⟨nb, 7, none⟩ u7).cell? ⟨b, 5, none⟩ = some a5 ∧ ((((((((W.setCell ⟨nb, 0, none⟩ u0).setCell ⟨nb, 1, none⟩ u1).setCell ⟨nb, 2, none⟩ u2).setCell ⟨nb, 3, none⟩ u3).setCell ⟨nb, 4, none⟩ u4).setCell ⟨nb, 5, none⟩ u5).setCell ⟨nb, 6, none⟩ u6).setCell ⟨nb, 7, none⟩ u7).cell? ⟨b, 6, none⟩ = some a6 ∧ ((((((((W.setCell ⟨nb, 0, none⟩ u0).setCell ⟨nb, 1, none⟩ u1).setCell ⟨nb, 2, none⟩ u2).setCell ⟨nb, 3, none⟩ u3).setCell ⟨nb, 4, none⟩ u4).setCell ⟨nb, 5, none⟩ u5).setCell ⟨nb, 6, none⟩ u6).setCell ⟨nb, 7, none⟩ u7).cell? ⟨b, 7, none⟩ = some a7 ∧ ((((((((W.setCell ⟨nb, 0, none⟩ u0).setCell ⟨nb, 1, none⟩ u1).setCell ⟨nb, 2, none⟩ u2).setCell ⟨nb, 3, none⟩ u3).setCell ⟨nb, 4, none⟩ u4).setCell ⟨nb, 5, none⟩ u5).setCell ⟨nb, 6, none⟩ u6).setCell ⟨nb, 7, none⟩ u7).cell? ⟨b1, o1, none⟩ = some v1 ∧ ((((((((W.setCell ⟨nb, 0, none⟩ u0).setCell ⟨nb, 1, none⟩ u1).setCell ⟨nb, 2, none⟩ u2).setCell ⟨nb, 3, none⟩ u3).setCell ⟨nb, 4, none⟩ u4).setCell ⟨nb, 5, none⟩ u5).setCell ⟨nb, 6, none⟩ u6).setCell ⟨nb, 7, none⟩ u7).cell? ⟨b2, o2, none⟩ = some v2 ∧ ((((((((W.setCell ⟨nb, 0, none⟩ u0).setCell ⟨nb, 1, none⟩ u1).setCell ⟨nb, 2, none⟩ u2).setCell ⟨nb, 3, none⟩ u3).setCell ⟨nb, 4, none⟩ u4).setCell ⟨nb, 5, none⟩ u5).setCell ⟨nb, 6, none⟩ u6).setCell ⟨nb, 7, none⟩ u7).cell? ⟨b3, o3, none⟩ = some v3 := by
  obtain ⟨h0, h1, h2, h3, h4, h5, h6, h7, q1, q2, q3⟩ := H
  exact ⟨(set8_far l0).trans h0, (set8_far l0).trans h1, (set8_far l0).trans h2, (set8_far l0).trans h3, (set8_far l0).trans h4, (set8_far l0).trans h5, (set8_far l0).trans h6, (set8_far l0).trans h7, (set8_far m1).trans q1, (set8_far m2).trans q2, (set8_far m3).trans q3⟩
theorem drew_size (w : World) : w.drew.heap.size = w.heap.size := rfl
theorem set8_ne {W : World} {nb : Nat} {u0 u1 u2 u3 u4 u5 u6 u7 : Value} {c : Nat} {o : Nat} (h : nb ≠ c) : ((((((((W.setCell ⟨nb, 0, none⟩ u0).setCell ⟨nb, 1, none⟩ u1).setCell ⟨nb, 2, none⟩ u2).setCell ⟨nb, 3, none⟩ u3).setCell ⟨nb, 4, none⟩ u4).setCell ⟨nb, 5, none⟩ u5).setCell ⟨nb, 6, none⟩ u6).setCell ⟨nb, 7, none⟩ u7).cell? ⟨c, o, none⟩ = W.cell? ⟨c, o, none⟩ := by
  iterate 8 rw [World.cell?_setCell_far _ _ _ _ (by exact h)]
theorem set8_frozen {W : World} {nb : Nat} {u0 u1 u2 u3 u4 u5 u6 u7 : Value} {c : Nat} {o : Nat} : ((((((((W.setCell ⟨nb, 0, none⟩ u0).setCell ⟨nb, 1, none⟩ u1).setCell ⟨nb, 2, none⟩ u2).setCell ⟨nb, 3, none⟩ u3).setCell ⟨nb, 4, none⟩ u4).setCell ⟨nb, 5, none⟩ u5).setCell ⟨nb, 6, none⟩ u6).setCell ⟨nb, 7, none⟩ u7).frozen? ⟨c, o, none⟩ = W.frozen? ⟨c, o, none⟩ := by
  simp [go_sem]
theorem set8_deal {W : World} {nb : Nat} (d : Deal) (h : ∀ k, k < 8 → (W.cell? ⟨nb, k, none⟩).isSome = true) (hf : ∀ i, W.frozen? ⟨nb, i, none⟩ = false) : DealAt ((((((((W.setCell ⟨nb, 0, none⟩ (.int .i64 d.g0)).setCell ⟨nb, 1, none⟩ (.int .i64 d.g1)).setCell ⟨nb, 2, none⟩ (.int .i64 d.e0)).setCell ⟨nb, 3, none⟩ (.int .i64 d.e1)).setCell ⟨nb, 4, none⟩ (.int .i64 d.s0)).setCell ⟨nb, 5, none⟩ (.int .i64 d.s1)).setCell ⟨nb, 6, none⟩ (.bool d.kn)).setCell ⟨nb, 7, none⟩ (.int .i64 d.now)) nb d := by
  have h0 := h 0 (by decide)
  have h1 := h 1 (by decide)
  have h2 := h 2 (by decide)
  have h3 := h 3 (by decide)
  have h4 := h 4 (by decide)
  have h5 := h 5 (by decide)
  have h6 := h 6 (by decide)
  have h7 := h 7 (by decide)
  constructor
  case fz => exact fun i => set8_frozen.trans (hf i)
  all_goals simp [go_sem, h0, h1, h2, h3, h4, h5, h6, h7]
theorem set8_below {W0 W : World} {B nb : Nat} {u0 u1 u2 u3 u4 u5 u6 u7 : Value} (hB : B ≤ nb) (h : Below B W0 W) : Below B W0 ((((((((W.setCell ⟨nb, 0, none⟩ u0).setCell ⟨nb, 1, none⟩ u1).setCell ⟨nb, 2, none⟩ u2).setCell ⟨nb, 3, none⟩ u3).setCell ⟨nb, 4, none⟩ u4).setCell ⟨nb, 5, none⟩ u5).setCell ⟨nb, 6, none⟩ u6).setCell ⟨nb, 7, none⟩ u7) := by
  iterate 8 refine Below.setCell ?_ hB _
  exact h
theorem set8_size {W : World} {nb : Nat} {u0 u1 u2 u3 u4 u5 u6 u7 : Value} : ((((((((W.setCell ⟨nb, 0, none⟩ u0).setCell ⟨nb, 1, none⟩ u1).setCell ⟨nb, 2, none⟩ u2).setCell ⟨nb, 3, none⟩ u3).setCell ⟨nb, 4, none⟩ u4).setCell ⟨nb, 5, none⟩ u5).setCell ⟨nb, 6, none⟩ u6).setCell ⟨nb, 7, none⟩ u7).heap.size = W.heap.size := by
  simp [World.setCell]
/-- The world behind the act: next lies in the block nb. -/
structure After (wr W : World) (b nb : Nat) (d : Deal) : Prop where
  bel : Below wr.heap.size wr W
  big : wr.heap.size ≤ nb
  lt : nb < W.heap.size
  at_ : DealAt W nb d
theorem after_alloc {wr w2 : World} {b : Nat} (d : Deal) (h : Below wr.heap.size wr w2) : After wr (w2.alloc (.cells #[.int .i64 d.g0, .int .i64 d.g1, .int .i64 d.e0, .int .i64 d.e1, .int .i64 d.s0, .int .i64 d.s1, .bool d.kn, .int .i64 d.now] 24)) b w2.heap.size d := by
  refine ⟨h.trans ((Below.refl _ _).alloc h.size _), h.size, by simp, ?_⟩
  constructor
  case fz => exact fun i => World.frozen?_alloc_at _ _ _ _ rfl
  all_goals exact World.cell?_alloc_at _ _ _ _ rfl
theorem after_set {wr w2 : World} {b : Nat} (d : Deal) (h : Below wr.heap.size wr w2) (hl : wr.heap.size < w2.heap.size) (hc : ∀ k, k < 8 → (w2.cell? ⟨wr.heap.size, k, none⟩).isSome = true) (hf : ∀ i, w2.frozen? ⟨wr.heap.size, i, none⟩ = false) :
    After wr ((((((((w2.setCell ⟨wr.heap.size, 0, none⟩ (.int .i64 d.g0)).setCell ⟨wr.heap.size, 1, none⟩ (.int .i64 d.g1)).setCell ⟨wr.heap.size, 2, none⟩ (.int .i64 d.e0)).setCell ⟨wr.heap.size, 3, none⟩ (.int .i64 d.e1)).setCell ⟨wr.heap.size, 4, none⟩ (.int .i64 d.s0)).setCell ⟨wr.heap.size, 5, none⟩ (.int .i64 d.s1)).setCell ⟨wr.heap.size, 6, none⟩ (.bool d.kn)).setCell ⟨wr.heap.size, 7, none⟩ (.int .i64 d.now)) b wr.heap.size d :=
  ⟨set8_below (Nat.le_refl _) h, Nat.le_refl _, by rw [set8_size]; exact hl, set8_deal d hc hf⟩

theorem deal_eq (D : Deal) (w : World) : (Op.equalIn 10000 24 (.agg #[.int .i64 D.g0, .int .i64 D.g1, .int .i64 D.e0, .int .i64 D.e1, .int .i64 D.s0, .int .i64 D.s1, .bool D.kn, .int .i64 D.now]) (.agg #[.int .i64 D.g0, .int .i64 D.g1, .int .i64 D.e0, .int .i64 D.e1, .int .i64 D.s0, .int .i64 D.s1, .bool D.kn, .int .i64 D.now])).run Tryd.prog w = .ok true w := by
  obtain ⟨a0, a1, a2, a3, a4, a5, a6, a7⟩ := D
  obtain ⟨i, hi, _⟩ := Option.map_eq_some_iff.1 intInfo
  have hc : Tryd.prog.cellsOf 3 = 1 := by kernel_rfl
  have hp : ∀ (d : Nat) (x y : Int) (w : World), (Op.equalIn (d + 4) 22 (.agg #[.int .i64 x, .int .i64 y]) (.agg #[.int .i64 x, .int .i64 y])).run Tryd.prog w = .ok true w := by
    intro d x y w
    rw [run_equalIn_array (P := Tryd.prog) (n := 2) (e := 3) w (d + 3) _ _ Tryd.underlying22 hi, hc]
    have h : ∀ z : Int, (Op.equalIn (d + 3) 3 (.int .i64 z) (.int .i64 z)).run Tryd.prog w = .ok (z == z) w := fun z => run_equalIn_int (h := Tryd.underlying3) w (d + 2) _ _ _ _ _
    have q0 : (part 3 #[.int .i64 x, .int .i64 y] 0).run Tryd.prog w = .ok (.int .i64 x) w := by kernel_rfl
    have q1 : (part 3 #[.int .i64 x, .int .i64 y] 1).run Tryd.prog w = .ok (.int .i64 y) w := by kernel_rfl
    simp [List.range, List.range.loop, Op.eqItems, Sem.run_bind, q0, q1, h]
  have hn : ∀ (z : Int) (w : World), (Op.equalIn 9999 3 (.int .i64 z) (.int .i64 z)).run Tryd.prog w = .ok (z == z) w := fun z w => run_equalIn_int (h := Tryd.underlying3) w 9998 _ _ _ _ _
  have hb : ∀ (z : Bool) (w : World), (Op.equalIn 9999 4 (.bool z) (.bool z)).run Tryd.prog w = .ok (z == z) w := fun z w => run_equalIn_bool' (h := Tryd.underlying4) w 9998 _ _ _
  rw [show (10000 : Nat) = 9999 + 1 from rfl, run_equalIn_struct (P := Tryd.prog) w 9999 24 _ _ (by kernel_rfl) (by kernel_rfl)]
  have hf : (Tryd.prog.fieldsOf 24).toList.map (fun f => (f.name == "_", f.type, f.offset)) = [(false, 22, 0), (false, 22, 2), (false, 22, 4), (false, 4, 6), (false, 3, 7)] := by kernel_rfl
  generalize (Tryd.prog.fieldsOf 24).toList = fs at hf
  have hl : fs.length = 5 := by simpa using congrArg List.length hf
  match fs, hl, hf with
  | [f0, f1, f2, f3, f4], _, hf =>
    simp at hf
    obtain ⟨⟨u0, t0, o0⟩, ⟨u1, t1, o1⟩, ⟨u2, t2, o2⟩, ⟨u3, t3, o3⟩, u4, t4, o4⟩ := hf
    have q0 : (part 22 #[.int .i64 a0, .int .i64 a1, .int .i64 a2, .int .i64 a3, .int .i64 a4, .int .i64 a5, .bool a6, .int .i64 a7] 0).run Tryd.prog w = .ok (.agg #[.int .i64 a0, .int .i64 a1]) w := by kernel_rfl
    have q1 : (part 22 #[.int .i64 a0, .int .i64 a1, .int .i64 a2, .int .i64 a3, .int .i64 a4, .int .i64 a5, .bool a6, .int .i64 a7] 2).run Tryd.prog w = .ok (.agg #[.int .i64 a2, .int .i64 a3]) w := by kernel_rfl
    have q2 : (part 22 #[.int .i64 a0, .int .i64 a1, .int .i64 a2, .int .i64 a3, .int .i64 a4, .int .i64 a5, .bool a6, .int .i64 a7] 4).run Tryd.prog w = .ok (.agg #[.int .i64 a4, .int .i64 a5]) w := by kernel_rfl
    have q3 : (part 4 #[.int .i64 a0, .int .i64 a1, .int .i64 a2, .int .i64 a3, .int .i64 a4, .int .i64 a5, .bool a6, .int .i64 a7] 6).run Tryd.prog w = .ok (.bool a6) w := by kernel_rfl
    have q4 : (part 3 #[.int .i64 a0, .int .i64 a1, .int .i64 a2, .int .i64 a3, .int .i64 a4, .int .i64 a5, .bool a6, .int .i64 a7] 7).run Tryd.prog w = .ok (.int .i64 a7) w := by kernel_rfl
    simp [Op.eqFields, u0, u1, u2, u3, u4, t0, t1, t2, t3, t4, o0, o1, o2, o3, o4, q0, q1, q2, q3, q4, Sem.run_bind, hp 9995, hn, hb]

/-- What both tell is one. -/
theorem both_agree {d D E : Deal} {who act now p q : Int} {v : Value}
    (h : (Good d who act now ∧ stepQ d who act now = 0 ∧ p = 0 ∧ D = stepD d who act now) ∨ (D = zeroD ∧ p ≠ 0 ∧ ((Good d who act now ∧ stepQ d who act now = p) ∨ (¬ Good d who act now ∧ p = 2))))
    (k : (Good d who act now ∧ stepQ d who act now = 0 ∧ q = 0 ∧ v = .nilIface ∧ E = stepD d who act now) ∨
     (E = zeroD ∧ q ≠ 0 ∧ v = .iface 27 (.int .i64 q) ∧ ((Good d who act now ∧ stepQ d who act now = q) ∨ (¬ Good d who act now ∧ q = 2)))) : E = D ∧ q = p ∧ errOf p = v := by
  rcases h with ⟨hG, hq, rfl, rfl⟩ | ⟨rfl, hp, h⟩ <;> rcases k with ⟨kG, kq, rfl, rfl, rfl⟩ | ⟨rfl, kp, rfl, k⟩
  · exact ⟨rfl, rfl, rfl⟩
  · rcases k with ⟨_, k⟩ | ⟨k, _⟩
    · exact absurd (k.symm.trans hq) kp
    · exact absurd hG k
  · rcases h with ⟨_, h⟩ | ⟨h, _⟩
    · exact absurd (h.symm.trans kq) hp
    · exact absurd kG h
  · have : q = p := by
      rcases h with ⟨h1, h⟩ | ⟨h1, h⟩ <;> rcases k with ⟨k1, k⟩ | ⟨k1, k⟩
      · exact k.symm.trans h
      · exact absurd h1 k1
      · exact absurd k1 h1
      · rw [h, k]
    subst this
    exact ⟨rfl, rfl, errOf_no hp⟩
end Go.Proofs.YtionmkmoddfehaaDoor
