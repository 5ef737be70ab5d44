/- SwapTells: the walk of the law and the statement. No condition. -/
import Derived.Test.YtionmkmoddfehaaDoorSwapA
import Derived.Test.YtionmkmoddfehaaDoorSwapRg
import Derived.Test.YtionmkmoddfehaaDoorDoor
namespace Go.Proofs.YtionmkmoddfehaaDoor
open Go.RowKit Go.ChangeShapes Go.WideShapes Go.ChangeAt

theorem kept25 {B : Nat} {wr w2 : World} {b c d b1 o1 : Nat} {a0 a1 a2 a3 a4 a5 a6 a7 u0 u1 u2 u3 u4 u5 u6 u7 v0 v1 v2 v3 v4 v5 v6 v7 x : Value} (h : Below B wr w2) (l0 : b < B) (l1 : c < B) (l2 : d < B) (l3 : b1 < B)
    (H : wr.cell? ⟨b, 0, none⟩ = some a0 ∧ wr.cell? ⟨b, 1, none⟩ = some a1 ∧ wr.cell? ⟨b, 2, none⟩ = some a2 ∧ wr.cell? ⟨b, 3, none⟩ = some a3 ∧ wr.cell? ⟨b, 4, none⟩ = some a4 ∧ wr.cell? ⟨b, 5, none⟩ = some a5 ∧ wr.cell? ⟨b, 6, none⟩ = some a6 ∧ wr.cell? ⟨b, 7, none⟩ = some a7 ∧ wr.cell? ⟨c, 0, none⟩ = some u0 ∧ wr.cell? ⟨c, 1, none⟩ = some u1 ∧ wr.cell? ⟨c, 2, none⟩ = some u2 ∧ wr.cell? ⟨c, 3, none⟩ = some u3 ∧ wr.cell? ⟨c, 4, none⟩ = some u4 ∧ wr.cell? ⟨c, 5, none⟩ = some u5 ∧ wr.cell? ⟨c, 6, none⟩ = some u6 ∧ wr.cell? ⟨c, 7, none⟩ = some u7 ∧ wr.cell? ⟨d, 0, none⟩ = some v0 ∧ wr.cell? ⟨d, 1, none⟩ = some v1 ∧ wr.cell? ⟨d, 2, none⟩ = some v2 ∧ wr.cell? ⟨d, 3, none⟩ = some v3 ∧ wr.cell? ⟨d, 4, none⟩ = some v4 ∧ wr.cell? ⟨d, 5, none⟩ = some v5 ∧ wr.cell? ⟨d, 6, none⟩ = some v6 ∧ wr.cell? ⟨d, 7, none⟩ = some v7 ∧ wr.cell? ⟨b1, o1, none⟩ = some x) :
    w2.cell? ⟨b, 0, none⟩ = some a0 ∧ w2.cell? ⟨b, 1, none⟩ = some a1 ∧ w2.cell? ⟨b, 2, none⟩ = some a2 ∧ w2.cell? ⟨b, 3, none⟩ = some a3 ∧ w2.cell? ⟨b, 4, none⟩ = some a4 ∧ w2.cell? ⟨b, 5, none⟩ = some a5 ∧ w2.cell? ⟨b, 6, none⟩ = some a6 ∧ w2.cell? ⟨b, 7, none⟩ = some a7 ∧ w2.cell? ⟨c, 0, none⟩ = some u0 ∧ w2.cell? ⟨c, 1, none⟩ = some u1 ∧ w2.cell? ⟨c, 2, none⟩ = some u2 ∧ w2.cell? ⟨c, 3, none⟩ = some u3 ∧ w2.cell? ⟨c, 4, none⟩ = some u4 ∧ w2.cell? ⟨c, 5, none⟩ = some u5 ∧ w2.cell? ⟨c, 6, none⟩ = some u6 ∧ w2.cell? ⟨c, 7, none⟩ = some u7 ∧ w2.cell? ⟨d, 0, none⟩ = some v0 ∧ w2.cell? ⟨d, 1, none⟩ = some v1 ∧ w2.cell? ⟨d, 2, none⟩ = some v2 ∧ w2.cell? ⟨d, 3, none⟩ = some v3 ∧ w2.cell? ⟨d, 4, none⟩ = some v4 ∧ w2.cell? ⟨d, 5, none⟩ = some v5 ∧ w2.cell? ⟨d, 6, none⟩ = some v6 ∧ w2.cell? ⟨d, 7, none⟩ = some v7 ∧ w2.cell? ⟨b1, o1, none⟩ = some x := by
  obtain ⟨h0, h1, h2, h3, h4, h5, h6, h7, i0, i1, i2, i3, i4, i5, i6, i7, j0, j1, j2, j3, j4, j5, j6, j7, m⟩ := H
  exact ⟨(h.cell (p := ⟨b, 0, none⟩) l0).trans h0, (h.cell (p := ⟨b, 1, none⟩) l0).trans h1, (h.cell (p := ⟨b, 2, none⟩) l0).trans h2, (h.cell (p := ⟨b, 3, none⟩) l0).trans h3, (h.cell (p := ⟨b, 4, none⟩) l0).trans h4, (h.cell (p := ⟨b, 5, none⟩) l0).trans h5, (h.cell (p := ⟨b, 6, none⟩) l0).trans h6, (h.cell (p := ⟨b, 7, none⟩) l0).trans h7, (h.cell (p := ⟨c, 0, none⟩) l1).trans i0, (h.cell (p := ⟨c, 1, none⟩) l1).trans i1, (h.cell (p := ⟨c, 2, none⟩) l1).trans i2, (h.cell (p := ⟨c, 3, none⟩) l1).trans i3, (h.cell (p := ⟨c, 4, none⟩) l1).trans i4, (h.cell (p := ⟨c, 5, none⟩) l1).trans i5, (h.cell (p := ⟨c, 6, none⟩) l1).trans i6, (h.cell (p := ⟨c, 7, none⟩) l1).trans i7, (h.cell (p := ⟨d, 0, none⟩) l2).trans j0, (h.cell (p := ⟨d, 1, none⟩) l2).trans j1, (h.cell (p := ⟨d, 2, none⟩) l2).trans j2, (h.cell (p := ⟨d, 3, none⟩) l2).trans j3, (h.cell (p := ⟨d, 4, none⟩) l2).trans j4, (h.cell (p := ⟨d, 5, none⟩) l2).trans j5, (h.cell (p := ⟨d, 6, none⟩) l2).trans j6, (h.cell (p := ⟨d, 7, none⟩) l2).trans j7, (h.cell (p := ⟨b1, o1, none⟩) l3).trans m⟩
theorem kept25_drew {wr : World} {b c d b1 o1 : Nat} {a0 a1 a2 a3 a4 a5 a6 a7 u0 u1 u2 u3 u4 u5 u6 u7 v0 v1 v2 v3 v4 v5 v6 v7 x : Value} (H : wr.cell? ⟨b, 0, none⟩ = some a0 ∧ wr.cell? ⟨b, 1, none⟩ = some a1 ∧ wr.cell? ⟨b, 2, none⟩ = some a2 ∧ wr.cell? ⟨b, 3, none⟩ = some a3 ∧ wr.cell? ⟨b, 4, none⟩ = some a4 ∧ wr.cell? ⟨b, 5, none⟩ = some a5 ∧ wr.cell? ⟨b, 6, none⟩ = some a6 ∧ wr.cell? ⟨b, 7, none⟩ = some a7 ∧ wr.cell? ⟨c, 0, none⟩ = some u0 ∧ wr.cell? ⟨c, 1, none⟩ = some u1 ∧ wr.cell? ⟨c, 2, none⟩ = some u2 ∧ wr.cell? ⟨c, 3, none⟩ = some u3 ∧ wr.cell? ⟨c, 4, none⟩ = some u4 ∧ wr.cell? ⟨c, 5, none⟩ = some u5 ∧ wr.cell? ⟨c, 6, none⟩ = some u6 ∧ wr.cell? ⟨c, 7, none⟩ = some u7 ∧ wr.cell? ⟨d, 0, none⟩ = some v0 ∧ wr.cell? ⟨d, 1, none⟩ = some v1 ∧ wr.cell? ⟨d, 2, none⟩ = some v2 ∧ wr.cell? ⟨d, 3, none⟩ = some v3 ∧ wr.cell? ⟨d, 4, none⟩ = some v4 ∧ wr.cell? ⟨d, 5, none⟩ = some v5 ∧ wr.cell? ⟨d, 6, none⟩ = some v6 ∧ wr.cell? ⟨d, 7, none⟩ = some v7 ∧ wr.cell? ⟨b1, o1, none⟩ = some x) :
    wr.drew.cell? ⟨b, 0, none⟩ = some a0 ∧ wr.drew.cell? ⟨b, 1, none⟩ = some a1 ∧ wr.drew.cell? ⟨b, 2, none⟩ = some a2 ∧ wr.drew.cell? ⟨b, 3, none⟩ = some a3 ∧ wr.drew.cell? ⟨b, 4, none⟩ = some a4 ∧ wr.drew.cell? ⟨b, 5, none⟩ = some a5 ∧ wr.drew.cell? ⟨b, 6, none⟩ = some a6 ∧ wr.drew.cell? ⟨b, 7, none⟩ = some a7 ∧ wr.drew.cell? ⟨c, 0, none⟩ = some u0 ∧ wr.drew.cell? ⟨c, 1, none⟩ = some u1 ∧ wr.drew.cell? ⟨c, 2, none⟩ = some u2 ∧ wr.drew.cell? ⟨c, 3, none⟩ = some u3 ∧ wr.drew.cell? ⟨c, 4, none⟩ = some u4 ∧ wr.drew.cell? ⟨c, 5, none⟩ = some u5 ∧ wr.drew.cell? ⟨c, 6, none⟩ = some u6 ∧ wr.drew.cell? ⟨c, 7, none⟩ = some u7 ∧ wr.drew.cell? ⟨d, 0, none⟩ = some v0 ∧ wr.drew.cell? ⟨d, 1, none⟩ = some v1 ∧ wr.drew.cell? ⟨d, 2, none⟩ = some v2 ∧ wr.drew.cell? ⟨d, 3, none⟩ = some v3 ∧ wr.drew.cell? ⟨d, 4, none⟩ = some v4 ∧ wr.drew.cell? ⟨d, 5, none⟩ = some v5 ∧ wr.drew.cell? ⟨d, 6, none⟩ = some v6 ∧ wr.drew.cell? ⟨d, 7, none⟩ = some v7 ∧ wr.drew.cell? ⟨b1, o1, none⟩ = some x := H
theorem deal8 {w : World} {b : Nat} {D : Deal} (h : DealAt w b D) : w.cell? ⟨b, 0, none⟩ = some (.int .i64 D.g0) ∧ w.cell? ⟨b, 1, none⟩ = some (.int .i64 D.g1) ∧ w.cell? ⟨b, 2, none⟩ = some (.int .i64 D.e0) ∧ w.cell? ⟨b, 3, none⟩ = some (.int .i64 D.e1) ∧ w.cell? ⟨b, 4, none⟩ = some (.int .i64 D.s0) ∧ w.cell? ⟨b, 5, none⟩ = some (.int .i64 D.s1) ∧ w.cell? ⟨b, 6, none⟩ = some (.bool D.kn) ∧ w.cell? ⟨b, 7, none⟩ = some (.int .i64 D.now) := ⟨h.c0, h.c1, h.c2, h.c3, h.c4, h.c5, h.c6, h.c7⟩

set_option maxHeartbeats 8000000 in
set_option maxRecDepth 100000 in
theorem swaps_any (d : Deal) (zs ys xs : List Int) (A1 A2 A3 : Option Addr) (n1 n2 n3 p1 p2 p3 : Nat) (w : World) (hg : ErrVar w)
    (hz : ISl w w.heap.size A1 n1 zs) (hy : ISl w w.heap.size A2 n2 ys) (hx : ISl w w.heap.size A3 n3 xs) (hn : n1 ≤ 17592186044416) :
    Calls Tryd.prog 3 #[.agg #[.int .i64 d.g0, .int .i64 d.g1, .int .i64 d.e0, .int .i64 d.e1, .int .i64 d.s0, .int .i64 d.s1, .bool d.kn, .int .i64 d.now], .slice A1 n1 p1, .slice A2 n2 p2, .slice A3 n3 p3] w (LawPost w) := by
  go_enter Tryd.func3, Tryd.ntmps3
  go_wp2_with fail
  refine (dealt_any _).mono ?_
  rintro e w1 ⟨rfl, hb1⟩
  obtain ⟨hc, hf, hl⟩ := new_kept rfl hb1
  have hD1 : DealAt w1 w.heap.size d := ⟨hc 0, hc 1, hc 2, hc 3, hc 4, hc 5, hc 6, hc 7, hf⟩
  have hB1 : Below w.heap.size w w1 := ((Below.refl _ _).alloc (Nat.le_refl _) _).trans (hb1.mono (by simp))
  clear hb1 hc hf
  have HG := aside hg
  clear hg
  by_cases a1 : (20 : Int) < (n1 : Int)
  · go_wp2
    go_ret
    exact ⟨rfl, hB1⟩
  by_cases a2 : (n2 : Int) < (n1 : Int)
  · replace a1 : (n1 : Int) ≤ 20 := by omega
    go_wp2
    go_ret
    exact ⟨rfl, hB1⟩
  by_cases a3 : (n3 : Int) < (n1 : Int)
  · replace a1 : (n1 : Int) ≤ 20 := by omega
    replace a2 : (n1 : Int) ≤ (n2 : Int) := by omega
    go_wp2
    go_ret
    exact ⟨rfl, hB1⟩
  replace a1 : (n1 : Int) ≤ 20 := by omega
  replace a2 : (n1 : Int) ≤ (n2 : Int) := by omega
  replace a3 : (n1 : Int) ≤ (n3 : Int) := by omega
  have w1' : ((20 : Int) < (n1 : Int)) = False := by simp only [eq_iff_iff, iff_false]; omega
  have w2' : ((n2 : Int) < (n1 : Int)) = False := by simp only [eq_iff_iff, iff_false]; omega
  have w3' : ((n3 : Int) < (n1 : Int)) = False := by simp only [eq_iff_iff, iff_false]; omega
  have w4' : (n2 < n1) = False := by simp only [eq_iff_iff, iff_false]; omega
  have w5' : (n3 < n1) = False := by simp only [eq_iff_iff, iff_false]; omega
  go_wp2_with fail
  go_loopw [10] (fun v10 wr => ∃ (k : Nat) (D : Deal), k ≤ n1 ∧ v10 = .int .i64 k ∧ Below w.heap.size w wr ∧ w.heap.size < wr.heap.size ∧ DealAt wr w.heap.size D) (fun v10 _ => n1 - (intOf v10).toNat)
  case atStart => exact ⟨0, d, Nat.zero_le _, rfl, hB1, hl, hD1⟩
  case round =>
    obtain ⟨k, D, hk, rfl, hb, l0, hD⟩ := hrel
    clear hD1 hB1 hl
    have hbz := hb.size
    by_cases k1 : k < n1
    · have k2 : k < n2 := by omega
      have k3 : k < n3 := by omega
      obtain ⟨b1, o1, rfl, hb1, hc1⟩ := hz.at_ k1
      obtain ⟨b2, o2, rfl, hb2, hc2⟩ := hy.at_ k2
      obtain ⟨b3, o3, rfl, hb3, hc3⟩ := hx.at_ k3
      have x1 : wr.cell? ⟨b1, o1 + k, none⟩ = some (.int .i64 (nth zs k)) := by rw [hb.cell (by exact hb1)]; exact hc1
      have x2 : wr.cell? ⟨b2, o2 + k, none⟩ = some (.int .i64 (nth ys k)) := by rw [hb.cell (by exact hb2)]; exact hc2
      have x3 : wr.cell? ⟨b3, o3 + k, none⟩ = some (.int .i64 (nth xs k)) := by rw [hb.cell (by exact hb3)]; exact hc3
      have i1 : (k : Int) < (n1 : Int) := by omega
      have i2 : (k : Int) < (n2 : Int) := by omega
      have i3 : (k : Int) < (n3 : Int) := by omega
      have i4 : (0 : Int) ≤ (k : Int) := by omega
      clear hc1 hc2 hc3
      have m1 : b1 < wr.heap.size := by omega
      have m2 : b2 < wr.heap.size := by omega
      have m3 : b3 < wr.heap.size := by omega
      have df := hD.fz
      have HT : wr.cell? ⟨w.heap.size, 0, none⟩ = some (.int .i64 D.g0) ∧ wr.cell? ⟨w.heap.size, 1, none⟩ = some (.int .i64 D.g1) ∧ wr.cell? ⟨w.heap.size, 2, none⟩ = some (.int .i64 D.e0) ∧ wr.cell? ⟨w.heap.size, 3, none⟩ = some (.int .i64 D.e1) ∧ wr.cell? ⟨w.heap.size, 4, none⟩ = some (.int .i64 D.s0) ∧ wr.cell? ⟨w.heap.size, 5, none⟩ = some (.int .i64 D.s1) ∧ wr.cell? ⟨w.heap.size, 6, none⟩ = some (.bool D.kn) ∧ wr.cell? ⟨w.heap.size, 7, none⟩ = some (.int .i64 D.now) ∧ wr.cell? ⟨b1, o1 + k, none⟩ = some (.int .i64 (nth zs k)) ∧ wr.cell? ⟨b2, o2 + k, none⟩ = some (.int .i64 (nth ys k)) ∧ wr.cell? ⟨b3, o3 + k, none⟩ = some (.int .i64 (nth xs k)) := ⟨hD.c0, hD.c1, hD.c2, hD.c3, hD.c4, hD.c5, hD.c6, hD.c7, x1, x2, x3⟩
      clear x1 x2 x3
      go_wp2_with fail
      all_goals have HA1 := kept_drew11 HT
      all_goals have HB1 := fun c => kept_alloc_drew11 (c := c) l0 m1 m2 m3 HT
      all_goals go_region_held3 (fun w' => w'.cell? ⟨w.heap.size, 0, none⟩ = some (.int .i64 D.g0) ∧ w'.cell? ⟨w.heap.size, 1, none⟩ = some (.int .i64 D.g1) ∧ w'.cell? ⟨w.heap.size, 2, none⟩ = some (.int .i64 D.e0) ∧ w'.cell? ⟨w.heap.size, 3, none⟩ = some (.int .i64 D.e1) ∧ w'.cell? ⟨w.heap.size, 4, none⟩ = some (.int .i64 D.s0) ∧ w'.cell? ⟨w.heap.size, 5, none⟩ = some (.int .i64 D.s1) ∧ w'.cell? ⟨w.heap.size, 6, none⟩ = some (.bool D.kn) ∧ w'.cell? ⟨w.heap.size, 7, none⟩ = some (.int .i64 D.now) ∧ w'.cell? ⟨b1, o1 + k, none⟩ = some (.int .i64 (nth zs k)) ∧ w'.cell? ⟨b2, o2 + k, none⟩ = some (.int .i64 (nth ys k)) ∧ w'.cell? ⟨b3, o3 + k, none⟩ = some (.int .i64 (nth xs k)))
        (with_reducible (first | exact HA1 | exact HC1 | exact HB1 _ | exact kept_alloc11 y10 y11 y12 y13 HC1 | exact kept_set11 l0 m1 m2 m3 HC1 | exact kept_set11 y10 y11 y12 y13 (kept_alloc11 y10 y11 y12 y13 HC1)))
        (first | (go_at_call 5; refine (stepped_any D _ _ _ _).mono ?_; rintro e w2 ⟨D1, q1, rfl, hb1, hr1⟩; simp only [Deal.v]; (first | (with_reducible (have hbw1 := below_drew_alloc hb1); have nk1 := new_cells hb1; obtain ⟨c10, c11, c12, c13, c14, c15, c16, c17, c1f, c1l⟩ := nk1) | (have hbw1 := below_drew hb1)); have kk1 := kept11 hbw1 l0 m1 m2 m3 HT df; obtain ⟨HC1, y10, y11, y12, y13, _⟩ := kk1; skip))
      all_goals (first
        | (have F : ∃ W, W = w2.alloc (.cells #[.int .i64 D1.g0, .int .i64 D1.g1, .int .i64 D1.e0, .int .i64 D1.e1, .int .i64 D1.s0, .int .i64 D1.s1, .bool D1.kn, .int .i64 D1.now] 24) ∧ ∃ nb, nb = w2.heap.size ∧ After wr W 0 nb D1 := ⟨_, rfl, _, rfl, after_alloc (b := 0) D1 hbw1⟩
           obtain ⟨W1, hW, nb1, hnb, F1⟩ := F
           rw [← hW, ← hnb])
        | (have F : ∃ W, W = ((((((((w2.setCell ⟨wr.heap.size, 0, none⟩ (.int .i64 D1.g0)).setCell ⟨wr.heap.size, 1, none⟩ (.int .i64 D1.g1)).setCell ⟨wr.heap.size, 2, none⟩ (.int .i64 D1.e0)).setCell ⟨wr.heap.size, 3, none⟩ (.int .i64 D1.e1)).setCell ⟨wr.heap.size, 4, none⟩ (.int .i64 D1.s0)).setCell ⟨wr.heap.size, 5, none⟩ (.int .i64 D1.s1)).setCell ⟨wr.heap.size, 6, none⟩ (.bool D1.kn)).setCell ⟨wr.heap.size, 7, none⟩ (.int .i64 D1.now)) ∧ ∃ nb, nb = wr.heap.size ∧ After wr W 0 nb D1 := ⟨_, rfl, _, rfl, after_set (b := 0) D1 hbw1 c1l (fun q hq => by (have : q = 0 ∨ q = 1 ∨ q = 2 ∨ q = 3 ∨ q = 4 ∨ q = 5 ∨ q = 6 ∨ q = 7 := by omega); rcases this with rfl | rfl | rfl | rfl | rfl | rfl | rfl | rfl <;> simp only [c10, c11, c12, c13, c14, c15, c16, c17, Option.isSome_some]) c1f⟩
           obtain ⟨W1, hW, nb1, hnb, F1⟩ := F
           rw [← hW, ← hnb]))
      all_goals clear hW hnb HA1 HB1 HC1 hb1
      all_goals have kk := kept11 F1.bel l0 m1 m2 m3 HT df
      all_goals obtain ⟨HT1, r0, r1, r2, r3, df1⟩ := kk
      all_goals go_wp2_with fail
      all_goals have HA2 := kept_drew11 HT1
      all_goals have HB2 := fun c => kept_alloc_drew11 (c := c) r0 r1 r2 r3 HT1
      all_goals go_region_held3 (fun w' => w'.cell? ⟨w.heap.size, 0, none⟩ = some (.int .i64 D.g0) ∧ w'.cell? ⟨w.heap.size, 1, none⟩ = some (.int .i64 D.g1) ∧ w'.cell? ⟨w.heap.size, 2, none⟩ = some (.int .i64 D.e0) ∧ w'.cell? ⟨w.heap.size, 3, none⟩ = some (.int .i64 D.e1) ∧ w'.cell? ⟨w.heap.size, 4, none⟩ = some (.int .i64 D.s0) ∧ w'.cell? ⟨w.heap.size, 5, none⟩ = some (.int .i64 D.s1) ∧ w'.cell? ⟨w.heap.size, 6, none⟩ = some (.bool D.kn) ∧ w'.cell? ⟨w.heap.size, 7, none⟩ = some (.int .i64 D.now) ∧ w'.cell? ⟨b1, o1 + k, none⟩ = some (.int .i64 (nth zs k)) ∧ w'.cell? ⟨b2, o2 + k, none⟩ = some (.int .i64 (nth ys k)) ∧ w'.cell? ⟨b3, o3 + k, none⟩ = some (.int .i64 (nth xs k)))
        (with_reducible (first | exact HA2 | exact HC2 | exact HB2 _ | exact kept_alloc11 y20 y21 y22 y23 HC2 | exact kept_set11 r0 r1 r2 r3 HC2 | exact kept_set11 y20 y21 y22 y23 (kept_alloc11 y20 y21 y22 y23 HC2)))
        (first | (go_at_call 6; refine (step_any D _ _ _ _).mono ?_; rintro e w3 ⟨D2, q2, v2, rfl, hb2, hr2⟩; simp only [Deal.v]; (first | (with_reducible (have hbw2 := below_drew_alloc hb2); have nk2 := new_cells hb2; obtain ⟨c20, c21, c22, c23, c24, c25, c26, c27, c2f, c2l⟩ := nk2) | (have hbw2 := below_drew hb2)); have kk2 := kept11 hbw2 r0 r1 r2 r3 HT1 df1; obtain ⟨HC2, y20, y21, y22, y23, _⟩ := kk2; skip))
      all_goals (first
        | (have F : ∃ W, W = w3.alloc (.cells #[.int .i64 D2.g0, .int .i64 D2.g1, .int .i64 D2.e0, .int .i64 D2.e1, .int .i64 D2.s0, .int .i64 D2.s1, .bool D2.kn, .int .i64 D2.now] 24) ∧ ∃ nb, nb = w3.heap.size ∧ After W1 W 0 nb D2 := ⟨_, rfl, _, rfl, after_alloc (b := 0) D2 hbw2⟩
           obtain ⟨W2, hW, nb2, hnb, F2⟩ := F
           rw [← hW, ← hnb])
        | (have F : ∃ W, W = ((((((((w3.setCell ⟨W1.heap.size, 0, none⟩ (.int .i64 D2.g0)).setCell ⟨W1.heap.size, 1, none⟩ (.int .i64 D2.g1)).setCell ⟨W1.heap.size, 2, none⟩ (.int .i64 D2.e0)).setCell ⟨W1.heap.size, 3, none⟩ (.int .i64 D2.e1)).setCell ⟨W1.heap.size, 4, none⟩ (.int .i64 D2.s0)).setCell ⟨W1.heap.size, 5, none⟩ (.int .i64 D2.s1)).setCell ⟨W1.heap.size, 6, none⟩ (.bool D2.kn)).setCell ⟨W1.heap.size, 7, none⟩ (.int .i64 D2.now)) ∧ ∃ nb, nb = W1.heap.size ∧ After W1 W 0 nb D2 := ⟨_, rfl, _, rfl, after_set (b := 0) D2 hbw2 c2l (fun q hq => by (have : q = 0 ∨ q = 1 ∨ q = 2 ∨ q = 3 ∨ q = 4 ∨ q = 5 ∨ q = 6 ∨ q = 7 := by omega); rcases this with rfl | rfl | rfl | rfl | rfl | rfl | rfl | rfl <;> simp only [c20, c21, c22, c23, c24, c25, c26, c27, Option.isSome_some]) c2f⟩
           obtain ⟨W2, hW, nb2, hnb, F2⟩ := F
           rw [← hW, ← hnb]))
      all_goals clear hW hnb HA2 HB2 HC2 hb2
      all_goals have kk := both_agree hr1 hr2
      all_goals obtain ⟨hE, hq, hv⟩ := kk
      all_goals replace hE := hE.symm
      all_goals subst hE
      all_goals replace hq := hq.symm
      all_goals subst hq
      all_goals clear hr1 hr2 hbw1 hbw2
      all_goals have kk := kept11 F2.bel r0 r1 r2 r3 HT1 df1
      all_goals obtain ⟨HT2, s0, s1, s2, s3, df2⟩ := kk
      all_goals have X2 : DealAt W2 w.heap.size D := (hD.below F1.bel l0).below F2.bel r0
      all_goals have Y2 : DealAt W2 nb1 D1 := F1.at_.below F2.bel F1.lt
      all_goals have Z2 : DealAt W2 nb2 D1 := F2.at_
      all_goals have z1 : nb1 < W2.heap.size := Nat.lt_of_lt_of_le F1.lt F2.bel.size
      all_goals have z2 : nb2 < W2.heap.size := F2.lt
      all_goals have BW2 : Below w.heap.size w W2 := hb.trans ((F1.bel.mono hbz).trans (F2.bel.mono (Nat.le_trans hbz F1.bel.size)))
      all_goals have hgW : ErrVar W2 := HG.out.below (errVar_lt HG.out) BW2
      all_goals have hwho := HT2.2.2.2.2.2.2.2.2.1
      all_goals clear HT1 HT2 HT F1 F2
      all_goals have HV := aside hv
      all_goals clear hv
      all_goals go_wp2_with fail
      all_goals refine (error_at HV.out hgW).mono ?_
      all_goals rintro e w5 ⟨rfl, hb5⟩
      all_goals rw [beq_self_eq_true]
      all_goals have X5 := X2.below hb5 s0
      all_goals have Y5 := Y2.below hb5 z1
      all_goals have Z5 := Z2.below hb5 z2
      all_goals have HQ : w5.cell? ⟨w.heap.size, 0, none⟩ = some (.int .i64 D.g0) ∧ w5.cell? ⟨w.heap.size, 1, none⟩ = some (.int .i64 D.g1) ∧ w5.cell? ⟨w.heap.size, 2, none⟩ = some (.int .i64 D.e0) ∧ w5.cell? ⟨w.heap.size, 3, none⟩ = some (.int .i64 D.e1) ∧ w5.cell? ⟨w.heap.size, 4, none⟩ = some (.int .i64 D.s0) ∧ w5.cell? ⟨w.heap.size, 5, none⟩ = some (.int .i64 D.s1) ∧ w5.cell? ⟨w.heap.size, 6, none⟩ = some (.bool D.kn) ∧ w5.cell? ⟨w.heap.size, 7, none⟩ = some (.int .i64 D.now) ∧ w5.cell? ⟨nb1, 0, none⟩ = some (.int .i64 D1.g0) ∧ w5.cell? ⟨nb1, 1, none⟩ = some (.int .i64 D1.g1) ∧ w5.cell? ⟨nb1, 2, none⟩ = some (.int .i64 D1.e0) ∧ w5.cell? ⟨nb1, 3, none⟩ = some (.int .i64 D1.e1) ∧ w5.cell? ⟨nb1, 4, none⟩ = some (.int .i64 D1.s0) ∧ w5.cell? ⟨nb1, 5, none⟩ = some (.int .i64 D1.s1) ∧ w5.cell? ⟨nb1, 6, none⟩ = some (.bool D1.kn) ∧ w5.cell? ⟨nb1, 7, none⟩ = some (.int .i64 D1.now) ∧ w5.cell? ⟨nb2, 0, none⟩ = some (.int .i64 D1.g0) ∧ w5.cell? ⟨nb2, 1, none⟩ = some (.int .i64 D1.g1) ∧ w5.cell? ⟨nb2, 2, none⟩ = some (.int .i64 D1.e0) ∧ w5.cell? ⟨nb2, 3, none⟩ = some (.int .i64 D1.e1) ∧ w5.cell? ⟨nb2, 4, none⟩ = some (.int .i64 D1.s0) ∧ w5.cell? ⟨nb2, 5, none⟩ = some (.int .i64 D1.s1) ∧ w5.cell? ⟨nb2, 6, none⟩ = some (.bool D1.kn) ∧ w5.cell? ⟨nb2, 7, none⟩ = some (.int .i64 D1.now) ∧ w5.cell? ⟨b1, o1 + k, none⟩ = some (.int .i64 (nth zs k)) := ⟨X5.c0, X5.c1, X5.c2, X5.c3, X5.c4, X5.c5, X5.c6, X5.c7, Y5.c0, Y5.c1, Y5.c2, Y5.c3, Y5.c4, Y5.c5, Y5.c6, Y5.c7, Z5.c0, Z5.c1, Z5.c2, Z5.c3, Z5.c4, Z5.c5, Z5.c6, Z5.c7, (hb5.cell (p := ⟨b1, o1 + k, none⟩) s1).trans hwho⟩
      all_goals have hz5 := hb5.size
      all_goals have t0 : w.heap.size < w5.heap.size := Nat.lt_of_lt_of_le s0 hz5
      all_goals have t1 : nb1 < w5.heap.size := Nat.lt_of_lt_of_le z1 hz5
      all_goals have t2 : nb2 < w5.heap.size := Nat.lt_of_lt_of_le z2 hz5
      all_goals have t3 : b1 < w5.heap.size := Nat.lt_of_lt_of_le s1 hz5
      all_goals have B5 : Below w.heap.size w w5 := BW2.trans (hb5.mono (Nat.le_of_lt s0))
      all_goals clear hb5 X2 Y2 Z2 hwho BW2 hgW
      all_goals go_wp2_with fail
      all_goals have HQd := kept25_drew HQ
      all_goals have hde := deal_eq D1
      all_goals have hne : (gainOf D (nth zs k) != gainOf D (nth zs k)) = false := bne_self_eq_false _
      all_goals go_region_held3 (fun w' => w'.cell? ⟨w.heap.size, 0, none⟩ = some (.int .i64 D.g0) ∧ w'.cell? ⟨w.heap.size, 1, none⟩ = some (.int .i64 D.g1) ∧ w'.cell? ⟨w.heap.size, 2, none⟩ = some (.int .i64 D.e0) ∧ w'.cell? ⟨w.heap.size, 3, none⟩ = some (.int .i64 D.e1) ∧ w'.cell? ⟨w.heap.size, 4, none⟩ = some (.int .i64 D.s0) ∧ w'.cell? ⟨w.heap.size, 5, none⟩ = some (.int .i64 D.s1) ∧ w'.cell? ⟨w.heap.size, 6, none⟩ = some (.bool D.kn) ∧ w'.cell? ⟨w.heap.size, 7, none⟩ = some (.int .i64 D.now) ∧ w'.cell? ⟨nb1, 0, none⟩ = some (.int .i64 D1.g0) ∧ w'.cell? ⟨nb1, 1, none⟩ = some (.int .i64 D1.g1) ∧ w'.cell? ⟨nb1, 2, none⟩ = some (.int .i64 D1.e0) ∧ w'.cell? ⟨nb1, 3, none⟩ = some (.int .i64 D1.e1) ∧ w'.cell? ⟨nb1, 4, none⟩ = some (.int .i64 D1.s0) ∧ w'.cell? ⟨nb1, 5, none⟩ = some (.int .i64 D1.s1) ∧ w'.cell? ⟨nb1, 6, none⟩ = some (.bool D1.kn) ∧ w'.cell? ⟨nb1, 7, none⟩ = some (.int .i64 D1.now) ∧ w'.cell? ⟨nb2, 0, none⟩ = some (.int .i64 D1.g0) ∧ w'.cell? ⟨nb2, 1, none⟩ = some (.int .i64 D1.g1) ∧ w'.cell? ⟨nb2, 2, none⟩ = some (.int .i64 D1.e0) ∧ w'.cell? ⟨nb2, 3, none⟩ = some (.int .i64 D1.e1) ∧ w'.cell? ⟨nb2, 4, none⟩ = some (.int .i64 D1.s0) ∧ w'.cell? ⟨nb2, 5, none⟩ = some (.int .i64 D1.s1) ∧ w'.cell? ⟨nb2, 6, none⟩ = some (.bool D1.kn) ∧ w'.cell? ⟨nb2, 7, none⟩ = some (.int .i64 D1.now) ∧ w'.cell? ⟨b1, o1 + k, none⟩ = some (.int .i64 (nth zs k)))
        (with_reducible (first | exact HQd | exact HR7 | exact HR6))
        (first
          | (go_at_call 8; refine (gain_any D _ _).mono ?_; rintro e w6 ⟨rfl, hb6⟩; have hc6 := below_drew hb6; have HR6 := kept25 hc6 t0 t1 t2 t3 HQ; have hz6 := hc6.size; skip)
          | (go_at_call 9; refine (rgain_any D _ _).mono ?_; rintro e w7 ⟨rfl, hb7⟩; have HR7 := kept25 hb7 (Nat.lt_of_lt_of_le t0 hz6) (Nat.lt_of_lt_of_le t1 hz6) (Nat.lt_of_lt_of_le t2 hz6) (Nat.lt_of_lt_of_le t3 hz6) HR6; skip))
      all_goals have X7 := (X5.below hc6 t0).below hb7 (Nat.lt_of_lt_of_le t0 hz6)
      all_goals have Z7 := (Z5.below hc6 t2).below hb7 (Nat.lt_of_lt_of_le t2 hz6)
      all_goals have B7 : Below w.heap.size w w7 := B5.trans ((hc6.mono (Nat.le_of_lt t0)).trans (hb7.mono (Nat.le_trans (Nat.le_of_lt t0) hz6)))
      all_goals have hz7 := hb7.size
      all_goals have h7 : w.heap.size < w7.heap.size := Nat.lt_of_lt_of_le t0 (Nat.le_trans hz6 hz7)
      all_goals clear HQ HQd HR6 HR7 X5 Y5 Z5 hb6 hc6 hb7 hde hne B5
      all_goals obtain ⟨f0, f1, f2, f3, f4, f5, f6, f7, ff⟩ := X7
      all_goals obtain ⟨g0, g1, g2, g3, g4, g5, g6, g7, gf⟩ := Z7
      all_goals by_cases hq0 : q1 = 0
      any_goals (subst hq0; go_wp2; exact ⟨⟨k + 1, D1, by omega, rfl, set8_below (Nat.le_refl _) B7, by rw [set8_size]; exact h7, set8_deal D1 (fun q hq => by (have : q = 0 ∨ q = 1 ∨ q = 2 ∨ q = 3 ∨ q = 4 ∨ q = 5 ∨ q = 6 ∨ q = 7 := by omega); rcases this with rfl | rfl | rfl | rfl | rfl | rfl | rfl | rfl <;> simp only [f0, f1, f2, f3, f4, f5, f6, f7, Option.isSome_some]) ff⟩, by simp [intOf]; omega⟩)
      all_goals (have b0 : (q1 == 0) = false := beq_eq_false_iff_ne.2 hq0)
      all_goals clear hq0
      all_goals go_wp2
      all_goals exact ⟨⟨k + 1, D, by omega, rfl, B7, h7, ⟨f0, f1, f2, f3, f4, f5, f6, f7, ff⟩⟩, by simp [intOf]; omega⟩
    · have i1 : ((k : Int) < (n1 : Int)) = False := by
        simp only [eq_iff_iff, iff_false]
        omega
      clear k1
      go_wp2
      go_ret
      exact ⟨rfl, hb⟩
end Go.Proofs.YtionmkmoddfehaaDoor
