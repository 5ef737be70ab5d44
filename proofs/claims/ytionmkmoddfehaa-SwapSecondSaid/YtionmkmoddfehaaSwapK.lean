/- SwapSecond: what each deal behind acts keeps; the walk of the law. No condition. -/
import Derived.Test.YtionmkmoddfehaaSwapP
namespace Go.Proofs.Ytionmkmoddfehaa
open Go.RowKit Go.ChangeShapes Go.WideShapes Go.ChangeAt

/-- What each deal behind acts keeps. -/
structure Kept2 (g0 g1 e0 e1 : Int) (d : Deal) : Prop where
  a0 : d.g0 = g0
  a1 : d.g1 = g1
  a2 : d.e0 = e0
  a3 : d.e1 = e1
  t0 : 0 ≤ d.now
  r0 : d.s0 = 0 ∨ d.s0 = 1 ∨ d.s0 = 2 ∨ d.s0 = 3
  ok : d.s1 ≠ 0 → MoneyIn g0 ∧ MoneyIn g1 ∧ TimeIn e0 ∧ TimeIn e1
  s1 : d.s1 ≠ 0 → d.s0 ≠ 0
  kn : d.s1 = 2 → d.kn = true
  ta : d.s0 = 3 → e0 ≤ d.now

theorem kept2_first (g0 g1 e0 e1 : Int) : Kept2 g0 g1 e0 e1 ⟨g0, g1, e0, e1, 0, 0, false, 0⟩ := by
  constructor <;> simp

theorem kept2_step (g0 g1 e0 e1 : Int) (d : Deal) (who act now : Int) (h : Kept2 g0 g1 e0 e1 d) (hg : Good d who act now) (hq : stepQ d who act now = 0) : Kept2 g0 g1 e0 e1 (stepD d who act now) := by
  obtain ⟨a, b, c, e, s, t, k, n⟩ := d
  obtain ⟨rfl, rfl, rfl, rfl, ht, hr, hok, h1, hk, hta⟩ := h
  obtain ⟨hw, ha1, ha3, hn, hl, hm0, hm1, he0, he1⟩ := hg
  simp only [] at ht hr hok h1 hk hta hl hm0 hm1 he0 he1
  have hn0 := hn.1
  have ha : act = 1 ∨ act = 2 ∨ act = 3 := by omega
  rcases hw with rfl | rfl <;> rcases ha with rfl | rfl | rfl <;> simp [stepQ, stepD] at hq ⊢ <;> constructor <;> simp_all <;> grind

theorem wrap_kind (x : Int) (h : -4503599627370496 ≤ x ∧ x ≤ 4503599627370496) : IntKind.i64.wrap x = x := by rw [IntKind.wrap_i64]; omega

/-- The claim by 1. -/
theorem step_claim {d D : Deal} {now q : Int} {v : Value} (hG : Good d 1 2 now) (hQ : stepQ d 1 2 now = 0)
    (h : (Good d 1 2 now ∧ stepQ d 1 2 now = 0 ∧ q = 0 ∧ v = .nilIface ∧ D = stepD d 1 2 now) ∨
     (D = zeroD ∧ q ≠ 0 ∧ v = .iface 40 (.int .i64 q) ∧ ((Good d 1 2 now ∧ stepQ d 1 2 now = q) ∨ (¬ Good d 1 2 now ∧ q = 2)))) : v = .nilIface ∧ D = stepD d 1 2 now := by
  rcases h with ⟨_, _, _, hv, hD⟩ | ⟨_, hq, _, ⟨_, h⟩ | ⟨h, _⟩⟩
  · exact ⟨hv, hD⟩
  · exact absurd (h.symm.trans hQ) hq
  · exact absurd hG h
/-- The taking back by 1. -/
theorem step_take {d D : Deal} {now q : Int} {v : Value} (hG : Good d 1 3 now) (hQ : stepQ d 1 3 now = 0)
    (h : (Good d 1 3 now ∧ stepQ d 1 3 now = 0 ∧ q = 0 ∧ v = .nilIface ∧ D = stepD d 1 3 now) ∨
     (D = zeroD ∧ q ≠ 0 ∧ v = .iface 40 (.int .i64 q) ∧ ((Good d 1 3 now ∧ stepQ d 1 3 now = q) ∨ (¬ Good d 1 3 now ∧ q = 2)))) : v = .nilIface ∧ D = stepD d 1 3 now := by
  rcases h with ⟨_, _, _, hv, hD⟩ | ⟨_, hq, _, ⟨_, h⟩ | ⟨h, _⟩⟩
  · exact ⟨hv, hD⟩
  · exact absurd (h.symm.trans hQ) hq
  · exact absurd hG h

theorem laid {w2 : World} (a0 a1 a2 a3 a4 a5 a7 : Int) (a6 : Bool) : ∃ W, W = w2.alloc (.cells #[.int .i64 a0, .int .i64 a1, .int .i64 a2, .int .i64 a3, .int .i64 a4, .int .i64 a5, .bool a6, .int .i64 a7] 26) ∧ w2.heap.size < W.heap.size ∧ Below w2.heap.size w2 W ∧
    DealAt W w2.heap.size ⟨a0, a1, a2, a3, a4, a5, a6, a7⟩ := by
  refine ⟨_, rfl, by simp, (Below.refl _ _).alloc (Nat.le_refl _) _, ?_⟩
  constructor
  case fz => exact fun i => World.frozen?_alloc_at _ _ _ _ rfl
  all_goals exact World.cell?_alloc_at _ _ _ _ rfl

theorem kept10 {B : Nat} {wr w2 : World} {b c : Nat} {a0 a1 a2 a3 a4 a5 a6 a7 u v : Value} (h : Below B wr w2) (l0 : b < B) (l1 : c < B)
    (H : wr.cell? ⟨b, 0, none⟩ = some (a0) ∧ wr.cell? ⟨b, 1, none⟩ = some (a1) ∧ wr.cell? ⟨b, 2, none⟩ = some (a2) ∧ wr.cell? ⟨b, 3, none⟩ = some (a3) ∧ wr.cell? ⟨b, 4, none⟩ = some (a4) ∧ wr.cell? ⟨b, 5, none⟩ = some (a5) ∧ wr.cell? ⟨b, 6, none⟩ = some (a6) ∧ wr.cell? ⟨b, 7, none⟩ = some (a7) ∧ wr.cell? ⟨c, 0, none⟩ = some (u) ∧ wr.cell? ⟨c, 1, none⟩ = some (v)) :
    w2.cell? ⟨b, 0, none⟩ = some (a0) ∧ w2.cell? ⟨b, 1, none⟩ = some (a1) ∧ w2.cell? ⟨b, 2, none⟩ = some (a2) ∧ w2.cell? ⟨b, 3, none⟩ = some (a3) ∧ w2.cell? ⟨b, 4, none⟩ = some (a4) ∧ w2.cell? ⟨b, 5, none⟩ = some (a5) ∧ w2.cell? ⟨b, 6, none⟩ = some (a6) ∧ w2.cell? ⟨b, 7, none⟩ = some (a7) ∧ w2.cell? ⟨c, 0, none⟩ = some (u) ∧ w2.cell? ⟨c, 1, none⟩ = some (v) := by
  obtain ⟨h0, h1, h2, h3, h4, h5, h6, h7, k0, k1⟩ := H
  exact ⟨(h.cell (p := ⟨b, 0, none⟩) l0).trans h0, (h.cell (p := ⟨b, 1, none⟩) l0).trans h1, (h.cell (p := ⟨b, 2, none⟩) l0).trans h2, (h.cell (p := ⟨b, 3, none⟩) l0).trans h3, (h.cell (p := ⟨b, 4, none⟩) l0).trans h4, (h.cell (p := ⟨b, 5, none⟩) l0).trans h5, (h.cell (p := ⟨b, 6, none⟩) l0).trans h6, (h.cell (p := ⟨b, 7, none⟩) l0).trans h7,
    (h.cell (p := ⟨c, 0, none⟩) l1).trans k0, (h.cell (p := ⟨c, 1, none⟩) l1).trans k1⟩
theorem kept10_drew {wr : World} {b c : Nat} {a0 a1 a2 a3 a4 a5 a6 a7 u v : Value} (H : wr.cell? ⟨b, 0, none⟩ = some (a0) ∧ wr.cell? ⟨b, 1, none⟩ = some (a1) ∧ wr.cell? ⟨b, 2, none⟩ = some (a2) ∧ wr.cell? ⟨b, 3, none⟩ = some (a3) ∧ wr.cell? ⟨b, 4, none⟩ = some (a4) ∧ wr.cell? ⟨b, 5, none⟩ = some (a5) ∧ wr.cell? ⟨b, 6, none⟩ = some (a6) ∧ wr.cell? ⟨b, 7, none⟩ = some (a7) ∧ wr.cell? ⟨c, 0, none⟩ = some (u) ∧ wr.cell? ⟨c, 1, none⟩ = some (v)) :
    wr.drew.cell? ⟨b, 0, none⟩ = some (a0) ∧ wr.drew.cell? ⟨b, 1, none⟩ = some (a1) ∧ wr.drew.cell? ⟨b, 2, none⟩ = some (a2) ∧ wr.drew.cell? ⟨b, 3, none⟩ = some (a3) ∧ wr.drew.cell? ⟨b, 4, none⟩ = some (a4) ∧ wr.drew.cell? ⟨b, 5, none⟩ = some (a5) ∧ wr.drew.cell? ⟨b, 6, none⟩ = some (a6) ∧ wr.drew.cell? ⟨b, 7, none⟩ = some (a7) ∧ wr.drew.cell? ⟨c, 0, none⟩ = some (u) ∧ wr.drew.cell? ⟨c, 1, none⟩ = some (v) := H
theorem drew_below' {wr w2 : World} (h : Below wr.drew.heap.size wr.drew w2) : Below wr.heap.size wr w2 := ⟨h.os, h.tape, h.output, h.size, h.block⟩

set_option maxHeartbeats 4000000 in
set_option maxRecDepth 100000 in
theorem seconds_any (g0 g1 e0 e1 now : Int) (zs ys xs : List Int) (A1 A2 A3 : Option Addr) (n1 n2 n3 p1 p2 p3 : Nat) (w : World)
    (hz : ISl w w.heap.size A1 n1 zs) (hy : ISl w w.heap.size A2 n2 ys) (hx : ISl w w.heap.size A3 n3 xs) (hn : n1 ≤ 17592186044416) :
    Calls Try.prog 4 #[.agg #[.int .i64 g0, .int .i64 g1], .agg #[.int .i64 e0, .int .i64 e1], .slice A1 n1 p1, .slice A2 n2 p2, .slice A3 n3 p3, .int .i64 now] w (LawPost w) := by
  go_enter Try.func4, Try.ntmps4
  go_wp2_with fail
  refine (dealt_any _).mono ?_
  rintro e w1 ⟨rfl, hb1⟩
  have hs1 := hb1.size
  obtain ⟨hc1, hf1⟩ := bcell hb1
  simp only [World.size_alloc] at hs1 hc1 hf1
  have p0 : w1.cell? ⟨w.heap.size, 0, none⟩ = some (.int .i64 g0) := by rw [hc1 _ _ (by omega)]; simp [go_sem]
  have p1' : w1.cell? ⟨w.heap.size, 1, none⟩ = some (.int .i64 g1) := by rw [hc1 _ _ (by omega)]; simp [go_sem]
  have p2' : w1.cell? ⟨w.heap.size + 1, 0, none⟩ = some (.int .i64 e0) := by rw [hc1 _ _ (by omega)]; simp [go_sem]
  have p3' : w1.cell? ⟨w.heap.size + 1, 1, none⟩ = some (.int .i64 e1) := by rw [hc1 _ _ (by omega)]; simp [go_sem]
  have hB1 : Below w.heap.size w w1 := (((Below.refl _ _).alloc (Nat.le_refl _) _).alloc (by simp) _).trans (hb1.mono (by simp; omega))
  clear hb1 hc1 hf1
  go_wp2_with fail
  refine (played_any (Kept2 g0 g1 e0 e1) (fun d who act now h hg hq => kept2_step g0 g1 e0 e1 d who act now h hg hq) g0 g1 e0 e1 0 0 0 false (kept2_first _ _ _ _) zs ys xs A1 A2 A3 n1 n2 n3 p1 p2 p3 w1 ((hz.below hB1).more hB1.size) ((hy.below hB1).more hB1.size) ((hx.below hB1).more hB1.size) hn).mono ?_
  rintro e w2 ⟨⟨G0, G1, E0, E1, S0, S1, K, T⟩, rfl, hI, hb2⟩
  obtain ⟨hc2, hf2⟩ := bcell hb2
  have hs2 := hb2.size
  have q0 := (hc2 _ 0 (show w.heap.size < w1.heap.size by omega)).trans p0
  have q1 := (hc2 _ 1 (show w.heap.size < w1.heap.size by omega)).trans p1'
  have q2 := (hc2 _ 0 (show w.heap.size + 1 < w1.heap.size by omega)).trans p2'
  have q3 := (hc2 _ 1 (show w.heap.size + 1 < w1.heap.size by omega)).trans p3'
  have hB2 : Below w.heap.size w w2 := hB1.trans (hb2.mono (by omega))
  clear hc2 hf2 p0 p1' p2' p3' hb2
  obtain ⟨rfl, rfl, rfl, rfl, ht, hr, hok, h1, hk, hta⟩ := hI
  simp only [] at ht hr hok h1 hk hta q0 q1 q2 q3
  obtain ⟨W, hW, hl, hBa, hD⟩ := laid (w2 := w2) G0 G1 E0 E1 S0 S1 T K
  have u0 := (hBa.cell (p := ⟨w.heap.size, 0, none⟩) (by show w.heap.size < _; omega)).trans q0
  have u1 := (hBa.cell (p := ⟨w.heap.size, 1, none⟩) (by show w.heap.size < _; omega)).trans q1
  have u2 := (hBa.cell (p := ⟨w.heap.size + 1, 0, none⟩) (by show w.heap.size + 1 < _; omega)).trans q2
  have u3 := (hBa.cell (p := ⟨w.heap.size + 1, 1, none⟩) (by show w.heap.size + 1 < _; omega)).trans q3
  have hBW := hB2.trans (hBa.mono (by omega))
  clear hB1 hBa
  have l0 : w.heap.size < w2.heap.size := by omega
  have l1 : w.heap.size + 1 < w2.heap.size := by omega
  have L1 : w.heap.size < W.heap.size := by omega
  have L2 : w.heap.size + 1 < W.heap.size := by omega
  obtain ⟨t0, t1, t2, t3, t4, t5, t6, t7, _⟩ := hD
  simp only [] at t0 t1 t2 t3 t4 t5 t6 t7
  have HR := aside hr
  have HT := aside ht
  have HO := aside hok
  have H1 := aside h1
  have HK := aside hk
  have HA := aside hta
  have HW := aside hW
  clear hr ht hok h1 hk hta hW
  simp only [Deal.v]
  by_cases c1 : E0 ≤ E1
  · go_wp2
    go_ret
    exact ⟨rfl, hB2.alloc hB2.size _⟩
  replace c1 : E1 < E0 := by omega
  by_cases c2 : now < T
  · go_wp2
    go_ret
    exact ⟨rfl, hB2.alloc hB2.size _⟩
  replace c2 : T ≤ now := by omega
  by_cases c3 : 1073741824 < now
  · go_wp2
    go_ret
    exact ⟨rfl, hB2.alloc hB2.size _⟩
  replace c3 : now ≤ 1073741824 := by omega
  by_cases d1 : S1 = 2
  · subst d1
    have hk := HK.out rfl
    subst hk
    obtain ⟨⟨m0, m1⟩, ⟨m2, m3⟩, ⟨m4, m5⟩, ⟨m6, m7⟩⟩ := HO.out (by decide)
    rcases HR.out with rfl | rfl | rfl | rfl
    · exact absurd rfl (H1.out (by decide))
    · by_cases d3 : now < E0
      · have hG : Good ⟨G0, G1, E0, E1, 1, 2, true, T⟩ 1 2 now := ⟨.inr rfl, by decide, by decide, ⟨by have := HT.out; omega, by omega⟩, by simpa using c2, ⟨m0, m1⟩, ⟨m2, m3⟩, ⟨m4, m5⟩, ⟨m6, m7⟩⟩
        have hQ : stepQ ⟨G0, G1, E0, E1, 1, 2, true, T⟩ 1 2 now = 0 := by simp [stepQ]; omega
        have HG := aside hG
        have HQ := aside hQ
        clear hG hQ
        go_wp2_with fail
        refine (step_any ⟨G0, G1, E0, E1, 1, 2, true, T⟩ _ _ _ _).mono ?_
        rintro e w3 ⟨D, q, v, rfl, hb3, hr3⟩
        rw [← HW.out] at hb3
        obtain ⟨rfl, rfl⟩ := step_claim HG.out HQ.out hr3
        have hD : stepD ⟨G0, G1, E0, E1, 1, 2, true, T⟩ 1 2 now = ⟨G0, G1, E0, E1, 2, 2, true, now⟩ := by simp [stepD]
        rw [hD]
        clear hD hr3
        simp only [Deal.v]
        have hs3 := hb3.size
        have z0 := (hb3.cell (p := ⟨w.heap.size, 0, none⟩) L1).trans u0
        have z1 := (hb3.cell (p := ⟨w.heap.size, 1, none⟩) L1).trans u1
        obtain ⟨V, hV, hlV, hbV, hDV⟩ := laid (w2 := w3) G0 G1 E0 E1 2 2 now true
        have z2 := (hbV.cell (p := ⟨w.heap.size, 0, none⟩) (by show w.heap.size < _; omega)).trans z0
        have z3 := (hbV.cell (p := ⟨w.heap.size, 1, none⟩) (by show w.heap.size < _; omega)).trans z1
        have hBV := hBW.trans ((hb3.mono (by omega)).trans (hbV.mono (by omega)))
        have N1 : w.heap.size < V.heap.size := by omega
        have HV := aside hV
        clear hV hb3 hbV z0 z1 hBW
        obtain ⟨y0, y1, y2, y3, y4, y5, y6, y7, _⟩ := hDV
        simp only [] at y0 y1 y2 y3 y4 y5 y6 y7
        have hgn : gainOf ⟨G0, G1, E0, E1, 2, 2, true, now⟩ 1 = G0 - G1 := by
          simp only [gainOf]
          simp
          rw [wrap_in G0 (by omega), wrap_in _ (by omega)]
        have HN := aside hgn
        have hsub : IntKind.i64.wrap (G0 - G1) = G0 - G1 := wrap_kind _ (by omega)
        clear hgn
        go_wp2_with fail
        rw [← HV.out]
        have HS : V.cell? ⟨w3.heap.size, 0, none⟩ = some (.int .i64 G0) ∧ V.cell? ⟨w3.heap.size, 1, none⟩ = some (.int .i64 G1) ∧ V.cell? ⟨w3.heap.size, 2, none⟩ = some (.int .i64 E0) ∧ V.cell? ⟨w3.heap.size, 3, none⟩ = some (.int .i64 E1) ∧ V.cell? ⟨w3.heap.size, 4, none⟩ = some (.int .i64 2) ∧ V.cell? ⟨w3.heap.size, 5, none⟩ = some (.int .i64 2) ∧ V.cell? ⟨w3.heap.size, 6, none⟩ = some (.bool true) ∧ V.cell? ⟨w3.heap.size, 7, none⟩ = some (.int .i64 now) ∧ V.cell? ⟨w.heap.size, 0, none⟩ = some (.int .i64 G0) ∧ V.cell? ⟨w.heap.size, 1, none⟩ = some (.int .i64 G1) := ⟨y0, y1, y2, y3, y4, y5, y6, y7, z2, z3⟩
        have HSd := kept10_drew HS
        go_region_held3 (fun w' => w'.cell? ⟨w3.heap.size, 0, none⟩ = some (.int .i64 G0) ∧ w'.cell? ⟨w3.heap.size, 1, none⟩ = some (.int .i64 G1) ∧ w'.cell? ⟨w3.heap.size, 2, none⟩ = some (.int .i64 E0) ∧ w'.cell? ⟨w3.heap.size, 3, none⟩ = some (.int .i64 E1) ∧ w'.cell? ⟨w3.heap.size, 4, none⟩ = some (.int .i64 2) ∧ w'.cell? ⟨w3.heap.size, 5, none⟩ = some (.int .i64 2) ∧ w'.cell? ⟨w3.heap.size, 6, none⟩ = some (.bool true) ∧ w'.cell? ⟨w3.heap.size, 7, none⟩ = some (.int .i64 now) ∧ w'.cell? ⟨w.heap.size, 0, none⟩ = some (.int .i64 G0) ∧ w'.cell? ⟨w.heap.size, 1, none⟩ = some (.int .i64 G1))
          (with_reducible (first | exact HSd | exact HS4))
          (first
            | (go_at_call 7; refine (gain_any ⟨G0, G1, E0, E1, 2, 2, true, now⟩ 1 _).mono ?_; rintro e w4 ⟨rfl, hb4⟩; rw [HN.out]; (have HS4 := kept10 (drew_below' hb4) hlV N1 HS); (have hB4 := hBV.trans ((drew_below' hb4).mono (by omega))); skip))
        go_wp2
        go_ret
        exact ⟨rfl, hB4⟩
      · replace d3 : E0 ≤ now := by omega
        go_wp2
        go_ret
        exact ⟨rfl, hB2.alloc hB2.size _⟩
    · go_wp2
      go_ret
      exact ⟨rfl, hB2.alloc hB2.size _⟩
    · have hta := HA.out rfl
      go_wp2
      go_ret
      exact ⟨rfl, hB2.alloc hB2.size _⟩
  · by_cases d2 : S1 = 1
    · subst d2
      obtain ⟨⟨m0, m1⟩, ⟨m2, m3⟩, ⟨m4, m5⟩, ⟨m6, m7⟩⟩ := HO.out (by decide)
      clear d1
      by_cases d3 : now < E1
      · go_wp2
        go_ret
        exact ⟨rfl, hB2.alloc hB2.size _⟩
      · replace d3 : E1 ≤ now := by omega
        have hG : Good ⟨G0, G1, E0, E1, S0, 1, K, T⟩ 1 3 now := ⟨.inr rfl, by decide, by decide, ⟨by have := HT.out; omega, by omega⟩, by simpa using c2, ⟨m0, m1⟩, ⟨m2, m3⟩, ⟨m4, m5⟩, ⟨m6, m7⟩⟩
        have hQ : stepQ ⟨G0, G1, E0, E1, S0, 1, K, T⟩ 1 3 now = 0 := by simp [stepQ]; omega
        have HG := aside hG
        have HQ := aside hQ
        clear hG hQ
        go_wp2_with fail
        refine (step_any ⟨G0, G1, E0, E1, S0, 1, K, T⟩ _ _ _ _).mono ?_
        rintro e w3 ⟨D, q, v, rfl, hb3, hr3⟩
        rw [← HW.out] at hb3
        obtain ⟨rfl, rfl⟩ := step_take HG.out HQ.out hr3
        have hD : stepD ⟨G0, G1, E0, E1, S0, 1, K, T⟩ 1 3 now = ⟨G0, G1, E0, E1, S0, 3, K, now⟩ := by simp [stepD]
        rw [hD]
        clear hD hr3
        simp only [Deal.v]
        have hs3 := hb3.size
        have hB3 := hBW.trans (hb3.mono (by omega))
        clear hb3 hBW
        go_wp2
        go_ret
        exact ⟨rfl, hB3.alloc (by omega) _⟩
    · have b1 : (S1 == 2) = false := beq_eq_false_iff_ne.2 d1
      have b2 : (S1 == 1) = false := beq_eq_false_iff_ne.2 d2
      clear d1 d2
      go_wp2
      go_ret
      exact ⟨rfl, hB2.alloc hB2.size _⟩

set_option maxHeartbeats 2000000 in
/-- What the law's arguments are. -/
theorem swapSecond_walk {H : Type} {enc : TypeId × Value → H} (W : World) (args : Array Value) (ds : List (DataW H)) (ps : List MemPlace)
    (h : LawPre enc Try.prog Try.f4 W args ds ps) : Calls Try.prog 4 args W (LawPost W) := by
  obtain ⟨hA, ⟨base, hval⟩, hlt, hsz⟩ := h
  rw [Try.params4] at hA hval hsz
  obtain ⟨v0, l0, d0, m0, p0, r0, ea, rfl, rfl, h0, hA⟩ := trodAll_cons hA
  obtain ⟨v1, l1, d1, m1, p1, r1, rfl, rfl, rfl, h1, hA⟩ := trodAll_cons hA
  obtain ⟨v2, l2, d2, m2, p2, r2, rfl, rfl, rfl, h2, hA⟩ := trodAll_cons hA
  obtain ⟨v3, l3, d3, m3, p3, r3, rfl, rfl, rfl, h3, hA⟩ := trodAll_cons hA
  obtain ⟨v4, l4, d4, m4, p4, r4, rfl, rfl, rfl, h4, hA⟩ := trodAll_cons hA
  obtain ⟨v5, l5, d5, m5, p5, r5, rfl, rfl, rfl, h5, hA⟩ := trodAll_cons hA
  obtain ⟨rfl, rfl, rfl⟩ := trodAll_nil hA
  obtain rfl : args = #[v0, v1, v2, v3, v4, v5] := by
    cases args
    simpa using ea
  clear ea
  obtain ⟨g0, g1, rfl⟩ := open_pair (hval 0 _ v0 rfl rfl) h0
  obtain ⟨e0, e1, rfl⟩ := open_pair (hval 1 _ v1 rfl rfl) h1
  obtain ⟨A1, n1, c1, zs, rfl, _, _, hs1, _, hx1⟩ := open_intSlice (hval 2 _ v2 rfl rfl) h2 (fun x hx => hlt x (by simp [hx]))
  obtain ⟨A2, n2, c2, ys, rfl, _, _, hs2, _, _⟩ := open_intSlice (hval 3 _ v3 rfl rfl) h3 (fun x hx => hlt x (by simp [hx]))
  obtain ⟨A3, n3, c3, xs, rfl, _, _, hs3, _, _⟩ := open_intSlice (hval 4 _ v4 rfl rfl) h4 (fun x hx => hlt x (by simp [hx]))
  obtain ⟨now, rfl, rfl, _, _⟩ := open_int Try.underlying3 (hval 5 _ v5 rfl rfl) h5
  exact seconds_any g0 g1 e0 e1 now zs ys xs A1 A2 A3 n1 n2 n3 c1 c2 c3 W hs1 hs2 hs3 (by have := reach_ints hsz (j := 2) rfl rfl Try.underlying23 (by kernel_rfl) hx1; omega)

set_option maxRecDepth 100000 in
theorem swapSecond_lifted (os : Os) (started : os.Started) (H : Type) (enc : TypeId × Value → H) :
    ReturnsInHanded {} Try.checked os 4 .any (Rows.swapSecondSpec.pre6 enc Try.prog Try.f4 Rows.swapSecondRow.domain false) (Rows.swapSecondSpec.post enc Try.prog Try.f4 false true false false) :=
  law_lifted (C := Try.checked) (B := 4) (n := 6) Try.own started (by kernel_rfl) Try.func4
      (ChangeSpec.witness6 (enc := enc) (C := Try.checked) false ⟨#[], #[.agg #[.int .i64 0, .int .i64 0], .agg #[.int .i64 0, .int .i64 0], .slice none 0 0, .slice none 0 0, .slice none 0 0, .int .i64 0], []⟩ 8 (by kernel_rfl) (by kernel_rfl) (by kernel_rfl) (by kernel_rfl))
      rfl Try.underlying4 (by kernel_rfl) Try.laidOut (by kernel_rfl) (by kernel_rfl) (fun ds h => by match ds, h with | [a, b, c, d, e, f], _ => rfl) swapSecond_walk

/-- The statement. -/
theorem SwapSecond_holds : Rows.SwapSecondSaid :=
  OpenClaim.holds_of_wide 4 Try.f4 rfl rfl rfl rfl rfl rfl rfl ⟨rfl, rfl, rfl, rfl, rfl⟩ rfl rfl rfl rfl rfl (by kernel_rfl) Try.func4 (by kernel_rfl)
    (of_decide_eq_true (by kernel_rfl)) (by unfold Func.isWrapper; first | (rw [if_pos (by decide +kernel)]; kernel_rfl) | (rw [if_neg (by decide +kernel)]; exact ⟨rfl, rfl⟩))
    (fun os started H enc _ => swapSecond_lifted os started H enc)
#print axioms SwapSecond_holds
end Go.Proofs.Ytionmkmoddfehaa
