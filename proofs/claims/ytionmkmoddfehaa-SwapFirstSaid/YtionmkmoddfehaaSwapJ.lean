/- SwapFirst: the walk of the law and the statement. No condition. -/
import Derived.Test.YtionmkmoddfehaaSwapP
namespace Go.Proofs.Ytionmkmoddfehaa
open Go.RowKit Go.ChangeShapes Go.WideShapes Go.ChangeAt

theorem kept12 {B : Nat} {wr w2 : World} {b b1 b2 : Nat} {a0 a1 a2 a3 a4 a5 a6 a7 v0 v1 v2 v3 : Value} (h : Below B wr w2) (l0 : b < B) (l1 : b1 < B) (l2 : b2 < B)
    (H : wr.cell? ⟨b, 0, none⟩ = some a0 ∧ wr.cell? ⟨b, 1, none⟩ = some a1 ∧ wr.cell? ⟨b, 2, none⟩ = some a2 ∧ wr.cell? ⟨b, 3, none⟩ = some a3 ∧ wr.cell? ⟨b, 4, none⟩ = some a4 ∧ wr.cell? ⟨b, 5, none⟩ = some a5 ∧ wr.cell? ⟨b, 6, none⟩ = some a6 ∧ wr.cell? ⟨b, 7, none⟩ = some a7 ∧ wr.cell? ⟨b1, 0, none⟩ = some v0 ∧ wr.cell? ⟨b1, 1, none⟩ = some v1 ∧ wr.cell? ⟨b2, 0, none⟩ = some v2 ∧ wr.cell? ⟨b2, 1, none⟩ = some v3) :
    w2.cell? ⟨b, 0, none⟩ = some a0 ∧ w2.cell? ⟨b, 1, none⟩ = some a1 ∧ w2.cell? ⟨b, 2, none⟩ = some a2 ∧ w2.cell? ⟨b, 3, none⟩ = some a3 ∧ w2.cell? ⟨b, 4, none⟩ = some a4 ∧ w2.cell? ⟨b, 5, none⟩ = some a5 ∧ w2.cell? ⟨b, 6, none⟩ = some a6 ∧ w2.cell? ⟨b, 7, none⟩ = some a7 ∧ w2.cell? ⟨b1, 0, none⟩ = some v0 ∧ w2.cell? ⟨b1, 1, none⟩ = some v1 ∧ w2.cell? ⟨b2, 0, none⟩ = some v2 ∧ w2.cell? ⟨b2, 1, none⟩ = some v3 := by
  obtain ⟨h0, h1, h2, h3, h4, h5, h6, h7, k0, k1, k2, k3⟩ := H
  exact ⟨(h.cell (p := ⟨b, 0, none⟩) l0).trans h0, (h.cell (p := ⟨b, 1, none⟩) l0).trans h1, (h.cell (p := ⟨b, 2, none⟩) l0).trans h2, (h.cell (p := ⟨b, 3, none⟩) l0).trans h3, (h.cell (p := ⟨b, 4, none⟩) l0).trans h4, (h.cell (p := ⟨b, 5, none⟩) l0).trans h5, (h.cell (p := ⟨b, 6, none⟩) l0).trans h6, (h.cell (p := ⟨b, 7, none⟩) l0).trans h7,
    (h.cell (p := ⟨b1, 0, none⟩) l1).trans k0, (h.cell (p := ⟨b1, 1, none⟩) l1).trans k1, (h.cell (p := ⟨b2, 0, none⟩) l2).trans k2, (h.cell (p := ⟨b2, 1, none⟩) l2).trans k3⟩
theorem kept12_drew {wr : World} {b b1 b2 : Nat} {a0 a1 a2 a3 a4 a5 a6 a7 v0 v1 v2 v3 : Value} (H : wr.cell? ⟨b, 0, none⟩ = some a0 ∧ wr.cell? ⟨b, 1, none⟩ = some a1 ∧ wr.cell? ⟨b, 2, none⟩ = some a2 ∧ wr.cell? ⟨b, 3, none⟩ = some a3 ∧ wr.cell? ⟨b, 4, none⟩ = some a4 ∧ wr.cell? ⟨b, 5, none⟩ = some a5 ∧ wr.cell? ⟨b, 6, none⟩ = some a6 ∧ wr.cell? ⟨b, 7, none⟩ = some a7 ∧ wr.cell? ⟨b1, 0, none⟩ = some v0 ∧ wr.cell? ⟨b1, 1, none⟩ = some v1 ∧ wr.cell? ⟨b2, 0, none⟩ = some v2 ∧ wr.cell? ⟨b2, 1, none⟩ = some v3) :
    wr.drew.cell? ⟨b, 0, none⟩ = some a0 ∧ wr.drew.cell? ⟨b, 1, none⟩ = some a1 ∧ wr.drew.cell? ⟨b, 2, none⟩ = some a2 ∧ wr.drew.cell? ⟨b, 3, none⟩ = some a3 ∧ wr.drew.cell? ⟨b, 4, none⟩ = some a4 ∧ wr.drew.cell? ⟨b, 5, none⟩ = some a5 ∧ wr.drew.cell? ⟨b, 6, none⟩ = some a6 ∧ wr.drew.cell? ⟨b, 7, none⟩ = some a7 ∧ wr.drew.cell? ⟨b1, 0, none⟩ = some v0 ∧ wr.drew.cell? ⟨b1, 1, none⟩ = some v1 ∧ wr.drew.cell? ⟨b2, 0, none⟩ = some v2 ∧ wr.drew.cell? ⟨b2, 1, none⟩ = some v3 := H
theorem drew_below {wr w2 : World} (h : Below wr.drew.heap.size wr.drew w2) : Below wr.heap.size wr w2 := ⟨h.os, h.tape, h.output, h.size, h.block⟩

set_option maxHeartbeats 4000000 in
set_option maxRecDepth 100000 in
theorem firsts_any (g0 g1 e0 e1 : Int) (zs ys xs : List Int) (A1 A2 A3 : Option Addr) (n1 n2 n3 p1 p2 p3 : Nat) (w : World)
    (hz : ISl w w.heap.size A1 n1 zs) (hy : ISl w w.heap.size A2 n2 ys) (hx : ISl w w.heap.size A3 n3 xs) (hn : n1 ≤ 17592186044416) :
    Calls Try.prog 3 #[.agg #[.int .i64 g0, .int .i64 g1], .agg #[.int .i64 e0, .int .i64 e1], .slice A1 n1 p1, .slice A2 n2 p2, .slice A3 n3 p3] w (LawPost w) := by
  go_enter Try.func3, Try.ntmps3
  go_wp2_with fail
  refine (dealt_any _).mono ?_
  rintro e w1 ⟨rfl, hb1⟩
  have hs1 := hb1.size
  obtain ⟨hc1, hf1⟩ := bcell hb1
  simp only [World.size_alloc] at hs1 hc1 hf1
  have p0 : w1.cell? ⟨w.heap.size, 0, none⟩ = some (.int .i64 g0) := by rw [hc1 _ _ (by omega)]; simp [go_sem]
  have p1' : w1.cell? ⟨w.heap.size, 1, none⟩ = some (.int .i64 g1) := by rw [hc1 _ _ (by omega)]; simp [go_sem]
  have p2' : w1.cell? ⟨w.heap.size + 1, 0, none⟩ = some (.int .i64 e0) := by rw [hc1 _ _ (by omega)]; simp [go_sem]
  have p3' : w1.cell? ⟨w.heap.size + 1, 1, none⟩ = some (.int .i64 e1) := by rw [hc1 _ _ (by omega)]; simp [go_sem]
  have hB1 : Below w.heap.size w w1 := (((Below.refl _ _).alloc (Nat.le_refl _) _).alloc (by simp) _).trans (hb1.mono (by simp; omega))
  clear hb1 hc1 hf1
  go_wp2_with fail
  refine (played_any (Kept1 g0 g1 e0 e1) (fun d who act now h hg hq => kept1_step g0 g1 e0 e1 d who act now h hg hq) g0 g1 e0 e1 0 0 0 false (kept1_first _ _ _ _) zs ys xs A1 A2 A3 n1 n2 n3 p1 p2 p3 w1 ((hz.below hB1).more hB1.size) ((hy.below hB1).more hB1.size) ((hx.below hB1).more hB1.size) hn).mono ?_
  rintro e w2 ⟨⟨G0, G1, E0, E1, S0, S1, K, T⟩, rfl, hI, hb2⟩
  obtain ⟨hc2, hf2⟩ := bcell hb2
  have hs2 := hb2.size
  have q0 := (hc2 _ 0 (show w.heap.size < w1.heap.size by omega)).trans p0
  have q1 := (hc2 _ 1 (show w.heap.size < w1.heap.size by omega)).trans p1'
  have q2 := (hc2 _ 0 (show w.heap.size + 1 < w1.heap.size by omega)).trans p2'
  have q3 := (hc2 _ 1 (show w.heap.size + 1 < w1.heap.size by omega)).trans p3'
  have hB2 : Below w.heap.size w w2 := hB1.trans (hb2.mono (by omega))
  clear hc2 hf2 p0 p1' p2' p3' hb2
  obtain ⟨rfl, rfl, rfl, rfl, h0, h1, h2⟩ := hI
  simp only [] at h0 h1 h2 q0 q1 q2 q3
  obtain ⟨n, y0, y1, bn0, bn1⟩ := gain_sum ⟨G0, G1, E0, E1, S0, S1, K, T⟩ h2
  have H0 := aside h0
  have H1 := aside h1
  have Y0 := aside y0
  have Y1 := aside y1
  clear h0 h1 h2 y0 y1
  simp only [Deal.v]
  go_wp2_with fail
  have F : ∃ W, W = w2.alloc (.cells #[.int .i64 G0, .int .i64 G1, .int .i64 E0, .int .i64 E1, .int .i64 S0, .int .i64 S1, .bool K, .int .i64 T] 26) ∧ w2.heap.size < W.heap.size ∧ Below w2.heap.size w2 W ∧ Below w.heap.size w W ∧ (W.cell? ⟨w2.heap.size, 0, none⟩ = some (.int .i64 G0) ∧ W.cell? ⟨w2.heap.size, 1, none⟩ = some (.int .i64 G1) ∧ W.cell? ⟨w2.heap.size, 2, none⟩ = some (.int .i64 E0) ∧ W.cell? ⟨w2.heap.size, 3, none⟩ = some (.int .i64 E1) ∧ W.cell? ⟨w2.heap.size, 4, none⟩ = some (.int .i64 S0) ∧ W.cell? ⟨w2.heap.size, 5, none⟩ = some (.int .i64 S1) ∧ W.cell? ⟨w2.heap.size, 6, none⟩ = some (.bool K) ∧ W.cell? ⟨w2.heap.size, 7, none⟩ = some (.int .i64 T) ∧ W.cell? ⟨w.heap.size, 0, none⟩ = some (.int .i64 G0) ∧ W.cell? ⟨w.heap.size, 1, none⟩ = some (.int .i64 G1) ∧ W.cell? ⟨w.heap.size + 1, 0, none⟩ = some (.int .i64 E0) ∧ W.cell? ⟨w.heap.size + 1, 1, none⟩ = some (.int .i64 E1)) := by
    have hBa : Below w2.heap.size w2 (w2.alloc (.cells #[.int .i64 G0, .int .i64 G1, .int .i64 E0, .int .i64 E1, .int .i64 S0, .int .i64 S1, .bool K, .int .i64 T] 26)) := (Below.refl _ _).alloc (Nat.le_refl _) _
    refine ⟨_, rfl, by simp, hBa, hB2.trans (hBa.mono (by omega)), ?_⟩
    refine ⟨?_, ?_, ?_, ?_, ?_, ?_, ?_, ?_, ?_, ?_, ?_, ?_⟩
    any_goals exact World.cell?_alloc_at _ _ _ _ rfl
    · exact (hBa.cell (p := ⟨w.heap.size, 0, none⟩) (by show w.heap.size < _; omega)).trans q0
    · exact (hBa.cell (p := ⟨w.heap.size, 1, none⟩) (by show w.heap.size < _; omega)).trans q1
    · exact (hBa.cell (p := ⟨w.heap.size + 1, 0, none⟩) (by show w.heap.size + 1 < _; omega)).trans q2
    · exact (hBa.cell (p := ⟨w.heap.size + 1, 1, none⟩) (by show w.heap.size + 1 < _; omega)).trans q3
  obtain ⟨W, hW, hl, hBa, hBW, HS⟩ := F
  rw [← hW]
  have L1 : w.heap.size < W.heap.size := by omega
  have L2 : w.heap.size + 1 < W.heap.size := by omega
  clear hW q0 q1 q2 q3 hB1 hB2 hBa
  have HSd := kept12_drew HS
  have hpe := pair_eq
  have hwr : IntKind.i64.wrap (n + -n) = 0 := by rw [Int.add_right_neg]; rfl
  go_region_held3 (fun w' => w'.cell? ⟨w2.heap.size, 0, none⟩ = some (.int .i64 G0) ∧ w'.cell? ⟨w2.heap.size, 1, none⟩ = some (.int .i64 G1) ∧ w'.cell? ⟨w2.heap.size, 2, none⟩ = some (.int .i64 E0) ∧ w'.cell? ⟨w2.heap.size, 3, none⟩ = some (.int .i64 E1) ∧ w'.cell? ⟨w2.heap.size, 4, none⟩ = some (.int .i64 S0) ∧ w'.cell? ⟨w2.heap.size, 5, none⟩ = some (.int .i64 S1) ∧ w'.cell? ⟨w2.heap.size, 6, none⟩ = some (.bool K) ∧ w'.cell? ⟨w2.heap.size, 7, none⟩ = some (.int .i64 T) ∧ w'.cell? ⟨w.heap.size, 0, none⟩ = some (.int .i64 G0) ∧ w'.cell? ⟨w.heap.size, 1, none⟩ = some (.int .i64 G1) ∧ w'.cell? ⟨w.heap.size + 1, 0, none⟩ = some (.int .i64 E0) ∧ w'.cell? ⟨w.heap.size + 1, 1, none⟩ = some (.int .i64 E1))
    (with_reducible (first | exact HSd | exact HS5 | exact HS4))
    (first
      | (go_at_call_of 7 (Value.int IntKind.i64 0); refine (gain_any ⟨G0, G1, E0, E1, S0, S1, K, T⟩ 0 _).mono ?_; rintro e w4 ⟨rfl, hb4⟩; rw [Y0.out]; (have HS4 := kept12 (drew_below hb4) hl L1 L2 HS); (have hW4 := (drew_below hb4)); (have hz4 := hW4.size); (have M0 : w2.heap.size < w4.heap.size := by omega); (have M1 : w.heap.size < w4.heap.size := by omega); (have M2 : w.heap.size + 1 < w4.heap.size := by omega); skip)
      | (go_at_call_of 7 (Value.int IntKind.i64 1); refine (gain_any ⟨G0, G1, E0, E1, S0, S1, K, T⟩ 1 _).mono ?_; rintro e w5 ⟨rfl, hb5⟩; rw [Y1.out]; (have HS5 := kept12 hb5 M0 M1 M2 HS4); skip))
  have hB5 : Below w.heap.size w w5 := hBW.trans ((hW4.mono (by omega)).trans (hb5.mono (by omega)))
  clear HS HSd HS4 hb4 hb5 hW4 hBW
  obtain ⟨t0, t1, t2, t3, t4, t5, t6, t7, _, _, _, _⟩ := HS5
  by_cases hs : S0 = 2
  · subst hs
    have hk := H0.out rfl
    have hs1' := H1.out hk
    subst hk hs1'
    go_wp2
    go_ret
    exact ⟨rfl, hB5⟩
  · have bs : (S0 != 2) = true := by simpa using hs
    clear hs
    go_wp2
    go_ret
    exact ⟨rfl, hB5⟩

set_option maxHeartbeats 2000000 in
/-- What the law's arguments are. -/
theorem swapFirst_walk {H : Type} {enc : TypeId × Value → H} (W : World) (args : Array Value) (ds : List (DataW H)) (ps : List MemPlace)
    (h : LawPre enc Try.prog Try.f3 W args ds ps) : Calls Try.prog 3 args W (LawPost W) := by
  obtain ⟨hA, ⟨base, hval⟩, hlt, hsz⟩ := h
  rw [Try.params3] at hA hval hsz
  obtain ⟨v0, l0, d0, m0, p0, r0, ea, rfl, rfl, h0, hA⟩ := trodAll_cons hA
  obtain ⟨v1, l1, d1, m1, p1, r1, rfl, rfl, rfl, h1, hA⟩ := trodAll_cons hA
  obtain ⟨v2, l2, d2, m2, p2, r2, rfl, rfl, rfl, h2, hA⟩ := trodAll_cons hA
  obtain ⟨v3, l3, d3, m3, p3, r3, rfl, rfl, rfl, h3, hA⟩ := trodAll_cons hA
  obtain ⟨v4, l4, d4, m4, p4, r4, rfl, rfl, rfl, h4, hA⟩ := trodAll_cons hA
  obtain ⟨rfl, rfl, rfl⟩ := trodAll_nil hA
  obtain rfl : args = #[v0, v1, v2, v3, v4] := by
    cases args
    simpa using ea
  clear ea
  obtain ⟨g0, g1, rfl⟩ := open_pair (hval 0 _ v0 rfl rfl) h0
  obtain ⟨e0, e1, rfl⟩ := open_pair (hval 1 _ v1 rfl rfl) h1
  obtain ⟨A1, n1, c1, zs, rfl, _, _, hs1, _, hx1⟩ := open_intSlice (hval 2 _ v2 rfl rfl) h2 (fun x hx => hlt x (by simp [hx]))
  obtain ⟨A2, n2, c2, ys, rfl, _, _, hs2, _, _⟩ := open_intSlice (hval 3 _ v3 rfl rfl) h3 (fun x hx => hlt x (by simp [hx]))
  obtain ⟨A3, n3, c3, xs, rfl, _, _, hs3, _, _⟩ := open_intSlice (hval 4 _ v4 rfl rfl) h4 (fun x hx => hlt x (by simp [hx]))
  exact firsts_any g0 g1 e0 e1 zs ys xs A1 A2 A3 n1 n2 n3 c1 c2 c3 W hs1 hs2 hs3 (by have := reach_ints hsz (j := 2) rfl rfl Try.underlying23 (by kernel_rfl) hx1; omega)

set_option maxRecDepth 100000 in
theorem swapFirst_lifted (os : Os) (started : os.Started) (H : Type) (enc : TypeId × Value → H) :
    ReturnsInHanded {} Try.checked os 3 .any (Rows.swapFirstSpec.pre6 enc Try.prog Try.f3 Rows.swapFirstRow.domain false) (Rows.swapFirstSpec.post enc Try.prog Try.f3 false true false false) :=
  law_lifted (C := Try.checked) (B := 4) (n := 5) Try.own started (by kernel_rfl) Try.func3
      (ChangeSpec.witness6 (enc := enc) (C := Try.checked) false ⟨#[], #[.agg #[.int .i64 0, .int .i64 0], .agg #[.int .i64 0, .int .i64 0], .slice none 0 0, .slice none 0 0, .slice none 0 0], []⟩ 8 (by kernel_rfl) (by kernel_rfl) (by kernel_rfl) (by kernel_rfl))
      rfl Try.underlying4 (by kernel_rfl) Try.laidOut (by kernel_rfl) (by kernel_rfl) (fun ds h => by match ds, h with | [a, b, c, d, e], _ => rfl) swapFirst_walk

/-- The statement. -/
theorem SwapFirst_holds : Rows.SwapFirstSaid :=
  OpenClaim.holds_of_wide 3 Try.f3 rfl rfl rfl rfl rfl rfl rfl ⟨rfl, rfl, rfl, rfl, rfl⟩ rfl rfl rfl rfl rfl (by kernel_rfl) Try.func3 (by kernel_rfl)
    (of_decide_eq_true (by kernel_rfl)) (by unfold Func.isWrapper; first | (rw [if_pos (by decide +kernel)]; kernel_rfl) | (rw [if_neg (by decide +kernel)]; exact ⟨rfl, rfl⟩))
    (fun os started H enc _ => swapFirst_lifted os started H enc)
#print axioms SwapFirst_holds
end Go.Proofs.Ytionmkmoddfehaa
