/- Two are counted twice: the walk of AuditTwo. Conditions: named in each theorem. -/
import Derived.Test.YtkpbhbafapdboaaDoorTwoE
namespace Go.Proofs.YtkpbhbafapdboaaDoor
open Go.RowKit Go.ChangeShapes Go.WideShapes Go.ChangeAt

theorem foldR_zero {t r : Tot} {i n : Int} {path : List Tot} (h : foldR t i n path = (r, 0)) : ∃ i' n' : Nat, i = i' ∧ n = n' ∧ 1 ≤ n' ∧ n' ≤ 256 ∧ i' < n' ∧ path.length = (way i' n').length ∧ Mny t.1 ∧ fold0 t i' n' path = (r, 0) := by
  unfold foldR at h
  by_cases h1 : n < 1 ∨ 256 < n ∨ i < 0 ∨ n ≤ i
  · rw [if_pos h1] at h
    exact absurd (Prod.mk.inj h).2 (by decide)
  · rw [if_neg h1] at h
    by_cases h2 : path.length ≠ (way i.toNat n.toNat).length
    · rw [if_pos h2] at h
      exact absurd (Prod.mk.inj h).2 (by decide)
    · rw [if_neg h2] at h
      by_cases h3 : Mny t.1
      · rw [if_neg (by simpa using h3)] at h
        refine ⟨i.toNat, n.toNat, by omega, by omega, by omega, by omega, by omega, by omega, h3, ?_⟩
        unfold fold0
        rw [if_pos h3]
        exact h
      · rw [if_pos h3] at h
        exact absurd (Prod.mk.inj h).2 (by decide)
set_option maxHeartbeats 4000000 in
set_option maxRecDepth 100000 in
theorem two_e1 (a b : Tot) (ha : Dig a.2) (hb : Dig b.2) (i j n : Int) (p q : List Tot) (hp : ∀ t ∈ p, Dig t.2) (hq : ∀ t ∈ q, Dig t.2) (A B : Option Addr) (m l c d : Nat) (w : World) (t1 : TSl w w.heap.size A m p) (t2 : TSl w w.heap.size B l q) (hg : RoundsAt w)
    (x y : Tot) (q1 q2 : Int) (hx : foldR a i n p = (x, q1)) (hy : foldR b j n q = (y, q2)) (hq1 : q1 ≠ 0) : Calls Tryd.prog 4 #[tV a, .slice A m c, .int .i64 i, tV b, .slice B l d, .int .i64 j, .int .i64 n] w (LawPost w) := by
  unfold LawPost
  have HF1 : Hid (∀ w', TSl w' w'.heap.size A m p → RoundsAt w' → Calls Tryd.prog 8 #[.agg (totR a.1 a.2), .int .i64 i, .int .i64 n, .slice A m c] w' (fun e w'' => e = .returned (.tuple #[tV x, .iface 40 (.int .i64 q1)]) ∧ Below w'.heap.size w' w'')) := aside (fun w' h1 h2 => by
    have hf := fold_any a ha i n p hp A m c w' h1 h2
    rw [hx] at hf
    unfold tellV at hf
    rw [show errA q1 = .iface 40 (.int .i64 q1) by unfold errA; rw [if_neg hq1]] at hf
    exact hf)
  have HF2 : Hid (∀ w', TSl w' w'.heap.size B l q → RoundsAt w' → Calls Tryd.prog 8 #[.agg (totR b.1 b.2), .int .i64 j, .int .i64 n, .slice B l d] w' (fun e w'' => e = .returned (.tuple #[tV y, errA q2]) ∧ Below w'.heap.size w' w'')) := aside (fun w' h1 h2 => by
    have hf := fold_any b hb j n q hq B l d w' h1 h2
    rw [hy] at hf
    unfold tellV at hf
    
    exact hf)
  have HDx : Hid (Dig x.2) := aside (by
    have h := foldR_dig a ha i n p hp
    rw [hx] at h
    exact h)
  have HDy : Hid (Dig y.2) := aside (by
    have h := foldR_dig b hb j n q hq
    rw [hy] at h
    exact h)
  have HA := aside ha
  have HBd := aside hb
  have HG := aside hg
  have HP := aside t1
  have HQ := aside t2
  generalize errA q2 = E2 at HF2
  clear ha hb hp hq hg t1 t2 hx hy hq1
  go_enter Tryd.func4, Tryd.ntmps4
  go_upto_region 1 with fail
  change Code.wp _ _ _ _ ((w.alloc (.cells (totR a.1 a.2) 25)).alloc (.cells (totR b.1 b.2) 25))
  obtain ⟨t0, t1, b1, z1⟩ := pair_boxes w a.1 b.1 a.2 b.2
  have TA1 := aside t0
  have TB1 := aside t1
  have HB1 := aside b1
  clear t0 t1 b1 z1
  generalize ((w.alloc (.cells (totR a.1 a.2) 25)).alloc (.cells (totR b.1 b.2) 25)) = w1 at TA1 TB1 HB1 ⊢
  obtain ⟨N, hN⟩ : ∃ N, N = w.heap.size := ⟨_, rfl⟩
  simp only [← hN] at TA1 TB1 ⊢
  clear hN
  go_upto_region 4 with (first
    | (go_at_call 7; refine (audited_any w1 (HG.out.below HB1.out)).mono ?_; rintro e w2 ⟨rfl, hb2⟩; have HB2 : Hid (Below w.heap.size w w2) := aside (HB1.out.trans (hb2.mono HB1.out.size)); have TA2 : Hid (TotAt w2 N a.1 a.2) := aside (TA1.out.below hb2 TA1.out.lt); have TB2 : Hid (TotAt w2 (N + 1) b.1 b.2) := aside (TB1.out.below hb2 TB1.out.lt); clear hb2)
    | fail)
  clear TA1 TB1 HB1
  go_upto_region 5 with (first
    | (refine wpList_load_row rfl 25 (.tmp 7) rfl N rfl 25 (totR a.1 a.2) (0, 0) _ TA2.out Tryd.underlying25 rfl (totInfo HA.out.1) ?_)
    | (go_at_call 8; refine (HF1.out w2 ((Sl.below HP.out HB2.out).more HB2.out.size) (HG.out.below HB2.out)).mono ?_; rintro e w3 ⟨rfl, hb3⟩; have B3 : Hid (Below w2.heap.size w2 w3) := aside hb3; have R3 := TotAt.new w3 0 zeroD; clear hb3)
    | (refine wpList_store_row rfl 25 (.tmp 16) (.tmp 31) rfl w3.heap.size (totR x.1 x.2) rfl rfl 25 (totR 0 zeroD) R3 (totInfo HDx.out.1) (tot_same rfl HDx.out.1) (totR_one _ _) ?_)
    | fail)
  have TA3 : Hid (TotAt w3 N a.1 a.2) := aside (TA2.out.below B3.out TA2.out.lt)
  have TB3 : Hid (TotAt w3 (N + 1) b.1 b.2) := aside (TB2.out.below B3.out TB2.out.lt)
  have HB3 : Hid (Below w.heap.size w w3) := aside (HB2.out.trans (B3.out.mono HB2.out.size))
  clear R3 TA2 TB2 B3
  change Code.wp _ _ _ _ ((w3.alloc (.cells (totR 0 zeroD) 25)).setRow w3.heap.size (totR x.1 x.2))
  obtain ⟨w4, hw4⟩ : ∃ w4, w4 = ((w3.alloc (.cells (totR 0 zeroD) 25)).setRow w3.heap.size (totR x.1 x.2)) := ⟨_, rfl⟩
  obtain ⟨tn, bn, -⟩ := store_new w3 x.1 x.2 w4 hw4
  rw [← hw4]
  have TA4 : Hid (TotAt w4 N a.1 a.2) := aside (TA3.out.below bn TA3.out.lt)
  have TB4 : Hid (TotAt w4 (N + 1) b.1 b.2) := aside (TB3.out.below bn TB3.out.lt)
  have TX : Hid (TotAt w4 w3.heap.size x.1 x.2) := aside tn
  have Hw4 : Hid (Below w.heap.size w w4) := aside (HB3.out.trans (bn.mono HB3.out.size))
  obtain ⟨X, hX⟩ : ∃ X, X = w3.heap.size := ⟨_, rfl⟩
  rw [← hX] at TX ⊢
  clear tn bn hw4 hX
  go_upto_region 6 with (first
    | (refine wpList_load_row rfl 25 (.tmp 10) rfl (N + 1) rfl 25 (totR b.1 b.2) (0, 0) _ TB4.out Tryd.underlying25 rfl (totInfo HBd.out.1) ?_)
    | (go_at_call 8; refine (HF2.out w4 ((Sl.below HQ.out Hw4.out).more Hw4.out.size) (HG.out.below Hw4.out)).mono ?_; rintro e w5 ⟨rfl, hb5⟩; have B5 : Hid (Below w4.heap.size w4 w5) := aside hb5; have R5 := TotAt.new w5 0 zeroD; clear hb5)
    | (refine wpList_store_row rfl 25 (.tmp 18) (.tmp 39) rfl w5.heap.size (totR y.1 y.2) rfl rfl 25 (totR 0 zeroD) R5 (totInfo HDy.out.1) (tot_same rfl HDy.out.1) (totR_one _ _) ?_)
    | fail)
  have TA5 : Hid (TotAt w5 N a.1 a.2) := aside (TA4.out.below B5.out TA4.out.lt)
  have TB5 : Hid (TotAt w5 (N + 1) b.1 b.2) := aside (TB4.out.below B5.out TB4.out.lt)
  have TX5 : Hid (TotAt w5 X x.1 x.2) := aside (TX.out.below B5.out TX.out.lt)
  have HB5 : Hid (Below w.heap.size w w5) := aside (Hw4.out.trans (B5.out.mono Hw4.out.size))
  clear R5 TA4 TB4 TX B5 TA3 TB3
  change Code.wp _ _ _ _ ((w5.alloc (.cells (totR 0 zeroD) 25)).setRow w5.heap.size (totR y.1 y.2))
  obtain ⟨w6, hw6⟩ : ∃ w6, w6 = ((w5.alloc (.cells (totR 0 zeroD) 25)).setRow w5.heap.size (totR y.1 y.2)) := ⟨_, rfl⟩
  obtain ⟨tn, bn, -⟩ := store_new w5 y.1 y.2 w6 hw6
  rw [← hw6]
  have TA6 : Hid (TotAt w6 N a.1 a.2) := aside (TA5.out.below bn TA5.out.lt)
  have TB6 : Hid (TotAt w6 (N + 1) b.1 b.2) := aside (TB5.out.below bn TB5.out.lt)
  have TX6 : Hid (TotAt w6 X x.1 x.2) := aside (TX5.out.below bn TX5.out.lt)
  have TY : Hid (TotAt w6 w5.heap.size y.1 y.2) := aside tn
  have Hw6 : Hid (Below w.heap.size w w6) := aside (HB5.out.trans (bn.mono HB5.out.size))
  obtain ⟨Y, hY⟩ : ∃ Y, Y = w5.heap.size := ⟨_, rfl⟩
  rw [← hY] at TY ⊢
  clear tn bn hw6 hY
  clear TA5 TB5 TX5 HF1 HF2
  clear HA HBd
  go_wp2
  go_ret
  exact ⟨rfl, Hw6.out⟩
set_option maxHeartbeats 4000000 in
set_option maxRecDepth 100000 in
theorem two_e2 (a b : Tot) (ha : Dig a.2) (hb : Dig b.2) (i j n : Int) (p q : List Tot) (hp : ∀ t ∈ p, Dig t.2) (hq : ∀ t ∈ q, Dig t.2) (A B : Option Addr) (m l c d : Nat) (w : World) (t1 : TSl w w.heap.size A m p) (t2 : TSl w w.heap.size B l q) (hg : RoundsAt w)
    (x y : Tot) (q1 q2 : Int) (hx : foldR a i n p = (x, q1)) (hy : foldR b j n q = (y, q2)) (hq1 : q1 = 0) (hq2 : q2 ≠ 0) : Calls Tryd.prog 4 #[tV a, .slice A m c, .int .i64 i, tV b, .slice B l d, .int .i64 j, .int .i64 n] w (LawPost w) := by
  unfold LawPost
  have HF1 : Hid (∀ w', TSl w' w'.heap.size A m p → RoundsAt w' → Calls Tryd.prog 8 #[.agg (totR a.1 a.2), .int .i64 i, .int .i64 n, .slice A m c] w' (fun e w'' => e = .returned (.tuple #[tV x, .nilIface]) ∧ Below w'.heap.size w' w'')) := aside (fun w' h1 h2 => by
    have hf := fold_any a ha i n p hp A m c w' h1 h2
    rw [hx] at hf
    unfold tellV at hf
    rw [hq1] at hf
    exact hf)
  have HF2 : Hid (∀ w', TSl w' w'.heap.size B l q → RoundsAt w' → Calls Tryd.prog 8 #[.agg (totR b.1 b.2), .int .i64 j, .int .i64 n, .slice B l d] w' (fun e w'' => e = .returned (.tuple #[tV y, .iface 40 (.int .i64 q2)]) ∧ Below w'.heap.size w' w'')) := aside (fun w' h1 h2 => by
    have hf := fold_any b hb j n q hq B l d w' h1 h2
    rw [hy] at hf
    unfold tellV at hf
    rw [show errA q2 = .iface 40 (.int .i64 q2) by unfold errA; rw [if_neg hq2]] at hf
    exact hf)
  have HDx : Hid (Dig x.2) := aside (by
    have h := foldR_dig a ha i n p hp
    rw [hx] at h
    exact h)
  have HDy : Hid (Dig y.2) := aside (by
    have h := foldR_dig b hb j n q hq
    rw [hy] at h
    exact h)
  have HA := aside ha
  have HBd := aside hb
  have HG := aside hg
  have HP := aside t1
  have HQ := aside t2
  clear ha hb hp hq hg t1 t2 hx hy hq1 hq2
  go_enter Tryd.func4, Tryd.ntmps4
  go_upto_region 1 with fail
  change Code.wp _ _ _ _ ((w.alloc (.cells (totR a.1 a.2) 25)).alloc (.cells (totR b.1 b.2) 25))
  obtain ⟨t0, t1, b1, z1⟩ := pair_boxes w a.1 b.1 a.2 b.2
  have TA1 := aside t0
  have TB1 := aside t1
  have HB1 := aside b1
  clear t0 t1 b1 z1
  generalize ((w.alloc (.cells (totR a.1 a.2) 25)).alloc (.cells (totR b.1 b.2) 25)) = w1 at TA1 TB1 HB1 ⊢
  obtain ⟨N, hN⟩ : ∃ N, N = w.heap.size := ⟨_, rfl⟩
  simp only [← hN] at TA1 TB1 ⊢
  clear hN
  go_upto_region 4 with (first
    | (go_at_call 7; refine (audited_any w1 (HG.out.below HB1.out)).mono ?_; rintro e w2 ⟨rfl, hb2⟩; have HB2 : Hid (Below w.heap.size w w2) := aside (HB1.out.trans (hb2.mono HB1.out.size)); have TA2 : Hid (TotAt w2 N a.1 a.2) := aside (TA1.out.below hb2 TA1.out.lt); have TB2 : Hid (TotAt w2 (N + 1) b.1 b.2) := aside (TB1.out.below hb2 TB1.out.lt); clear hb2)
    | fail)
  clear TA1 TB1 HB1
  go_upto_region 5 with (first
    | (refine wpList_load_row rfl 25 (.tmp 7) rfl N rfl 25 (totR a.1 a.2) (0, 0) _ TA2.out Tryd.underlying25 rfl (totInfo HA.out.1) ?_)
    | (go_at_call 8; refine (HF1.out w2 ((Sl.below HP.out HB2.out).more HB2.out.size) (HG.out.below HB2.out)).mono ?_; rintro e w3 ⟨rfl, hb3⟩; have B3 : Hid (Below w2.heap.size w2 w3) := aside hb3; have R3 := TotAt.new w3 0 zeroD; clear hb3)
    | (refine wpList_store_row rfl 25 (.tmp 16) (.tmp 31) rfl w3.heap.size (totR x.1 x.2) rfl rfl 25 (totR 0 zeroD) R3 (totInfo HDx.out.1) (tot_same rfl HDx.out.1) (totR_one _ _) ?_)
    | fail)
  have TA3 : Hid (TotAt w3 N a.1 a.2) := aside (TA2.out.below B3.out TA2.out.lt)
  have TB3 : Hid (TotAt w3 (N + 1) b.1 b.2) := aside (TB2.out.below B3.out TB2.out.lt)
  have HB3 : Hid (Below w.heap.size w w3) := aside (HB2.out.trans (B3.out.mono HB2.out.size))
  clear R3 TA2 TB2 B3
  change Code.wp _ _ _ _ ((w3.alloc (.cells (totR 0 zeroD) 25)).setRow w3.heap.size (totR x.1 x.2))
  obtain ⟨w4, hw4⟩ : ∃ w4, w4 = ((w3.alloc (.cells (totR 0 zeroD) 25)).setRow w3.heap.size (totR x.1 x.2)) := ⟨_, rfl⟩
  obtain ⟨tn, bn, -⟩ := store_new w3 x.1 x.2 w4 hw4
  rw [← hw4]
  have TA4 : Hid (TotAt w4 N a.1 a.2) := aside (TA3.out.below bn TA3.out.lt)
  have TB4 : Hid (TotAt w4 (N + 1) b.1 b.2) := aside (TB3.out.below bn TB3.out.lt)
  have TX : Hid (TotAt w4 w3.heap.size x.1 x.2) := aside tn
  have Hw4 : Hid (Below w.heap.size w w4) := aside (HB3.out.trans (bn.mono HB3.out.size))
  obtain ⟨X, hX⟩ : ∃ X, X = w3.heap.size := ⟨_, rfl⟩
  rw [← hX] at TX ⊢
  clear tn bn hw4 hX
  go_upto_region 6 with (first
    | (refine wpList_load_row rfl 25 (.tmp 10) rfl (N + 1) rfl 25 (totR b.1 b.2) (0, 0) _ TB4.out Tryd.underlying25 rfl (totInfo HBd.out.1) ?_)
    | (go_at_call 8; refine (HF2.out w4 ((Sl.below HQ.out Hw4.out).more Hw4.out.size) (HG.out.below Hw4.out)).mono ?_; rintro e w5 ⟨rfl, hb5⟩; have B5 : Hid (Below w4.heap.size w4 w5) := aside hb5; have R5 := TotAt.new w5 0 zeroD; clear hb5)
    | (refine wpList_store_row rfl 25 (.tmp 18) (.tmp 39) rfl w5.heap.size (totR y.1 y.2) rfl rfl 25 (totR 0 zeroD) R5 (totInfo HDy.out.1) (tot_same rfl HDy.out.1) (totR_one _ _) ?_)
    | fail)
  have TA5 : Hid (TotAt w5 N a.1 a.2) := aside (TA4.out.below B5.out TA4.out.lt)
  have TB5 : Hid (TotAt w5 (N + 1) b.1 b.2) := aside (TB4.out.below B5.out TB4.out.lt)
  have TX5 : Hid (TotAt w5 X x.1 x.2) := aside (TX.out.below B5.out TX.out.lt)
  have HB5 : Hid (Below w.heap.size w w5) := aside (Hw4.out.trans (B5.out.mono Hw4.out.size))
  clear R5 TA4 TB4 TX B5 TA3 TB3
  change Code.wp _ _ _ _ ((w5.alloc (.cells (totR 0 zeroD) 25)).setRow w5.heap.size (totR y.1 y.2))
  obtain ⟨w6, hw6⟩ : ∃ w6, w6 = ((w5.alloc (.cells (totR 0 zeroD) 25)).setRow w5.heap.size (totR y.1 y.2)) := ⟨_, rfl⟩
  obtain ⟨tn, bn, -⟩ := store_new w5 y.1 y.2 w6 hw6
  rw [← hw6]
  have TA6 : Hid (TotAt w6 N a.1 a.2) := aside (TA5.out.below bn TA5.out.lt)
  have TB6 : Hid (TotAt w6 (N + 1) b.1 b.2) := aside (TB5.out.below bn TB5.out.lt)
  have TX6 : Hid (TotAt w6 X x.1 x.2) := aside (TX5.out.below bn TX5.out.lt)
  have TY : Hid (TotAt w6 w5.heap.size y.1 y.2) := aside tn
  have Hw6 : Hid (Below w.heap.size w w6) := aside (HB5.out.trans (bn.mono HB5.out.size))
  obtain ⟨Y, hY⟩ : ∃ Y, Y = w5.heap.size := ⟨_, rfl⟩
  rw [← hY] at TY ⊢
  clear tn bn hw6 hY
  clear TA5 TB5 TX5 HF1 HF2
  clear HA HBd
  go_wp2
  go_ret
  exact ⟨rfl, Hw6.out⟩
set_option maxHeartbeats 8000000 in
set_option maxRecDepth 100000 in
theorem two_ok (a b : Tot) (ha : Dig a.2) (hb : Dig b.2) (i j n : Int) (p q : List Tot) (hp : ∀ t ∈ p, Dig t.2) (hq : ∀ t ∈ q, Dig t.2) (A B : Option Addr) (m l c d : Nat) (w : World) (t1 : TSl w w.heap.size A m p) (t2 : TSl w w.heap.size B l q) (hg : RoundsAt w)
    (x y : Tot) (q1 q2 : Int) (hx : foldR a i n p = (x, q1)) (hy : foldR b j n q = (y, q2)) (hq1 : q1 = 0) (hq2 : q2 = 0) (hmc : m ≤ c) (hld : l ≤ d) : Calls Tryd.prog 4 #[tV a, .slice A m c, .int .i64 i, tV b, .slice B l d, .int .i64 j, .int .i64 n] w (LawPost w) := by
  unfold LawPost
  have HF1 : Hid (∀ w', TSl w' w'.heap.size A m p → RoundsAt w' → Calls Tryd.prog 8 #[.agg (totR a.1 a.2), .int .i64 i, .int .i64 n, .slice A m c] w' (fun e w'' => e = .returned (.tuple #[tV x, .nilIface]) ∧ Below w'.heap.size w' w'')) := aside (fun w' h1 h2 => by
    have hf := fold_any a ha i n p hp A m c w' h1 h2
    rw [hx] at hf
    unfold tellV at hf
    rw [hq1] at hf
    exact hf)
  have HF2 : Hid (∀ w', TSl w' w'.heap.size B l q → RoundsAt w' → Calls Tryd.prog 8 #[.agg (totR b.1 b.2), .int .i64 j, .int .i64 n, .slice B l d] w' (fun e w'' => e = .returned (.tuple #[tV y, .nilIface]) ∧ Below w'.heap.size w' w'')) := aside (fun w' h1 h2 => by
    have hf := fold_any b hb j n q hq B l d w' h1 h2
    rw [hy] at hf
    unfold tellV at hf
    rw [hq2] at hf
    exact hf)
  have HDx : Hid (Dig x.2) := aside (by
    have h := foldR_dig a ha i n p hp
    rw [hx] at h
    exact h)
  have HDy : Hid (Dig y.2) := aside (by
    have h := foldR_dig b hb j n q hq
    rw [hy] at h
    exact h)
  have HA := aside ha
  have HBd := aside hb
  have HG := aside hg
  have HP := aside t1
  have HQ := aside t2
  have HPart : Hid (x = y → i ≠ j → ¬ a.1 + b.1 ≤ x.1 → ∀ w', TSl w' w'.heap.size A m p → TSl w' w'.heap.size B l q → Calls Tryd.prog 9 #[.agg (totR a.1 a.2), .slice A m c, .int .i64 i, .agg (totR b.1 b.2), .slice B l d, .int .i64 j, .int .i64 n] w' (fun e w'' => (∃ z : Int, e = .returned (.tuple #[.bool true, .int .i64 z])) ∧ Below w'.heap.size w' w'')) := aside (by
    intro hxy hij hs w' h1 h2
    rw [hq1] at hx
    rw [hq2, ← hxy] at hy
    obtain ⟨i', n', rfl, rfl, g1, g2, g3, g4, g5, g6⟩ := foldR_zero hx
    obtain ⟨j', n2, rfl, en, k1, k2, k3, k4, k5, k6⟩ := foldR_zero hy
    have en : n' = n2 := by omega
    subst en
    exact part_any n' a b x ha hb i' j' n' p q (Nat.le_refl _) g2 g3 k3 (by omega) hp hq g4 k4 g6 k6 (by omega) A B m l c d w' hmc hld h1 h2)
  have hMa : Mny a.1 := by
    rw [hq1] at hx
    obtain ⟨_, _, _, _, _, _, _, _, h, _⟩ := foldR_zero hx
    exact h
  have hMb : Mny b.1 := by
    rw [hq2] at hy
    obtain ⟨_, _, _, _, _, _, _, _, h, _⟩ := foldR_zero hy
    exact h
  obtain ⟨ma1, ma2⟩ := hMa
  obtain ⟨mb1, mb2⟩ := hMb
  clear ha hb hp hq hg t1 t2 hx hy hq1 hq2 hmc hld
  go_enter Tryd.func4, Tryd.ntmps4
  go_upto_region 1 with fail
  change Code.wp _ _ _ _ ((w.alloc (.cells (totR a.1 a.2) 25)).alloc (.cells (totR b.1 b.2) 25))
  obtain ⟨t0, t1, b1, z1⟩ := pair_boxes w a.1 b.1 a.2 b.2
  have TA1 := aside t0
  have TB1 := aside t1
  have HB1 := aside b1
  clear t0 t1 b1 z1
  generalize ((w.alloc (.cells (totR a.1 a.2) 25)).alloc (.cells (totR b.1 b.2) 25)) = w1 at TA1 TB1 HB1 ⊢
  obtain ⟨N, hN⟩ : ∃ N, N = w.heap.size := ⟨_, rfl⟩
  simp only [← hN] at TA1 TB1 ⊢
  clear hN
  go_upto_region 4 with (first
    | (go_at_call 7; refine (audited_any w1 (HG.out.below HB1.out)).mono ?_; rintro e w2 ⟨rfl, hb2⟩; have HB2 : Hid (Below w.heap.size w w2) := aside (HB1.out.trans (hb2.mono HB1.out.size)); have TA2 : Hid (TotAt w2 N a.1 a.2) := aside (TA1.out.below hb2 TA1.out.lt); have TB2 : Hid (TotAt w2 (N + 1) b.1 b.2) := aside (TB1.out.below hb2 TB1.out.lt); clear hb2)
    | fail)
  clear TA1 TB1 HB1
  go_upto_region 5 with (first
    | (refine wpList_load_row rfl 25 (.tmp 7) rfl N rfl 25 (totR a.1 a.2) (0, 0) _ TA2.out Tryd.underlying25 rfl (totInfo HA.out.1) ?_)
    | (go_at_call 8; refine (HF1.out w2 ((Sl.below HP.out HB2.out).more HB2.out.size) (HG.out.below HB2.out)).mono ?_; rintro e w3 ⟨rfl, hb3⟩; have B3 : Hid (Below w2.heap.size w2 w3) := aside hb3; have R3 := TotAt.new w3 0 zeroD; clear hb3)
    | (refine wpList_store_row rfl 25 (.tmp 16) (.tmp 31) rfl w3.heap.size (totR x.1 x.2) rfl rfl 25 (totR 0 zeroD) R3 (totInfo HDx.out.1) (tot_same rfl HDx.out.1) (totR_one _ _) ?_)
    | fail)
  have TA3 : Hid (TotAt w3 N a.1 a.2) := aside (TA2.out.below B3.out TA2.out.lt)
  have TB3 : Hid (TotAt w3 (N + 1) b.1 b.2) := aside (TB2.out.below B3.out TB2.out.lt)
  have HB3 : Hid (Below w.heap.size w w3) := aside (HB2.out.trans (B3.out.mono HB2.out.size))
  clear R3 TA2 TB2 B3
  change Code.wp _ _ _ _ ((w3.alloc (.cells (totR 0 zeroD) 25)).setRow w3.heap.size (totR x.1 x.2))
  obtain ⟨w4, hw4⟩ : ∃ w4, w4 = ((w3.alloc (.cells (totR 0 zeroD) 25)).setRow w3.heap.size (totR x.1 x.2)) := ⟨_, rfl⟩
  obtain ⟨tn, bn, -⟩ := store_new w3 x.1 x.2 w4 hw4
  rw [← hw4]
  have TA4 : Hid (TotAt w4 N a.1 a.2) := aside (TA3.out.below bn TA3.out.lt)
  have TB4 : Hid (TotAt w4 (N + 1) b.1 b.2) := aside (TB3.out.below bn TB3.out.lt)
  have TX : Hid (TotAt w4 w3.heap.size x.1 x.2) := aside tn
  have Hw4 : Hid (Below w.heap.size w w4) := aside (HB3.out.trans (bn.mono HB3.out.size))
  obtain ⟨X, hX⟩ : ∃ X, X = w3.heap.size := ⟨_, rfl⟩
  rw [← hX] at TX ⊢
  clear tn bn hw4 hX
  go_upto_region 6 with (first
    | (refine wpList_load_row rfl 25 (.tmp 10) rfl (N + 1) rfl 25 (totR b.1 b.2) (0, 0) _ TB4.out Tryd.underlying25 rfl (totInfo HBd.out.1) ?_)
    | (go_at_call 8; refine (HF2.out w4 ((Sl.below HQ.out Hw4.out).more Hw4.out.size) (HG.out.below Hw4.out)).mono ?_; rintro e w5 ⟨rfl, hb5⟩; have B5 : Hid (Below w4.heap.size w4 w5) := aside hb5; have R5 := TotAt.new w5 0 zeroD; clear hb5)
    | (refine wpList_store_row rfl 25 (.tmp 18) (.tmp 39) rfl w5.heap.size (totR y.1 y.2) rfl rfl 25 (totR 0 zeroD) R5 (totInfo HDy.out.1) (tot_same rfl HDy.out.1) (totR_one _ _) ?_)
    | fail)
  have TA5 : Hid (TotAt w5 N a.1 a.2) := aside (TA4.out.below B5.out TA4.out.lt)
  have TB5 : Hid (TotAt w5 (N + 1) b.1 b.2) := aside (TB4.out.below B5.out TB4.out.lt)
  have TX5 : Hid (TotAt w5 X x.1 x.2) := aside (TX.out.below B5.out TX.out.lt)
  have HB5 : Hid (Below w.heap.size w w5) := aside (Hw4.out.trans (B5.out.mono Hw4.out.size))
  clear R5 TA4 TB4 TX B5 TA3 TB3
  change Code.wp _ _ _ _ ((w5.alloc (.cells (totR 0 zeroD) 25)).setRow w5.heap.size (totR y.1 y.2))
  obtain ⟨w6, hw6⟩ : ∃ w6, w6 = ((w5.alloc (.cells (totR 0 zeroD) 25)).setRow w5.heap.size (totR y.1 y.2)) := ⟨_, rfl⟩
  obtain ⟨tn, bn, -⟩ := store_new w5 y.1 y.2 w6 hw6
  rw [← hw6]
  have TA6 : Hid (TotAt w6 N a.1 a.2) := aside (TA5.out.below bn TA5.out.lt)
  have TB6 : Hid (TotAt w6 (N + 1) b.1 b.2) := aside (TB5.out.below bn TB5.out.lt)
  have TX6 : Hid (TotAt w6 X x.1 x.2) := aside (TX5.out.below bn TX5.out.lt)
  have TY : Hid (TotAt w6 w5.heap.size y.1 y.2) := aside tn
  have Hw6 : Hid (Below w.heap.size w w6) := aside (HB5.out.trans (bn.mono HB5.out.size))
  obtain ⟨Y, hY⟩ : ∃ Y, Y = w5.heap.size := ⟨_, rfl⟩
  rw [← hY] at TY ⊢
  clear tn bn hw6 hY
  clear TA5 TB5 TX5 HF1 HF2
  by_cases hxy : x = y
  rotate_left
  · have heq1 : ∀ W, (Op.equalIn 10000 25 (.agg (totR x.1 x.2)) (.agg (totR y.1 y.2))).run Tryd.prog W = .ok false W := fun W => tot_ne HDx.out.1 HDy.out.1 hxy W
    clear hxy HPart
    go_wp2_with (first
      | (refine wpList_step fun K hK => ?_; rw [if_pos (by rfl)]; refine wp_load_row 25 (.tmp 16) rfl X rfl 25 (totR x.1 x.2) (0, 0) _ TX6.out Tryd.underlying25 rfl (totInfo HDx.out.1) (hK _ _ ?_); clear hK K)
      | (refine wpList_step fun K hK => ?_; rw [if_pos (by rfl)]; refine wp_load_row 25 (.tmp 18) rfl Y rfl 25 (totR y.1 y.2) (0, 0) _ TY.out Tryd.underlying25 rfl (totInfo HDy.out.1) (hK _ _ ?_); clear hK K)
      | fail)
    go_ret
    exact ⟨rfl, Hw6.out⟩
  have heq1 : ∀ W, (Op.equalIn 10000 25 (.agg (totR x.1 x.2)) (.agg (totR x.1 x.2))).run Tryd.prog W = .ok true W := fun W => tot_eq (s := x) HDx.out.1 W
  by_cases hij : i = j
  · subst hxy
    subst hij
    clear HPart
    have ei : (i == i) = true := by simp
    go_wp2_with (first
      | (refine wpList_step fun K hK => ?_; rw [if_pos (by rfl)]; refine wp_load_row 25 (.tmp 16) rfl X rfl 25 (totR x.1 x.2) (0, 0) _ TX6.out Tryd.underlying25 rfl (totInfo HDx.out.1) (hK _ _ ?_); clear hK K)
      | (refine wpList_step fun K hK => ?_; rw [if_pos (by rfl)]; refine wp_load_row 25 (.tmp 18) rfl Y rfl 25 (totR x.1 x.2) (0, 0) _ TY.out Tryd.underlying25 rfl (totInfo HDx.out.1) (hK _ _ ?_); clear hK K)
      | fail)
    go_ret
    exact ⟨rfl, Hw6.out⟩
  have ei : (i == j) = false := by simpa using hij
  by_cases hs : a.1 + b.1 ≤ x.1
  · subst hxy
    have ca := TA6.out.sum
    have cb := TB6.out.sum
    have cx := TX6.out.sum
    have hs' : (a.1 + b.1 ≤ x.1) = True := by simp only [eq_iff_iff, iff_true]; exact hs
    clear HPart hij
    go_wp2_with (first
      | (refine wpList_step fun K hK => ?_; rw [if_pos (by rfl)]; refine wp_load_row 25 (.tmp 16) rfl X rfl 25 (totR x.1 x.2) (0, 0) _ TX6.out Tryd.underlying25 rfl (totInfo HDx.out.1) (hK _ _ ?_); clear hK K)
      | (refine wpList_step fun K hK => ?_; rw [if_pos (by rfl)]; refine wp_load_row 25 (.tmp 18) rfl Y rfl 25 (totR x.1 x.2) (0, 0) _ TY.out Tryd.underlying25 rfl (totInfo HDx.out.1) (hK _ _ ?_); clear hK K)
      | fail)
    go_ret
    exact ⟨rfl, Hw6.out⟩
  · have HC := aside (HPart.out hxy hij (by omega))
    subst hxy
    have ca := TA6.out.sum
    have cb := TB6.out.sum
    have cx := TX6.out.sum
    have hs' : (a.1 + b.1 ≤ x.1) = False := by simp only [eq_iff_iff, iff_false]; exact hs
    clear HPart hij hs
    go_wp2_with (first
      | (refine wpList_step fun K hK => ?_; rw [if_pos (by rfl)]; refine wp_load_row 25 (.tmp 16) rfl X rfl 25 (totR x.1 x.2) (0, 0) _ TX6.out Tryd.underlying25 rfl (totInfo HDx.out.1) (hK _ _ ?_); clear hK K)
      | (refine wpList_step fun K hK => ?_; rw [if_pos (by rfl)]; refine wp_load_row 25 (.tmp 18) rfl Y rfl 25 (totR x.1 x.2) (0, 0) _ TY.out Tryd.underlying25 rfl (totInfo HDx.out.1) (hK _ _ ?_); clear hK K)
      | (refine wpList_load_row rfl 25 (.tmp 7) rfl N rfl 25 (totR a.1 a.2) (0, 0) _ TA6.out Tryd.underlying25 rfl (totInfo HA.out.1) ?_)
      | (refine wpList_load_row rfl 25 (.tmp 10) rfl (N + 1) rfl 25 (totR b.1 b.2) (0, 0) _ TB6.out Tryd.underlying25 rfl (totInfo HBd.out.1) ?_)
      | (go_at_call 9; refine (HC.out w6 ((Sl.below HP.out Hw6.out).more Hw6.out.size) ((Sl.below HQ.out Hw6.out).more Hw6.out.size)).mono ?_; rintro e w7 ⟨⟨z, rfl⟩, hb7⟩; have HB7 : Hid (Below w.heap.size w w7) := aside (Hw6.out.trans (hb7.mono Hw6.out.size)); clear hb7)
      | fail)
    go_ret
    exact ⟨rfl, HB7.out⟩
theorem atwo_any (a b : Tot) (ha : Dig a.2) (hb : Dig b.2) (i j n : Int) (p q : List Tot) (hp : ∀ t ∈ p, Dig t.2) (hq : ∀ t ∈ q, Dig t.2) (A B : Option Addr) (m l c d : Nat) (hmc : m ≤ c) (hld : l ≤ d) (w : World) (t1 : TSl w w.heap.size A m p) (t2 : TSl w w.heap.size B l q) (hg : RoundsAt w) : Calls Tryd.prog 4 #[tV a, .slice A m c, .int .i64 i, tV b, .slice B l d, .int .i64 j, .int .i64 n] w (LawPost w) := by
  obtain ⟨x, q1, hx⟩ : ∃ x q1, foldR a i n p = (x, q1) := ⟨_, _, rfl⟩
  obtain ⟨y, q2, hy⟩ : ∃ y q2, foldR b j n q = (y, q2) := ⟨_, _, rfl⟩
  by_cases hq1 : q1 = 0
  · by_cases hq2 : q2 = 0
    · exact two_ok a b ha hb i j n p q hp hq A B m l c d w t1 t2 hg x y q1 q2 hx hy hq1 hq2 hmc hld
    · exact two_e2 a b ha hb i j n p q hp hq A B m l c d w t1 t2 hg x y q1 q2 hx hy hq1 hq2
  · exact two_e1 a b ha hb i j n p q hp hq A B m l c d w t1 t2 hg x y q1 q2 hx hy hq1
end Go.Proofs.YtkpbhbafapdboaaDoor
