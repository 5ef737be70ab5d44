/- PegRound: its walk. Conditions: named in each theorem. -/
import Derived.Test.YtcmlhopidohimaaPegR
import Derived.Deep.Cut
namespace Go.Proofs.Ytcmlhopidohimaa
open Go.RowKit Go.ChangeShapes Go.WideShapes Go.ChangeAt

set_option maxHeartbeats 16000000 in
set_option maxRecDepth 100000 in
theorem round_any (s : PegS) (v : Value) (i o who n other : Int) {N : Nat} (w : World) (h : PegAt N w v s) :
    Calls Try.prog 3 #[v, .int .i64 i, .int .i64 o, .int .i64 who, .int .i64 n, .int .i64 other] w (LawPost w) := by
  obtain ⟨A1, n1, c1, A2, n2, c2, A3, n3, c3, rfl⟩ := h.agg
  have AT0 := aside (AtP.first w (.int .i64 s.1) (.slice A1 n1 c1) (.slice A2 n2 c2) (.slice A3 n3 c3))
  have PA0 := aside h
  obtain ⟨-, hl1, -, -⟩ := h.lens
  have HL1 := aside hl1
  clear h hl1
  by_cases hq1 : inQ s i who n = 0
  · by_cases hq2 : outQ (inR s i who n) o who n = 0
    · obtain ⟨r1, r2, r3, r4, r5⟩ := round_law hq1 hq2
      have HI : Hid (∀ N v W, PegAt N W v s → Calls Try.prog 6 #[v, .int .i64 i, .int .i64 who, .int .i64 n] W (fun e w' => ∃ l X x y Y z u Z a t, e = .returned (.tuple #[.agg #[.int .i64 l, .slice X x y, .slice Y z u, .slice Z a t], .nilIface]) ∧ PegAt W.heap.size w' (.agg #[.int .i64 l, .slice X x y, .slice Y z u, .slice Z a t]) (inR s i who n) ∧ Below W.heap.size W w')) := aside (fun N v W hp => by
        refine (in_any s v i who n W hp).mono ?_
        rintro e w' ⟨v', rfl, hq, hb⟩
        rw [hq1, actOut_ok] at hq
        rw [hq1, show errP 0 = Value.nilIface from rfl]
        obtain ⟨A1, n1, c1, A2, n2, c2, A3, n3, c3, rfl⟩ := hq.agg
        exact ⟨_, A1, n1, c1, A2, n2, c2, A3, n3, c3, rfl, hq, hb⟩)
      have HO : Hid (∀ N v W, PegAt N W v (inR s i who n) → Calls Try.prog 7 #[v, .int .i64 o, .int .i64 who, .int .i64 n] W (fun e w' => ∃ l X x y Y z u Z a t, e = .returned (.tuple #[.agg #[.int .i64 l, .slice X x y, .slice Y z u, .slice Z a t], .nilIface]) ∧ PegAt W.heap.size w' (.agg #[.int .i64 l, .slice X x y, .slice Y z u, .slice Z a t]) (outR (inR s i who n) o who n) ∧ Below W.heap.size W w')) := aside (fun N v W hp => by
        refine (out_any _ v o who n W hp).mono ?_
        rintro e w' ⟨v', rfl, hq, hb⟩
        rw [hq2, actOut_ok] at hq
        rw [hq2, show errP 0 = Value.nilIface from rfl]
        obtain ⟨A1, n1, c1, A2, n2, c2, A3, n3, c3, rfl⟩ := hq.agg
        exact ⟨_, A1, n1, c1, A2, n2, c2, A3, n3, c3, rfl, hq, hb⟩)
      have HP : Hid (∀ N v W, PegAt N W v (outR (inR s i who n) o who n) → Calls Try.prog 8 #[v, .int .i64 o] W (fun e w' => ∃ l X x y Y z u Z a t, e = .returned (.tuple #[.agg #[.int .i64 l, .slice X x y, .slice Y z u, .slice Z a t], .nilIface]) ∧ PegAt W.heap.size w' (.agg #[.int .i64 l, .slice X x y, .slice Y z u, .slice Z a t]) (payR (outR (inR s i who n) o who n) o) ∧ Below W.heap.size W w')) := aside (fun N v W hp => by
        refine (pay_any _ v o W hp).mono ?_
        rintro e w' ⟨v', rfl, hq, hb⟩
        rw [r1, actOut_ok] at hq
        rw [r1, show errP 0 = Value.nilIface from rfl]
        obtain ⟨A1, n1, c1, A2, n2, c2, A3, n3, c3, rfl⟩ := hq.agg
        exact ⟨_, A1, n1, c1, A2, n2, c2, A3, n3, c3, rfl, hq, hb⟩)
      have HH : Hid (∀ N v W, PegAt N W v s → Calls Try.prog 9 #[v, .int .i64 other] W (fun e w' => e = .returned (.tuple #[.int .i64 (amtS other s.2.1), .nilIface]) ∧ Below W.heap.size W w')) := aside (fun N v W hp => by
        have h := has_any _ v other W hp
        unfold hasV at h
        rw [r4, if_pos rfl] at h
        exact h)
      have HG : Hid (∀ N v W, PegAt N W v (payR (outR (inR s i who n) o who n) o) → Calls Try.prog 9 #[v, .int .i64 other] W (fun e w' => e = .returned (.tuple #[.int .i64 (amtS other s.2.1), .nilIface]) ∧ Below W.heap.size W w')) := aside (fun N v W hp => by
        have h := has_any _ v other W hp
        unfold hasV at h
        rw [r5, if_pos rfl, r3] at h
        exact h)
      have HS : Hid (∀ N W l X x y Y z u Z a t, PegAt N W (.agg #[.int .i64 l, .slice X x y, .slice Y z u, .slice Z a t]) (payR (outR (inR s i who n) o who n) o) → l = s.1 ∧ x = n1) := aside (fun N W l X x y Y z u Z a t hp => by
        obtain ⟨g1, g2, -, -⟩ := hp.lens
        rw [r2] at g1
        rw [r3, ← HL1.out] at g2
        exact ⟨g1, g2⟩)
      clear hq1 hq2 r1 r2 r3 r4 r5
      generalize payR (outR (inR s i who n) o who n) o = S3 at HP HG HS
      generalize outR (inR s i who n) o who n = S2 at HO HP
      generalize inR s i who n = S1 at HI HO
      generalize amtS other s.2.1 = am at HH HG
      obtain ⟨l, hl⟩ : ∃ l, l = s.1 := ⟨_, rfl⟩
      rw [← hl] at AT0 PA0 HS ⊢
      clear hl
      go_enter Try.func3, Try.ntmps3
      have ATp := AT0
      go_wp2_with (first
        | (go_at_call 5; refine (pegged_any _).mono ?_; rintro e w1 ⟨rfl, hb⟩; have AT1 := aside (AT0.out.step hb); have PA1 := aside (PA0.out.below AT1.out.below); have p3 := AT1.out.cells; obtain ⟨⟨e0, e1, e2, e3⟩, -⟩ := p3; clear ATp hb; have ATp := AT1)
        | (go_at_call 6; refine (HI.out _ _ _ PA1.out).mono ?_; rintro e w2 ⟨l2, X2, x2, y2, Y2, z2, u2, Z2, v2, t2, rfl, hp, hb⟩; have AT2 := aside ((ATp.out.step hb).alloc (.cells #[.int .i64 l2, .slice X2 x2 y2, .slice Y2 z2 u2, .slice Z2 v2 t2] 26)); clear ATp; have ATp := AT2; have PB2 := aside (hp.alloc (.cells #[.int .i64 l2, .slice X2 x2 y2, .slice Y2 z2 u2, .slice Z2 v2 t2] 26)); have BX2 := aside (heap_alloc_new w2 (.cells #[.int .i64 l2, .slice X2 x2 y2, .slice Y2 z2 u2, .slice Z2 v2 t2] 26)); have p3 := AT2.out.cells; obtain ⟨⟨e0, e1, e2, e3⟩, -⟩ := p3; clear hb hp)
        | (go_at_call 7; refine (HO.out _ _ _ PB2.out).mono ?_; rintro e w3 ⟨l3, X3, x3, y3, Y3, z3, u3, Z3, v3, t3, rfl, hp, hb⟩; have AT3 := aside ((ATp.out.step hb).alloc (.cells #[.int .i64 l3, .slice X3 x3 y3, .slice Y3 z3 u3, .slice Z3 v3 t3] 26)); clear ATp; have ATp := AT3; have PB3 := aside (hp.alloc (.cells #[.int .i64 l3, .slice X3 x3 y3, .slice Y3 z3 u3, .slice Z3 v3 t3] 26)); have BX3 := aside (heap_alloc_new w3 (.cells #[.int .i64 l3, .slice X3 x3 y3, .slice Y3 z3 u3, .slice Z3 v3 t3] 26)); have p3 := AT3.out.cells; obtain ⟨⟨e0, e1, e2, e3⟩, -⟩ := p3; clear hb hp)
        | (go_at_call 8; refine (HP.out _ _ _ PB3.out).mono ?_; rintro e w4 ⟨l4, X4, x4, y4, Y4, z4, u4, Z4, v4, t4, rfl, hp, hb⟩; obtain ⟨rfl, rfl⟩ := HS.out _ _ _ _ _ _ _ _ _ _ _ _ hp; have HM1 := HS; have AT4 := aside ((ATp.out.step hb).alloc (.cells #[.int .i64 l4, .slice X4 x4 y4, .slice Y4 z4 u4, .slice Z4 v4 t4] 26)); clear ATp; have ATp := AT4; have PB4 := aside (hp.alloc (.cells #[.int .i64 l4, .slice X4 x4 y4, .slice Y4 z4 u4, .slice Z4 v4 t4] 26)); have BX4 := aside (heap_alloc_new w4 (.cells #[.int .i64 l4, .slice X4 x4 y4, .slice Y4 z4 u4, .slice Z4 v4 t4] 26)); have p3 := AT4.out.cells; obtain ⟨⟨e0, e1, e2, e3⟩, -⟩ := p3; clear hb hp)
        | (clear HM1; go_at_call 9; refine (HH.out _ _ _ (PA0.out.below AT4.out.below)).mono ?_; rintro e w5 ⟨rfl, hb⟩; have AT5 := aside (ATp.out.step hb); have PB5 := aside (PB4.out.below hb); have p3 := AT5.out.cells; obtain ⟨⟨e0, e1, e2, e3⟩, -⟩ := p3; have p4 := box_cells ((hb.block _ (by simp)).trans BX4.out); obtain ⟨⟨g0, g1, g2, g3⟩, -⟩ := p4; clear ATp hb)
        | (go_at_call 9; refine (HG.out _ _ _ PB5.out).mono ?_; rintro e w6 ⟨rfl, hb⟩; have AT6 := aside (AT5.out.step hb); clear hb))
      go_ret
      exact ⟨rfl, AT6.out.below⟩
    · have HI : Hid (∀ N v W, PegAt N W v s → Calls Try.prog 6 #[v, .int .i64 i, .int .i64 who, .int .i64 n] W (fun e w' => ∃ l X x y Y z u Z a t, e = .returned (.tuple #[.agg #[.int .i64 l, .slice X x y, .slice Y z u, .slice Z a t], .nilIface]) ∧ PegAt W.heap.size w' (.agg #[.int .i64 l, .slice X x y, .slice Y z u, .slice Z a t]) (inR s i who n) ∧ Below W.heap.size W w')) := aside (fun N v W hp => by
        refine (in_any s v i who n W hp).mono ?_
        rintro e w' ⟨v', rfl, hq, hb⟩
        rw [hq1, actOut_ok] at hq
        rw [hq1, show errP 0 = Value.nilIface from rfl]
        obtain ⟨A1, n1, c1, A2, n2, c2, A3, n3, c3, rfl⟩ := hq.agg
        exact ⟨_, A1, n1, c1, A2, n2, c2, A3, n3, c3, rfl, hq, hb⟩)
      have HO : Hid (∀ N v W, PegAt N W v (inR s i who n) → Calls Try.prog 7 #[v, .int .i64 o, .int .i64 who, .int .i64 n] W (fun e w' => ∃ l X x y Y z u Z a t, e = .returned (.tuple #[.agg #[.int .i64 l, .slice X x y, .slice Y z u, .slice Z a t], .iface 45 (.int .i64 (outQ (inR s i who n) o who n))]) ∧ PegAt W.heap.size w' (.agg #[.int .i64 l, .slice X x y, .slice Y z u, .slice Z a t]) emptyS ∧ Below W.heap.size W w')) := aside (fun N v W hp => by
        refine (out_any _ v o who n W hp).mono ?_
        rintro e w' ⟨v', rfl, hq, hb⟩
        rw [actOut_no hq2] at hq
        rw [errP_no hq2]
        obtain ⟨A1, n1, c1, A2, n2, c2, A3, n3, c3, rfl⟩ := hq.agg
        exact ⟨_, A1, n1, c1, A2, n2, c2, A3, n3, c3, rfl, hq, hb⟩)
      have HP : Hid (∀ N v W, PegAt N W v emptyS → Calls Try.prog 8 #[v, .int .i64 o] W (fun e w' => ∃ E l X x y Y z u Z a t, e = .returned (.tuple #[.agg #[.int .i64 l, .slice X x y, .slice Y z u, .slice Z a t], E]) ∧ PegAt W.heap.size w' (.agg #[.int .i64 l, .slice X x y, .slice Y z u, .slice Z a t]) (actOut (payQ emptyS o) (payR emptyS o)) ∧ Below W.heap.size W w')) := aside (fun N v W hp => by
        refine (pay_any emptyS v o W hp).mono ?_
        rintro e w' ⟨v', rfl, hq, hb⟩
        obtain ⟨A1, n1, c1, A2, n2, c2, A3, n3, c3, rfl⟩ := hq.agg
        exact ⟨_, _, A1, n1, c1, A2, n2, c2, A3, n3, c3, rfl, hq, hb⟩)
      generalize outQ (inR s i who n) o who n = q at HO
      clear hq1 hq2
      go_enter Try.func3, Try.ntmps3
      have ATp := AT0
      go_wp2_with (first
        | (go_at_call 5; refine (pegged_any _).mono ?_; rintro e w1 ⟨rfl, hb⟩; have AT1 := aside (AT0.out.step hb); have PA1 := aside (PA0.out.below AT1.out.below); have p3 := AT1.out.cells; obtain ⟨⟨e0, e1, e2, e3⟩, -⟩ := p3; clear ATp hb; have ATp := AT1)
        | (go_at_call 6; refine (HI.out _ _ _ PA1.out).mono ?_; rintro e w2 ⟨l2, X2, x2, y2, Y2, z2, u2, Z2, v2, t2, rfl, hp, hb⟩; have AT2 := aside ((ATp.out.step hb).alloc (.cells #[.int .i64 l2, .slice X2 x2 y2, .slice Y2 z2 u2, .slice Z2 v2 t2] 26)); clear ATp; have ATp := AT2; have PB2 := aside (hp.alloc (.cells #[.int .i64 l2, .slice X2 x2 y2, .slice Y2 z2 u2, .slice Z2 v2 t2] 26)); have BX2 := aside (heap_alloc_new w2 (.cells #[.int .i64 l2, .slice X2 x2 y2, .slice Y2 z2 u2, .slice Z2 v2 t2] 26)); have p3 := AT2.out.cells; obtain ⟨⟨e0, e1, e2, e3⟩, -⟩ := p3; clear hb hp)
        | (go_at_call 7; refine (HO.out _ _ _ PB2.out).mono ?_; rintro e w3 ⟨l3, X3, x3, y3, Y3, z3, u3, Z3, v3, t3, rfl, hp, hb⟩; have AT3 := aside ((ATp.out.step hb).alloc (.cells #[.int .i64 l3, .slice X3 x3 y3, .slice Y3 z3 u3, .slice Z3 v3 t3] 26)); clear ATp; have ATp := AT3; have PB3 := aside (hp.alloc (.cells #[.int .i64 l3, .slice X3 x3 y3, .slice Y3 z3 u3, .slice Z3 v3 t3] 26)); have BX3 := aside (heap_alloc_new w3 (.cells #[.int .i64 l3, .slice X3 x3 y3, .slice Y3 z3 u3, .slice Z3 v3 t3] 26)); have p3 := AT3.out.cells; obtain ⟨⟨e0, e1, e2, e3⟩, -⟩ := p3; clear hb hp)
        | (go_at_call 8; refine (HP.out _ _ _ PB3.out).mono ?_; rintro e w4 ⟨E4, l4, X4, x4, y4, Y4, z4, u4, Z4, v4, t4, rfl, hp, hb⟩; have AT4 := aside ((ATp.out.step hb).alloc (.cells #[.int .i64 l4, .slice X4 x4 y4, .slice Y4 z4 u4, .slice Z4 v4 t4] 26)); clear ATp; have ATp := AT4; have PB4 := aside (hp.alloc (.cells #[.int .i64 l4, .slice X4 x4 y4, .slice Y4 z4 u4, .slice Z4 v4 t4] 26)); have BX4 := aside (heap_alloc_new w4 (.cells #[.int .i64 l4, .slice X4 x4 y4, .slice Y4 z4 u4, .slice Z4 v4 t4] 26)); have p3 := AT4.out.cells; obtain ⟨⟨e0, e1, e2, e3⟩, -⟩ := p3; clear hb hp))
      go_ret
      exact ⟨rfl, AT4.out.below⟩
  · have HI : Hid (∀ N v W, PegAt N W v s → Calls Try.prog 6 #[v, .int .i64 i, .int .i64 who, .int .i64 n] W (fun e w' => ∃ l X x y Y z u Z a t, e = .returned (.tuple #[.agg #[.int .i64 l, .slice X x y, .slice Y z u, .slice Z a t], .iface 45 (.int .i64 (inQ s i who n))]) ∧ PegAt W.heap.size w' (.agg #[.int .i64 l, .slice X x y, .slice Y z u, .slice Z a t]) emptyS ∧ Below W.heap.size W w')) := aside (fun N v W hp => by
    refine (in_any s v i who n W hp).mono ?_
    rintro e w' ⟨v', rfl, hq, hb⟩
    rw [actOut_no hq1] at hq
    rw [errP_no hq1]
    obtain ⟨A1, n1, c1, A2, n2, c2, A3, n3, c3, rfl⟩ := hq.agg
    exact ⟨_, A1, n1, c1, A2, n2, c2, A3, n3, c3, rfl, hq, hb⟩)
    have HO : Hid (∀ N v W, PegAt N W v emptyS → Calls Try.prog 7 #[v, .int .i64 o, .int .i64 who, .int .i64 n] W (fun e w' => ∃ E l X x y Y z u Z a t, e = .returned (.tuple #[.agg #[.int .i64 l, .slice X x y, .slice Y z u, .slice Z a t], E]) ∧ PegAt W.heap.size w' (.agg #[.int .i64 l, .slice X x y, .slice Y z u, .slice Z a t]) (actOut (outQ emptyS o who n) (outR emptyS o who n)) ∧ Below W.heap.size W w')) := aside (fun N v W hp => by
    refine (out_any emptyS v o who n W hp).mono ?_
    rintro e w' ⟨v', rfl, hq, hb⟩
    obtain ⟨A1, n1, c1, A2, n2, c2, A3, n3, c3, rfl⟩ := hq.agg
    exact ⟨_, _, A1, n1, c1, A2, n2, c2, A3, n3, c3, rfl, hq, hb⟩)
    have HP : Hid (∀ N v W, PegAt N W v (actOut (outQ emptyS o who n) (outR emptyS o who n)) → Calls Try.prog 8 #[v, .int .i64 o] W (fun e w' => ∃ E l X x y Y z u Z a t, e = .returned (.tuple #[.agg #[.int .i64 l, .slice X x y, .slice Y z u, .slice Z a t], E]) ∧ PegAt W.heap.size w' (.agg #[.int .i64 l, .slice X x y, .slice Y z u, .slice Z a t]) (actOut (payQ (actOut (outQ emptyS o who n) (outR emptyS o who n)) o) (payR (actOut (outQ emptyS o who n) (outR emptyS o who n)) o)) ∧ Below W.heap.size W w')) := aside (fun N v W hp => by
    refine (pay_any _ v o W hp).mono ?_
    rintro e w' ⟨v', rfl, hq, hb⟩
    obtain ⟨A1, n1, c1, A2, n2, c2, A3, n3, c3, rfl⟩ := hq.agg
    exact ⟨_, _, A1, n1, c1, A2, n2, c2, A3, n3, c3, rfl, hq, hb⟩)
    generalize inQ s i who n = q at HI
    generalize actOut (outQ emptyS o who n) (outR emptyS o who n) = S2 at HO HP
    clear hq1
    go_enter Try.func3, Try.ntmps3
    have ATp := AT0
    go_wp2_with (first
      | (go_at_call 5; refine (pegged_any _).mono ?_; rintro e w1 ⟨rfl, hb⟩; have AT1 := aside (AT0.out.step hb); have PA1 := aside (PA0.out.below AT1.out.below); have p3 := AT1.out.cells; obtain ⟨⟨e0, e1, e2, e3⟩, -⟩ := p3; clear ATp hb; have ATp := AT1)
      | (go_at_call 6; refine (HI.out _ _ _ PA1.out).mono ?_; rintro e w2 ⟨l2, X2, x2, y2, Y2, z2, u2, Z2, v2, t2, rfl, hp, hb⟩; have AT2 := aside ((ATp.out.step hb).alloc (.cells #[.int .i64 l2, .slice X2 x2 y2, .slice Y2 z2 u2, .slice Z2 v2 t2] 26)); clear ATp; have ATp := AT2; have PB2 := aside (hp.alloc (.cells #[.int .i64 l2, .slice X2 x2 y2, .slice Y2 z2 u2, .slice Z2 v2 t2] 26)); have BX2 := aside (heap_alloc_new w2 (.cells #[.int .i64 l2, .slice X2 x2 y2, .slice Y2 z2 u2, .slice Z2 v2 t2] 26)); have p3 := AT2.out.cells; obtain ⟨⟨e0, e1, e2, e3⟩, -⟩ := p3; clear hb hp)
      | (go_at_call 7; refine (HO.out _ _ _ PB2.out).mono ?_; rintro e w3 ⟨E3, l3, X3, x3, y3, Y3, z3, u3, Z3, v3, t3, rfl, hp, hb⟩; have AT3 := aside ((ATp.out.step hb).alloc (.cells #[.int .i64 l3, .slice X3 x3 y3, .slice Y3 z3 u3, .slice Z3 v3 t3] 26)); clear ATp; have ATp := AT3; have PB3 := aside (hp.alloc (.cells #[.int .i64 l3, .slice X3 x3 y3, .slice Y3 z3 u3, .slice Z3 v3 t3] 26)); have BX3 := aside (heap_alloc_new w3 (.cells #[.int .i64 l3, .slice X3 x3 y3, .slice Y3 z3 u3, .slice Z3 v3 t3] 26)); have p3 := AT3.out.cells; obtain ⟨⟨e0, e1, e2, e3⟩, -⟩ := p3; clear hb hp)
      | (go_at_call 8; refine (HP.out _ _ _ PB3.out).mono ?_; rintro e w4 ⟨E4, l4, X4, x4, y4, Y4, z4, u4, Z4, v4, t4, rfl, hp, hb⟩; have AT4 := aside ((ATp.out.step hb).alloc (.cells #[.int .i64 l4, .slice X4 x4 y4, .slice Y4 z4 u4, .slice Z4 v4 t4] 26)); clear ATp; have ATp := AT4; have PB4 := aside (hp.alloc (.cells #[.int .i64 l4, .slice X4 x4 y4, .slice Y4 z4 u4, .slice Z4 v4 t4] 26)); have BX4 := aside (heap_alloc_new w4 (.cells #[.int .i64 l4, .slice X4 x4 y4, .slice Y4 z4 u4, .slice Z4 v4 t4] 26)); have p3 := AT4.out.cells; obtain ⟨⟨e0, e1, e2, e3⟩, -⟩ := p3; clear hb hp))
    go_ret
    exact ⟨rfl, AT4.out.below⟩
end Go.Proofs.Ytcmlhopidohimaa
