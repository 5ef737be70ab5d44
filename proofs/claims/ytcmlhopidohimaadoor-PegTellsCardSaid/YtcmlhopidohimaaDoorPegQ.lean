/- What is paid, and is there, of a peg: the walks. Conditions: named in each theorem. -/
import Derived.Test.YtcmlhopidohimaaDoorPegM
namespace Go.Proofs.YtcmlhopidohimaaDoor
open Go.RowKit Go.ChangeShapes Go.WideShapes Go.ChangeAt

set_option maxHeartbeats 16000000 in
set_option maxRecDepth 100000 in
theorem pay_any (s : PegS) (v : Value) (x : Int) {N : Nat} (w : World) (h : PegAt N w v s) :
    Calls Tryd.prog 18 #[v, .int .i64 x] w (fun e w' => ∃ v', e = .returned (.tuple #[v', errP (payQ s x)]) ∧ PegAt w.heap.size w' v' (actOut (payQ s x) (payR s x)) ∧ Below w.heap.size w w') := by
  obtain ⟨A1, n1, c1, A2, n2, c2, A3, n3, c3, rfl, h1, h2, h3, k1, k2, k3, m1, m3, -⟩ := h
  obtain ⟨l, ps, is, rs⟩ := s
  dsimp only at h1 h2 h3
  obtain ⟨x1, x2, xb, xs⟩ := two_new w #[.int .i64 l, .slice A1 n1 c1, .slice A2 n2 c2, .slice A3 n3 c3] #[.int .i64 0, .slice none 0 0, .slice none 0 0, .slice none 0 0] 26 26
  have HX1 := aside x1
  have HX2 := aside x2
  have HB0 := aside xb
  have HZ := aside xs
  clear x1 x2 xb xs
  by_cases hst : startS (l, ps, is, rs) 0 ≠ 0
  · have hq : payQ (l, ps, is, rs) x = startS (l, ps, is, rs) 0 := by unfold payQ; rw [if_pos hst]
    rw [hq, actOut_no hst]
    have HS : Hid (∀ W, Below w.heap.size w W → Calls Tryd.prog 31 #[pegV l A1 n1 c1 A2 n2 c2 A3 n3 c3, .int .i64 0] W (fun e w' => e = .returned (.tuple #[zeroPeg, .iface 28 (.int .i64 (startS (l, ps, is, rs) 0))]) ∧ Below W.heap.size W w')) := aside (fun W hW => by
      have h := start_bad l ps is rs A1 n1 c1 A2 n2 c2 A3 n3 c3 0 W ((FSl.below h1 hW).more hW.size) ((FSl.below h2 hW).more hW.size) ((FSl.below h3 hW).more hW.size) k1 k2 k3 m1 m3 hst
      rw [errP_no hst] at h
      exact h)
    rw [errP_no hst]
    generalize startS (l, ps, is, rs) 0 = q at HS ⊢
    clear hq hst h1 h2 h3
    unfold pegV zeroPeg at HS
    unfold pegV at HS
    unfold pegV
    go_enter Tryd.func18, Tryd.ntmps18
    go_wp2_with (go_at_call 31; refine (HS.out _ HB0.out).mono ?_; rintro e w1 ⟨rfl, hb⟩; have p1 := keep4 hb (by rw [HZ.out]; omega) HX1.out; have p2 := keep4 hb (by rw [HZ.out]; omega) HX2.out; obtain ⟨-, ⟨e0, e1, e2, e3⟩, f0, f1, f2, f3⟩ := p1; obtain ⟨-, ⟨u0, u1, u2, u3⟩, g0, g1, g2, g3⟩ := p2; have HB1 := aside (HB0.out.trans (hb.mono (by rw [HZ.out]; omega))); clear hb)
    (try simp only [Exit.inBlock, Exit.then])
    refine bodyPost_ret (v := .tuple #[.agg #[.int .i64 0, .slice none 0 0, .slice none 0 0, .slice none 0 0], .iface 28 (.int .i64 q)]) (by simp only [results, Tryd.results18]; go_simp) rfl ?_
    exact ⟨zeroPeg, rfl, bad_fin (((((HB1.out.setCell (by dsimp only; omega) _).setCell (by dsimp only; omega) _).setCell (by dsimp only; omega) _).setCell (by dsimp only; omega) _)) _ _ _ _⟩
  · replace hst : startS (l, ps, is, rs) 0 = 0 := by simpa using hst
    have hf := (start_zero hst).1
    have hn := (start_zero hst).2
    have HS : Hid (∀ W, Below w.heap.size w W → Calls Tryd.prog 31 #[pegV l A1 n1 c1 A2 n2 c2 A3 n3 c3, .int .i64 0] W (fun e w' => ∃ A1' c1' A2' c2' A3' c3', e = .returned (.tuple #[pegV l A1' n1 c1' A2' n2 c2' A3' n3 c3', .nilIface]) ∧ Own3 w' W.heap.size A1' n1 c1' ps A2' n2 c2' is A3' n3 c3' rs ∧ Below W.heap.size W w')) := aside (fun W hW =>
      start_ok l ps is rs A1 n1 c1 A2 n2 c2 A3 n3 c3 0 W ((FSl.below h1 hW).more hW.size) ((FSl.below h2 hW).more hW.size) ((FSl.below h3 hW).more hW.size) k1 k2 k3 m1 m3 hst)
    have hlen1 : n1 ≤ 60 := by have h := FSl.len encP_len (by decide) h1; have h' := hf.lp; dsimp only at h'; omega
    have hlen2 : n2 ≤ 60 := by have h := FSl.len encI_len (by decide) h2; have h' := hf.li; dsimp only at h'; omega
    have hlen3 : n3 ≤ 60 := by have h := FSl.len encR_len (by decide) h3; have h' := hf.lr; dsimp only at h'; omega
    have HF := aside hf
    have HL : Hid (ps.length = n1 ∧ is.length = n2 ∧ rs.length = n3) := aside ⟨FSl.len encP_len (by decide) h1, FSl.len encI_len (by decide) h2, FSl.len encR_len (by decide) h3⟩
    clear h1 h2 h3 k1 k2 k3 m1 m3
    unfold pegV at HS
    unfold pegV
    cases hh : hasB keyR x rs with
    | false =>
      have hq : payQ (l, ps, is, rs) x = 5 := by unfold payQ; rw [if_neg (by rw [hst]; decide), if_pos hh]
      rw [hq, actOut_no (by decide), errP_no (by decide)]
      have HH := aside hh
      clear hq hst hf hn hh
      go_enter Tryd.func18, Tryd.ntmps18
      go_wp2_with (first
        | (go_at_call 31; refine (HS.out _ HB0.out).mono ?_; rintro e w1 ⟨A4, c4, A5, c5, A6, c6, rfl, ho, hb⟩; have p1 := keep4 hb (by rw [HZ.out]; omega) HX1.out; have p2 := keep4 hb (by rw [HZ.out]; omega) HX2.out; have PB1 := aside (PegBox.init (l := l) p1.1 p2.1 (by rw [HZ.out] at ho; exact ho) (HB0.out.trans (hb.mono (by rw [HZ.out]; omega))) (by have := hb.size; rw [HZ.out] at this; exact this)); obtain ⟨-, ⟨e0, e1, e2, e3⟩, f0, f1, f2, f3⟩ := p1; clear ho hb p2)
        | (go_at_call 36; refine (PB1.out.calls_ret HF.out.ar (by omega) x HH.out).mono ?_; rintro e w3 ⟨rfl, hpb⟩; have PB3 := aside hpb; have p3 := PB3.out.cells; obtain ⟨⟨e0, e1, e2, e3⟩, f0, f1, f2, f3⟩ := p3; have p4 := PB3.out.rescells; obtain ⟨⟨u0, u1, u2, u3⟩, g0, g1, g2, g3⟩ := p4; clear hpb))
      (try simp only [Exit.inBlock, Exit.then])
      refine bodyPost_ret (v := .tuple #[.agg #[.int .i64 0, .slice none 0 0, .slice none 0 0, .slice none 0 0], .iface 28 (.int .i64 5)]) (by simp only [results, Tryd.results18]; go_simp) rfl ?_
      exact ⟨zeroPeg, rfl, bad_fin PB3.out.below _ _ _ _⟩
    | true =>
      have hlt := has_lt hh
      have h30 : 0 < n3 := by have := HL.out.2.2; omega
      have HL1 : Hid (lbN keyR x rs < n3) := aside (by have := HL.out.2.2; omega)
      have hL2 : ((lbN keyR x rs : Nat) : Int) < (n3 : Int) := by have := HL1.out; omega
      obtain ⟨⟨xi, xa, xp⟩, hx⟩ : ∃ y, gotR x rs = y := ⟨_, rfl⟩
      have HX : Hid (rs.getD (lbN keyR x rs) (0, 0, false) = (xi, xa, xp)) := aside hx
      have hxm := hf.am _ (getD_mem (0, 0, false) hlt)
      dsimp only at hxm
      rw [HX.out] at hxm
      have hbig := Fit.big hf
      dsimp only at hbig hxm
      have hwl : IntKind.i64.wrap (l - xa) = l - xa := by rw [IntKind.wrap_i64]; omega
      have HH := aside hh
      cases xp with
      | true =>
        have hq : payQ (l, ps, is, rs) x = 6 := by unfold payQ; rw [if_neg (by rw [hst]; decide), if_neg (by rw [hh]; decide), if_pos (by rw [hx])]
        rw [hq, actOut_no (by decide), errP_no (by decide)]
        clear hq hst hf hn hh hlt hx hxm hbig
        go_enter Tryd.func18, Tryd.ntmps18
        go_wp2_with (first
          | (go_at_call 31; refine (HS.out _ HB0.out).mono ?_; rintro e w1 ⟨A4, c4, A5, c5, A6, c6, rfl, ho, hb⟩; obtain ⟨g, -, rfl, -⟩ := own_open ho.r (.inl h30); have p1 := keep4 hb (by rw [HZ.out]; omega) HX1.out; have p2 := keep4 hb (by rw [HZ.out]; omega) HX2.out; have PB1 := aside (PegBox.init (l := l) p1.1 p2.1 (by rw [HZ.out] at ho; exact ho) (HB0.out.trans (hb.mono (by rw [HZ.out]; omega))) (by have := hb.size; rw [HZ.out] at this; exact this)); obtain ⟨-, ⟨e0, e1, e2, e3⟩, f0, f1, f2, f3⟩ := p1; clear ho hb p2)
          | (go_at_call 36; refine (PB1.out.calls_ret HF.out.ar (by omega) x HH.out).mono ?_; rintro e w3 ⟨rfl, hpb⟩; have PB3 := aside hpb; have p3 := PB3.out.cells; obtain ⟨⟨e0, e1, e2, e3⟩, f0, f1, f2, f3⟩ := p3; have p4 := PB3.out.rescells; obtain ⟨⟨u0, u1, u2, u3⟩, g0, g1, g2, g3⟩ := p4; have p5 := PB3.out.got HL1.out HX.out; obtain ⟨y1, y2, y3, y4, y5, y6⟩ := p5; have y7 : ¬ w.heap.size = g := (by omega); have y8 : ¬ w.heap.size + 1 = g := (by omega); have y9 : ¬ g = w.heap.size := (by omega); clear y4; clear hpb))
        (try simp only [Exit.inBlock, Exit.then])
        refine bodyPost_ret (v := .tuple #[.agg #[.int .i64 0, .slice none 0 0, .slice none 0 0, .slice none 0 0], .iface 28 (.int .i64 6)]) (by simp only [results, Tryd.results18]; go_simp) rfl ?_
        exact ⟨zeroPeg, rfl, bad_fin PB3.out.below _ _ _ _⟩
      | false =>
        have hq : payQ (l, ps, is, rs) x = 0 := by unfold payQ; rw [if_neg (by rw [hst]; decide), if_neg (by rw [hh]; decide), if_neg (by rw [hx]; exact Bool.false_ne_true)]
        have hr : payR (l, ps, is, rs) x = (l - xa, ps, is, rs.set (lbN keyR x rs) (xi, xa, true)) := by unfold payR; dsimp only; rw [hx]
        rw [hq, hr, actOut_ok, show errP 0 = Value.nilIface from rfl]
        clear hq hst hf hn hh hlt hx hxm hbig hr
        go_enter Tryd.func18, Tryd.ntmps18
        go_wp2_with (first
          | (go_at_call 31; refine (HS.out _ HB0.out).mono ?_; rintro e w1 ⟨A4, c4, A5, c5, A6, c6, rfl, ho, hb⟩; obtain ⟨g, -, rfl, -⟩ := own_open ho.r (.inl h30); have p1 := keep4 hb (by rw [HZ.out]; omega) HX1.out; have p2 := keep4 hb (by rw [HZ.out]; omega) HX2.out; have PB1 := aside (PegBox.init (l := l) p1.1 p2.1 (by rw [HZ.out] at ho; exact ho) (HB0.out.trans (hb.mono (by rw [HZ.out]; omega))) (by have := hb.size; rw [HZ.out] at this; exact this)); obtain ⟨-, ⟨e0, e1, e2, e3⟩, f0, f1, f2, f3⟩ := p1; clear ho hb p2)
          | (go_at_call 36; refine (PB1.out.calls_ret HF.out.ar (by omega) x HH.out).mono ?_; rintro e w3 ⟨rfl, hpb⟩; have PB3 := aside hpb; have p3 := PB3.out.cells; obtain ⟨⟨e0, e1, e2, e3⟩, f0, f1, f2, f3⟩ := p3; have p4 := PB3.out.rescells; obtain ⟨⟨u0, u1, u2, u3⟩, g0, g1, g2, g3⟩ := p4; have p5 := PB3.out.got HL1.out HX.out; obtain ⟨y1, y2, y3, y4, y5, y6⟩ := p5; have y7 : ¬ w.heap.size = g := (by omega); have y8 : ¬ w.heap.size + 1 = g := (by omega); have y9 : ¬ g = w.heap.size := (by omega); clear y4; clear hpb))
        have hrl := HL.out.2.2
        have hlt2 := HL1.out
        have hgx : (rs.set (lbN keyR x rs) (xi, xa, true)).getD (lbN keyR x rs) (0, 0, false) = (xi, xa, true) := by
          rw [List.getD_eq_getElem?_getD, List.getElem?_set_self (by omega)]
          rfl
        have PB4 := aside (PB3.out.paid HL1.out HX.out hrl)
        generalize w3.setCell ⟨g, lbN keyR x rs * 3 + 2, none⟩ (.bool true) = w4 at PB4 ⊢
        have p3 := PB4.out.cells
        obtain ⟨⟨e0, e1, e2, e3⟩, f0, f1, f2, f3⟩ := p3
        have p4 := PB4.out.rescells
        obtain ⟨⟨u0, u1, u2, u3⟩, g0, g1, g2, g3⟩ := p4
        have p5 := PB4.out.got HL1.out hgx
        obtain ⟨y1, -⟩ := p5
        have PB5 := aside (PB4.out.drew.lock (l - xa))
        clear hrl hlt2 hgx
        go_region
        all_goals go_wp2
        all_goals (try simp only [Exit.inBlock, Exit.then])
        all_goals refine bodyPost_ret (v := .tuple #[.agg #[.int .i64 (l - xa), .slice A4 n1 c4, .slice A5 n2 c5, .slice (some ⟨g, 0, none⟩) n3 c6], .nilIface]) (by simp only [results, Tryd.results18]; go_simp) rfl ?_
        all_goals exact ⟨pegV (l - xa) A4 n1 c4 A5 n2 c5 (some ⟨g, 0, none⟩) n3 c6, rfl, PB5.out.fin _ _ _ _⟩

theorem check_at (s : PegS) (v : Value) {N : Nat} (w : World) (h : PegAt N w v s) :
    Calls Tryd.prog 7 #[v] w (fun e w' => e = .returned (errP (checkS s)) ∧ Below w.heap.size w w') := by
  obtain ⟨A1, n1, c1, A2, n2, c2, A3, n3, c3, rfl, h1, h2, h3, k1, k2, k3, m1, m3, -⟩ := h
  exact check_any s.1 s.2.1 s.2.2.1 s.2.2.2 A1 n1 c1 A2 n2 c2 A3 n3 c3 w h1 h2 h3 k1 k2 k3 m1 m3
/-- What somebody has, of a peg that is as it must be. -/
def hasV (s : PegS) (t : Int) : Int := if checkS s = 0 then amtS t s.2.1 else 0
set_option maxHeartbeats 8000000 in
set_option maxRecDepth 100000 in
theorem has_any (s : PegS) (v : Value) (t : Int) {N : Nat} (w : World) (h : PegAt N w v s) :
    Calls Tryd.prog 9 #[v, .int .i64 t] w (fun e w' => e = .returned (.tuple #[.int .i64 (hasV s t), errP (checkS s)]) ∧ Below w.heap.size w w') := by
  have hc := check_at s v (N := N)
  obtain ⟨A1, n1, c1, A2, n2, c2, A3, n3, c3, rfl, h1, h2, h3, hrest⟩ := id h
  obtain ⟨l, ps, is, rs⟩ := s
  dsimp only at h1 h2 h3
  have HA := aside h
  have HB0 : Hid (Below w.heap.size w (w.alloc (.cells #[.int .i64 l, .slice A1 n1 c1, .slice A2 n2 c2, .slice A3 n3 c3] 26))) := aside (by exact (Below.refl _ _).alloc (Nat.le_refl _) _)
  have HX : Hid ((w.alloc (.cells #[.int .i64 l, .slice A1 n1 c1, .slice A2 n2 c2, .slice A3 n3 c3] 26)).heap[w.heap.size]? = some (.cells #[.int .i64 l, .slice A1 n1 c1, .slice A2 n2 c2, .slice A3 n3 c3] 26 (0, 0))) := aside (by exact heap_alloc_new _ _)
  have HZ : Hid (w.heap.size < (w.alloc (.cells #[.int .i64 l, .slice A1 n1 c1, .slice A2 n2 c2, .slice A3 n3 c3] 26)).heap.size) := aside (by simp)
  have HC := aside (fun W hW => hc W (PegAt.below HA.out hW))
  have HAm : Hid (Asc keyP ps → n1 ≤ 1000 → ∀ W, Below w.heap.size w W → Calls Tryd.prog 28 #[pegV l A1 n1 c1 A2 n2 c2 A3 n3 c3, .int .i64 t] W (fun e w' => e = .returned (.int .i64 (amtS t ps)) ∧ Below W.heap.size W w')) := aside (fun ha hn W hW => by
    rw [← amtP_eq ha]
    exact amount_any ps ha l A1 n1 c1 A2 n2 c2 A3 n3 c3 t W ((FSl.below h1 hW).more hW.size) hn)
  have hl1 := FSl.len encP_len (by decide) h1
  clear hc h h1 h2 h3 hrest
  unfold hasV
  by_cases hq : checkS (l, ps, is, rs) = 0
  · have hf : Fit l ps is rs := pegQ_zero.1 hq
    have HAs := aside hf.ap
    have hn1 : n1 ≤ 1000 := by have := hf.lp; omega
    rw [if_pos hq, hq, show errP 0 = Value.nilIface from rfl]
    rw [hq, show errP 0 = Value.nilIface from rfl] at HC
    clear hq hf hl1
    unfold pegV at HC HAm
    unfold pegV
    go_enter Tryd.func9, Tryd.ntmps9
    go_wp2_with (first
      | (go_at_call 7; refine (HC.out _ HB0.out).mono ?_; rintro e w1 ⟨rfl, hb⟩; have HB1 := aside (HB0.out.trans (hb.mono HB0.out.size)); have p1 := keep4 hb HZ.out HX.out; obtain ⟨-, ⟨e0, e1, e2, e3⟩, -⟩ := p1; clear hb)
      | (go_at_call 28; refine (HAm.out HAs.out hn1 _ HB1.out).mono ?_; rintro e w2 ⟨rfl, hb⟩; have HB2 := aside (HB1.out.trans (hb.mono HB1.out.size)); clear hb))
    (try simp only [Exit.inBlock, Exit.then])
    refine bodyPost_ret (v := .tuple #[.int .i64 (amtS t ps), .nilIface]) (by simp only [results, Tryd.results9]; go_simp) rfl ?_
    exact ⟨rfl, HB2.out⟩
  · rw [if_neg hq, errP_no hq]
    rw [errP_no hq] at HC
    generalize checkS (l, ps, is, rs) = q at HC ⊢
    clear hq hl1
    unfold pegV at HC
    unfold pegV
    go_enter Tryd.func9, Tryd.ntmps9
    go_wp2_with (go_at_call 7; refine (HC.out _ HB0.out).mono ?_; rintro e w1 ⟨rfl, hb⟩; have HB1 := aside (HB0.out.trans (hb.mono HB0.out.size)); clear hb)
    (try simp only [Exit.inBlock, Exit.then])
    refine bodyPost_ret (v := .tuple #[.int .i64 0, .iface 28 (.int .i64 q)]) (by simp only [results, Tryd.results9]; go_simp) rfl ?_
    exact ⟨rfl, HB1.out⟩
end Go.Proofs.YtcmlhopidohimaaDoor
