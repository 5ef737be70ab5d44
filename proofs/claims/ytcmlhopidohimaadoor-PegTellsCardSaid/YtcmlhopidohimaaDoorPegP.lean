/- What goes back, is paid, and is there, of a peg: the walks. Conditions: named in each theorem. -/
import Derived.Test.YtcmlhopidohimaaDoorPegM
namespace Go.Proofs.YtcmlhopidohimaaDoor
open Go.RowKit Go.ChangeShapes Go.WideShapes Go.ChangeAt

set_option maxHeartbeats 16000000 in
set_option maxRecDepth 100000 in
theorem out_any (s : PegS) (v : Value) (x t n : Int) {N : Nat} (w : World) (h : PegAt N w v s) :
    Calls Tryd.prog 16 #[v, .int .i64 x, .int .i64 t, .int .i64 n] w (fun e w' => ∃ v', e = .returned (.tuple #[v', errP (outQ s x t n)]) ∧ PegAt w.heap.size w' v' (actOut (outQ s x t n) (outR s x t n)) ∧ Below w.heap.size w w') := by
  obtain ⟨A1, n1, c1, A2, n2, c2, A3, n3, c3, rfl, h1, h2, h3, k1, k2, k3, m1, m3, -⟩ := h
  obtain ⟨l, ps, is, rs⟩ := s
  dsimp only at h1 h2 h3
  obtain ⟨x1, x2, xb, xs⟩ := two_new w #[.int .i64 l, .slice A1 n1 c1, .slice A2 n2 c2, .slice A3 n3 c3] #[.int .i64 0, .slice none 0 0, .slice none 0 0, .slice none 0 0] 26 26
  have HX1 := aside x1
  have HX2 := aside x2
  have HB0 := aside xb
  have HZ := aside xs
  clear x1 x2 xb xs
  by_cases hst : startS (l, ps, is, rs) n ≠ 0
  · have hq : outQ (l, ps, is, rs) x t n = startS (l, ps, is, rs) n := by unfold outQ; rw [if_pos hst]
    rw [hq, actOut_no hst]
    have HS : Hid (∀ W, Below w.heap.size w W → Calls Tryd.prog 31 #[pegV l A1 n1 c1 A2 n2 c2 A3 n3 c3, .int .i64 n] W (fun e w' => e = .returned (.tuple #[zeroPeg, .iface 28 (.int .i64 (startS (l, ps, is, rs) n))]) ∧ Below W.heap.size W w')) := aside (fun W hW => by
      have h := start_bad l ps is rs A1 n1 c1 A2 n2 c2 A3 n3 c3 n W ((FSl.below h1 hW).more hW.size) ((FSl.below h2 hW).more hW.size) ((FSl.below h3 hW).more hW.size) k1 k2 k3 m1 m3 hst
      rw [errP_no hst] at h
      exact h)
    rw [errP_no hst]
    generalize startS (l, ps, is, rs) n = q at HS ⊢
    clear hq hst h1 h2 h3
    unfold pegV zeroPeg at HS
    unfold pegV at HS
    unfold pegV
    go_enter Tryd.func16, Tryd.ntmps16
    go_wp2_with (go_at_call 31; refine (HS.out _ HB0.out).mono ?_; rintro e w1 ⟨rfl, hb⟩; have p1 := keep4 hb (by rw [HZ.out]; omega) HX1.out; have p2 := keep4 hb (by rw [HZ.out]; omega) HX2.out; obtain ⟨-, ⟨e0, e1, e2, e3⟩, f0, f1, f2, f3⟩ := p1; obtain ⟨-, ⟨u0, u1, u2, u3⟩, g0, g1, g2, g3⟩ := p2; have HB1 := aside (HB0.out.trans (hb.mono (by rw [HZ.out]; omega))); clear hb)
    (try simp only [Exit.inBlock, Exit.then])
    refine bodyPost_ret (v := .tuple #[.agg #[.int .i64 0, .slice none 0 0, .slice none 0 0, .slice none 0 0], .iface 28 (.int .i64 q)]) (by simp only [results, Tryd.results16]; go_simp) rfl ?_
    exact ⟨zeroPeg, rfl, bad_fin (((((HB1.out.setCell (by dsimp only; omega) _).setCell (by dsimp only; omega) _).setCell (by dsimp only; omega) _).setCell (by dsimp only; omega) _)) _ _ _ _⟩
  · replace hst : startS (l, ps, is, rs) n = 0 := by simpa using hst
    have hf := (start_zero hst).1
    have hn := (start_zero hst).2
    have HS : Hid (∀ W, Below w.heap.size w W → Calls Tryd.prog 31 #[pegV l A1 n1 c1 A2 n2 c2 A3 n3 c3, .int .i64 n] W (fun e w' => ∃ A1' c1' A2' c2' A3' c3', e = .returned (.tuple #[pegV l A1' n1 c1' A2' n2 c2' A3' n3 c3', .nilIface]) ∧ Own3 w' W.heap.size A1' n1 c1' ps A2' n2 c2' is A3' n3 c3' rs ∧ Below W.heap.size W w')) := aside (fun W hW =>
      start_ok l ps is rs A1 n1 c1 A2 n2 c2 A3 n3 c3 n W ((FSl.below h1 hW).more hW.size) ((FSl.below h2 hW).more hW.size) ((FSl.below h3 hW).more hW.size) k1 k2 k3 m1 m3 hst)
    have hlen1 : n1 ≤ 60 := by have h := FSl.len encP_len (by decide) h1; have h' := hf.lp; dsimp only at h'; omega
    have hlen2 : n2 ≤ 60 := by have h := FSl.len encI_len (by decide) h2; have h' := hf.li; dsimp only at h'; omega
    have hlen3 : n3 ≤ 60 := by have h := FSl.len encR_len (by decide) h3; have h' := hf.lr; dsimp only at h'; omega
    have HF := aside hf
    have HL : Hid (ps.length = n1 ∧ is.length = n2 ∧ rs.length = n3) := aside ⟨FSl.len encP_len (by decide) h1, FSl.len encI_len (by decide) h2, FSl.len encR_len (by decide) h3⟩
    clear h1 h2 h3 k1 k2 k3 m1 m3
    unfold pegV at HS
    unfold pegV
    by_cases ha : amtS t ps < n
    · have hq : outQ (l, ps, is, rs) x t n = 9 := by unfold outQ; rw [if_neg (by rw [hst]; decide), if_pos ha]
      rw [hq, actOut_no (by decide), errP_no (by decide)]
      clear hq hst hf hn
      go_enter Tryd.func16, Tryd.ntmps16
      go_wp2_with (first
        | (go_at_call 31; refine (HS.out _ HB0.out).mono ?_; rintro e w1 ⟨A4, c4, A5, c5, A6, c6, rfl, ho, hb⟩; have p1 := keep4 hb (by rw [HZ.out]; omega) HX1.out; have p2 := keep4 hb (by rw [HZ.out]; omega) HX2.out; have PB1 := aside (PegBox.init (l := l) p1.1 p2.1 (by rw [HZ.out] at ho; exact ho) (HB0.out.trans (hb.mono (by rw [HZ.out]; omega))) (by have := hb.size; rw [HZ.out] at this; exact this)); obtain ⟨-, ⟨e0, e1, e2, e3⟩, f0, f1, f2, f3⟩ := p1; clear ho hb p2)
        | (go_at_call 28; refine (PB1.out.calls_amount HF.out.ap (by omega) t).mono ?_; rintro e w2 ⟨rfl, hpb⟩; have PB2 := aside hpb; have p3 := PB2.out.cells; obtain ⟨⟨e0, e1, e2, e3⟩, f0, f1, f2, f3⟩ := p3; have p4 := PB2.out.rescells; obtain ⟨⟨u0, u1, u2, u3⟩, g0, g1, g2, g3⟩ := p4; clear hpb))
      (try simp only [Exit.inBlock, Exit.then])
      refine bodyPost_ret (v := .tuple #[.agg #[.int .i64 0, .slice none 0 0, .slice none 0 0, .slice none 0 0], .iface 28 (.int .i64 9)]) (by simp only [results, Tryd.results16]; go_simp) rfl ?_
      exact ⟨zeroPeg, rfl, bad_fin PB2.out.below _ _ _ _⟩
    · have ha' : (amtS t ps < n) = False := eq_false ha
      cases hh : hasB keyR x rs with
      | true =>
        have hq : outQ (l, ps, is, rs) x t n = 6 := by unfold outQ; rw [if_neg (by rw [hst]; decide), if_neg ha, if_pos hh]
        rw [hq, actOut_no (by decide), errP_no (by decide)]
        have HH := aside hh
        clear hq hst hf hn ha hh
        go_enter Tryd.func16, Tryd.ntmps16
        go_wp2_with (first
          | (go_at_call 31; refine (HS.out _ HB0.out).mono ?_; rintro e w1 ⟨A4, c4, A5, c5, A6, c6, rfl, ho, hb⟩; have p1 := keep4 hb (by rw [HZ.out]; omega) HX1.out; have p2 := keep4 hb (by rw [HZ.out]; omega) HX2.out; have PB1 := aside (PegBox.init (l := l) p1.1 p2.1 (by rw [HZ.out] at ho; exact ho) (HB0.out.trans (hb.mono (by rw [HZ.out]; omega))) (by have := hb.size; rw [HZ.out] at this; exact this)); obtain ⟨-, ⟨e0, e1, e2, e3⟩, f0, f1, f2, f3⟩ := p1; clear ho hb p2)
          | (go_at_call 28; refine (PB1.out.calls_amount HF.out.ap (by omega) t).mono ?_; rintro e w2 ⟨rfl, hpb⟩; have PB2 := aside hpb; have p3 := PB2.out.cells; obtain ⟨⟨e0, e1, e2, e3⟩, f0, f1, f2, f3⟩ := p3; have p4 := PB2.out.rescells; obtain ⟨⟨u0, u1, u2, u3⟩, g0, g1, g2, g3⟩ := p4; clear hpb)
          | (go_at_call 36; refine (PB2.out.calls_ret HF.out.ar (by omega) x HH.out).mono ?_; rintro e w3 ⟨rfl, hpb⟩; have PB3 := aside hpb; have p3 := PB3.out.cells; obtain ⟨⟨e0, e1, e2, e3⟩, f0, f1, f2, f3⟩ := p3; have p4 := PB3.out.rescells; obtain ⟨⟨u0, u1, u2, u3⟩, g0, g1, g2, g3⟩ := p4; clear hpb))
        (try simp only [Exit.inBlock, Exit.then])
        refine bodyPost_ret (v := .tuple #[.agg #[.int .i64 0, .slice none 0 0, .slice none 0 0, .slice none 0 0], .iface 28 (.int .i64 6)]) (by simp only [results, Tryd.results16]; go_simp) rfl ?_
        exact ⟨zeroPeg, rfl, bad_fin PB3.out.below _ _ _ _⟩
      | false =>
        have hq : outQ (l, ps, is, rs) x t n = if 60 < rs.length + 1 then 4 else 0 := by unfold outQ; rw [if_neg (by rw [hst]; decide), if_neg ha, if_neg (by rw [hh]; decide)]
        rw [HL.out.2.2] at hq
        have HH := aside hh
        have hamt := Fit.amt_le hf t
        dsimp only at hamt
        have hwn : IntKind.i64.wrap (-n) = -n := by rw [IntKind.wrap_i64]; omega
        have HAmt : Hid (-9223372036854775808 ≤ amtS t ps + -n ∧ amtS t ps + -n ≤ 9223372036854775807) := aside (by omega)
        obtain ⟨Q, hQ⟩ : ∃ Q, Q = outQ (l, ps, is, rs) x t n := ⟨_, rfl⟩
        rw [← hQ] at hq ⊢
        have HQ := aside hq
        clear hst hf hamt hn hQ ha hq hh
        go_enter Tryd.func16, Tryd.ntmps16
        go_upto_region 11 with (first
          | (go_at_call 31; refine (HS.out _ HB0.out).mono ?_; rintro e w1 ⟨A4, c4, A5, c5, A6, c6, rfl, ho, hb⟩; have p1 := keep4 hb (by rw [HZ.out]; omega) HX1.out; have p2 := keep4 hb (by rw [HZ.out]; omega) HX2.out; have PB1 := aside (PegBox.init (l := l) p1.1 p2.1 (by rw [HZ.out] at ho; exact ho) (HB0.out.trans (hb.mono (by rw [HZ.out]; omega))) (by have := hb.size; rw [HZ.out] at this; exact this)); obtain ⟨-, ⟨e0, e1, e2, e3⟩, f0, f1, f2, f3⟩ := p1; clear ho hb p2)
          | (go_at_call 28; refine (PB1.out.calls_amount HF.out.ap (by omega) t).mono ?_; rintro e w2 ⟨rfl, hpb⟩; have PB2 := aside hpb; have p3 := PB2.out.cells; obtain ⟨⟨e0, e1, e2, e3⟩, f0, f1, f2, f3⟩ := p3; have p4 := PB2.out.rescells; obtain ⟨⟨u0, u1, u2, u3⟩, g0, g1, g2, g3⟩ := p4; clear hpb)
          | (go_at_call 36; refine (PB2.out.calls_ret HF.out.ar (by omega) x HH.out).mono ?_; rintro e w3 ⟨rfl, hpb⟩; have PB3 := aside hpb; have p3 := PB3.out.cells; obtain ⟨⟨e0, e1, e2, e3⟩, f0, f1, f2, f3⟩ := p3; have p4 := PB3.out.rescells; obtain ⟨⟨u0, u1, u2, u3⟩, g0, g1, g2, g3⟩ := p4; clear hpb)
          | (go_at_call 34; refine (PB3.out.calls_more HF.out.ap (by omega) t (-n) HAmt.out).mono ?_; rintro e w4 ⟨rfl, A7, n7, c7, hpb⟩; have hpb' : PegBox w w4 (l, setP t (amtS t ps - n) ps, is, rs) A7 n7 c7 A5 n2 c5 A6 n3 c6 := (by rw [Int.sub_eq_add_neg]; exact hpb); have PB4 := aside hpb'; have p3 := PB4.out.cells; obtain ⟨⟨e0, e1, e2, e3⟩, f0, f1, f2, f3⟩ := p3; clear hpb hpb')
          | (go_at_call 37; refine (PB4.out.calls_insR HF.out.ar (by omega) x n HH.out).mono ?_; rintro e w5 ⟨A8, c8, rfl, hpb, hbx⟩; have PB5 := aside hpb; have p3 := box_cells hbx; obtain ⟨⟨e0, e1, e2, e3⟩, f0, f1, f2, f3⟩ := p3; clear hpb hbx))
        have p3 := PB5.out.cells
        obtain ⟨⟨e0, e1, e2, e3⟩, f0, f1, f2, f3⟩ := p3
        have p4 := PB5.out.rescells
        obtain ⟨⟨u0, u1, u2, u3⟩, g0, g1, g2, g3⟩ := p4
        by_cases b3 : 60 < n3 + 1
        · have b3' : (60 : Int) < (n3 : Int) + 1 := by omega
          have hq : Hid (Q = 4) := aside (by rw [HQ.out, if_pos b3])
          clear b3
          go_wp2
          (try simp only [Exit.inBlock, Exit.then])
          refine bodyPost_ret (v := .tuple #[.agg #[.int .i64 0, .slice none 0 0, .slice none 0 0, .slice none 0 0], .iface 28 (.int .i64 4)]) (by simp only [results, Tryd.results16]; go_simp) rfl ?_
          rw [hq.out, actOut_no (by decide), errP_no (by decide)]
          exact ⟨zeroPeg, rfl, bad_fin PB5.out.below _ _ _ _⟩
        have b3' : ((60 : Int) < (n3 : Int) + 1) = False := by simp only [eq_iff_iff, iff_false]; omega
        have hq : Hid (Q = 0) := aside (by rw [HQ.out, if_neg (by omega)])
        clear b3
        go_wp2
        (try simp only [Exit.inBlock, Exit.then])
        refine bodyPost_ret (v := .tuple #[.agg #[.int .i64 l, .slice A7 n7 c7, .slice A5 n2 c5, .slice A8 (n3 + 1) c8], .nilIface]) (by simp only [results, Tryd.results16]; go_simp) rfl ?_
        rw [hq.out, actOut_ok]
        exact ⟨pegV l A7 n7 c7 A5 n2 c5 A8 (n3 + 1) c8, rfl, PB5.out.fin _ _ _ _⟩
end Go.Proofs.YtcmlhopidohimaaDoor
