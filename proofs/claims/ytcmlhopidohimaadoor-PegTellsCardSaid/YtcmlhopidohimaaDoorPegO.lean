/- What somebody paid somebody, of a peg: the walk. Conditions: named in each theorem. -/
import Derived.Test.YtcmlhopidohimaaDoorPegM
namespace Go.Proofs.YtcmlhopidohimaaDoor
open Go.RowKit Go.ChangeShapes Go.WideShapes Go.ChangeAt

set_option maxHeartbeats 16000000 in
set_option maxRecDepth 100000 in
theorem move_any (s : PegS) (v : Value) (f t n : Int) {N : Nat} (w : World) (h : PegAt N w v s) :
    Calls Tryd.prog 14 #[v, .int .i64 f, .int .i64 t, .int .i64 n] w (fun e w' => ∃ v', e = .returned (.tuple #[v', errP (moveQ s f t n)]) ∧ PegAt w.heap.size w' v' (actOut (moveQ s f t n) (moveR s f t n)) ∧ Below w.heap.size w w') := by
  obtain ⟨A1, n1, c1, A2, n2, c2, A3, n3, c3, rfl, h1, h2, h3, k1, k2, k3, m1, m3, -⟩ := h
  obtain ⟨l, ps, is, rs⟩ := s
  dsimp only at h1 h2 h3
  obtain ⟨x1, x2, xb, xs⟩ := two_new w #[.int .i64 l, .slice A1 n1 c1, .slice A2 n2 c2, .slice A3 n3 c3] #[.int .i64 0, .slice none 0 0, .slice none 0 0, .slice none 0 0] 26 26
  have HX1 := aside x1
  have HX2 := aside x2
  have HB0 := aside xb
  have HZ := aside xs
  clear x1 x2 xb xs
  by_cases hst : startS (l, ps, is, rs) n ≠ 0
  · have hq : moveQ (l, ps, is, rs) f t n = startS (l, ps, is, rs) n := by unfold moveQ; rw [if_pos hst]
    rw [hq, actOut_no hst]
    have HS : Hid (∀ W, Below w.heap.size w W → Calls Tryd.prog 31 #[pegV l A1 n1 c1 A2 n2 c2 A3 n3 c3, .int .i64 n] W (fun e w' => e = .returned (.tuple #[zeroPeg, .iface 28 (.int .i64 (startS (l, ps, is, rs) n))]) ∧ Below W.heap.size W w')) := aside (fun W hW => by
      have h := start_bad l ps is rs A1 n1 c1 A2 n2 c2 A3 n3 c3 n W ((FSl.below h1 hW).more hW.size) ((FSl.below h2 hW).more hW.size) ((FSl.below h3 hW).more hW.size) k1 k2 k3 m1 m3 hst
      rw [errP_no hst] at h
      exact h)
    rw [errP_no hst]
    generalize startS (l, ps, is, rs) n = q at HS ⊢
    clear hq hst h1 h2 h3
    unfold pegV zeroPeg at HS
    unfold pegV at HS
    unfold pegV
    go_enter Tryd.func14, Tryd.ntmps14
    go_wp2_with (go_at_call 31; refine (HS.out _ HB0.out).mono ?_; rintro e w1 ⟨rfl, hb⟩; have p1 := keep4 hb (by rw [HZ.out]; omega) HX1.out; have p2 := keep4 hb (by rw [HZ.out]; omega) HX2.out; obtain ⟨-, ⟨e0, e1, e2, e3⟩, f0, f1, f2, f3⟩ := p1; obtain ⟨-, ⟨u0, u1, u2, u3⟩, g0, g1, g2, g3⟩ := p2; have HB1 := aside (HB0.out.trans (hb.mono (by rw [HZ.out]; omega))); clear hb)
    (try simp only [Exit.inBlock, Exit.then])
    refine bodyPost_ret (v := .tuple #[.agg #[.int .i64 0, .slice none 0 0, .slice none 0 0, .slice none 0 0], .iface 28 (.int .i64 q)]) (by simp only [results, Tryd.results14]; go_simp) rfl ?_
    exact ⟨zeroPeg, rfl, bad_fin (((((HB1.out.setCell (by dsimp only; omega) _).setCell (by dsimp only; omega) _).setCell (by dsimp only; omega) _).setCell (by dsimp only; omega) _)) _ _ _ _⟩
  · replace hst : startS (l, ps, is, rs) n = 0 := by simpa using hst
    have hf := (start_zero hst).1
    have hn := (start_zero hst).2
    have HS : Hid (∀ W, Below w.heap.size w W → Calls Tryd.prog 31 #[pegV l A1 n1 c1 A2 n2 c2 A3 n3 c3, .int .i64 n] W (fun e w' => ∃ A1' c1' A2' c2' A3' c3', e = .returned (.tuple #[pegV l A1' n1 c1' A2' n2 c2' A3' n3 c3', .nilIface]) ∧ Own3 w' W.heap.size A1' n1 c1' ps A2' n2 c2' is A3' n3 c3' rs ∧ Below W.heap.size W w')) := aside (fun W hW =>
      start_ok l ps is rs A1 n1 c1 A2 n2 c2 A3 n3 c3 n W ((FSl.below h1 hW).more hW.size) ((FSl.below h2 hW).more hW.size) ((FSl.below h3 hW).more hW.size) k1 k2 k3 m1 m3 hst)
    have hlen1 : n1 ≤ 60 := by have h := FSl.len encP_len (by decide) h1; have h' := hf.lp; dsimp only at h'; omega
    have hlen2 : n2 ≤ 60 := by have h := FSl.len encI_len (by decide) h2; have h' := hf.li; dsimp only at h'; omega
    have hlen3 : n3 ≤ 60 := by have h := FSl.len encR_len (by decide) h3; have h' := hf.lr; dsimp only at h'; omega
    have HF := aside hf
    have HL : Hid (ps.length = n1 ∧ is.length = n2 ∧ rs.length = n3) := aside ⟨FSl.len encP_len (by decide) h1, FSl.len encI_len (by decide) h2, FSl.len encR_len (by decide) h3⟩
    clear h1 h2 h3 k1 k2 k3 m1 m3
    unfold pegV at HS
    unfold pegV
    by_cases ha : amtS f ps < n
    · have hq : moveQ (l, ps, is, rs) f t n = 9 := by unfold moveQ; rw [if_neg (by rw [hst]; decide), if_pos ha]
      rw [hq, actOut_no (by decide), errP_no (by decide)]
      clear hq hst hf hn
      go_enter Tryd.func14, Tryd.ntmps14
      go_wp2_with (first
        | (go_at_call 31; refine (HS.out _ HB0.out).mono ?_; rintro e w1 ⟨A4, c4, A5, c5, A6, c6, rfl, ho, hb⟩; have p1 := keep4 hb (by rw [HZ.out]; omega) HX1.out; have p2 := keep4 hb (by rw [HZ.out]; omega) HX2.out; have PB1 := aside (PegBox.init (l := l) p1.1 p2.1 (by rw [HZ.out] at ho; exact ho) (HB0.out.trans (hb.mono (by rw [HZ.out]; omega))) (by have := hb.size; rw [HZ.out] at this; exact this)); obtain ⟨-, ⟨e0, e1, e2, e3⟩, f0, f1, f2, f3⟩ := p1; clear ho hb p2)
        | (go_at_call 28; refine (PB1.out.calls_amount HF.out.ap (by omega) f).mono ?_; rintro e w2 ⟨rfl, hpb⟩; have PB2 := aside hpb; have p3 := PB2.out.cells; obtain ⟨⟨e0, e1, e2, e3⟩, f0, f1, f2, f3⟩ := p3; have p4 := PB2.out.rescells; obtain ⟨⟨u0, u1, u2, u3⟩, g0, g1, g2, g3⟩ := p4; have PB2x := PB2; clear hpb))
      (try simp only [Exit.inBlock, Exit.then])
      refine bodyPost_ret (v := .tuple #[.agg #[.int .i64 0, .slice none 0 0, .slice none 0 0, .slice none 0 0], .iface 28 (.int .i64 9)]) (by simp only [results, Tryd.results14]; go_simp) rfl ?_
      exact ⟨zeroPeg, rfl, bad_fin PB2.out.below _ _ _ _⟩
    · have ha' : (amtS f ps < n) = False := eq_false ha
      have hq : moveQ (l, ps, is, rs) f t n = if 60 < (movedP ps f t n).length then 4 else 0 := by unfold moveQ; rw [if_neg (by rw [hst]; decide), if_neg ha]
      have hbig := Fit.big hf
      have hamt := Fit.amt_le hf f
      have hp1 := (Fit.piles hf).set f (n := amtS f ps - n) (by dsimp only at hamt; omega) (by dsimp only at hamt; omega)
      have hamt2 := hp1.amt t
      dsimp only at hbig hamt hp1 hamt2
      have hwn : IntKind.i64.wrap (-n) = -n := by rw [IntKind.wrap_i64]; omega
      have HAmt : Hid (-9223372036854775808 ≤ amtS f ps + -n ∧ amtS f ps + -n ≤ 9223372036854775807) := aside (by omega)
      have HAmt2 : Hid (-9223372036854775808 ≤ amtS t (setP f (amtS f ps - n) ps) + n ∧ amtS t (setP f (amtS f ps - n) ps) + n ≤ 9223372036854775807) := aside (by omega)
      have HAs := aside hp1.1
      have HLe : Hid ((setP f (amtS f ps - n) ps).length ≤ n1 + 1) := aside (by rw [← HL.out.1]; exact len_setP _ _ _)
      obtain ⟨Q, hQ⟩ : ∃ Q, Q = moveQ (l, ps, is, rs) f t n := ⟨_, rfl⟩
      rw [← hQ] at hq ⊢
      clear hst hf hamt hbig hn hQ hp1 hamt2 ha
      go_enter Tryd.func14, Tryd.ntmps14
      go_upto_region 8 with (first
        | (go_at_call 31; refine (HS.out _ HB0.out).mono ?_; rintro e w1 ⟨A4, c4, A5, c5, A6, c6, rfl, ho, hb⟩; have p1 := keep4 hb (by rw [HZ.out]; omega) HX1.out; have p2 := keep4 hb (by rw [HZ.out]; omega) HX2.out; have PB1 := aside (PegBox.init (l := l) p1.1 p2.1 (by rw [HZ.out] at ho; exact ho) (HB0.out.trans (hb.mono (by rw [HZ.out]; omega))) (by have := hb.size; rw [HZ.out] at this; exact this)); obtain ⟨-, ⟨e0, e1, e2, e3⟩, f0, f1, f2, f3⟩ := p1; clear ho hb p2)
        | (go_at_call 28; refine (PB1.out.calls_amount HF.out.ap (by omega) f).mono ?_; rintro e w2 ⟨rfl, hpb⟩; have PB2 := aside hpb; have p3 := PB2.out.cells; obtain ⟨⟨e0, e1, e2, e3⟩, f0, f1, f2, f3⟩ := p3; have p4 := PB2.out.rescells; obtain ⟨⟨u0, u1, u2, u3⟩, g0, g1, g2, g3⟩ := p4; have PB2x := PB2; clear hpb)
        | (clear PB2x; go_at_call 34; refine (PB2.out.calls_more HF.out.ap (by omega) f (-n) HAmt.out).mono ?_; rintro e w3 ⟨rfl, A7, n7, c7, hpb⟩; have hpb' : PegBox w w3 (l, setP f (amtS f ps - n) ps, is, rs) A7 n7 c7 A5 n2 c5 A6 n3 c6 := (by rw [Int.sub_eq_add_neg]; exact hpb); have PB3 := aside hpb'; clear hpb hpb')
        | (go_at_call 34; refine (PB3.out.calls_more HAs.out (by have h7 := PB3.out.lens.1; have h8 := HLe.out; dsimp only at h7; omega) t n HAmt2.out).mono ?_; rintro e w4 ⟨rfl, A8, n8, c8, hpb⟩; have PB4 := aside hpb; clear hpb))
      have p3 := PB4.out.cells
      obtain ⟨⟨e0, e1, e2, e3⟩, f0, f1, f2, f3⟩ := p3
      have p4 := PB4.out.rescells
      obtain ⟨⟨u0, u1, u2, u3⟩, g0, g1, g2, g3⟩ := p4
      have hl8 : (movedP ps f t n).length = n8 := PB4.out.lens.1
      rw [hl8] at hq
      have HQ := aside hq
      clear hq hl8
      by_cases b3 : 60 < n8
      · have b3' : (60 : Int) < (n8 : Int) := by omega
        have hq : Hid (Q = 4) := aside (by rw [HQ.out, if_pos b3])
        go_wp2
        (try simp only [Exit.inBlock, Exit.then])
        refine bodyPost_ret (v := .tuple #[.agg #[.int .i64 0, .slice none 0 0, .slice none 0 0, .slice none 0 0], .iface 28 (.int .i64 4)]) (by simp only [results, Tryd.results14]; go_simp) rfl ?_
        rw [hq.out, actOut_no (by decide), errP_no (by decide)]
        exact ⟨zeroPeg, rfl, bad_fin PB4.out.below _ _ _ _⟩
      have b3' : ((60 : Int) < (n8 : Int)) = False := by simp only [eq_iff_iff, iff_false]; omega
      have hq : Hid (Q = 0) := aside (by rw [HQ.out, if_neg (by omega)])
      clear b3
      go_wp2
      (try simp only [Exit.inBlock, Exit.then])
      refine bodyPost_ret (v := .tuple #[.agg #[.int .i64 l, .slice A8 n8 c8, .slice A5 n2 c5, .slice A6 n3 c6], .nilIface]) (by simp only [results, Tryd.results14]; go_simp) rfl ?_
      rw [hq.out, actOut_ok]
      exact ⟨pegV l A8 n8 c8 A5 n2 c5 A6 n3 c6, rfl, PB4.out.fin _ _ _ _⟩
end Go.Proofs.YtcmlhopidohimaaDoor
