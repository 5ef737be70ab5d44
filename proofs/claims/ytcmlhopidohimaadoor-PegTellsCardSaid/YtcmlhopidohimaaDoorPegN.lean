/- What came into a peg: the walk. Conditions: named in each theorem. -/
import Derived.Test.YtcmlhopidohimaaDoorPegM
namespace Go.Proofs.YtcmlhopidohimaaDoor
open Go.RowKit Go.ChangeShapes Go.WideShapes Go.ChangeAt

set_option maxHeartbeats 16000000 in
set_option maxRecDepth 100000 in
theorem in_any (s : PegS) (v : Value) (id t n : Int) {N : Nat} (w : World) (h : PegAt N w v s) :
    Calls Tryd.prog 11 #[v, .int .i64 id, .int .i64 t, .int .i64 n] w (fun e w' => ∃ v', e = .returned (.tuple #[v', errP (inQ s id t n)]) ∧ PegAt w.heap.size w' v' (actOut (inQ s id t n) (inR s id t n)) ∧ Below w.heap.size w w') := by
  obtain ⟨A1, n1, c1, A2, n2, c2, A3, n3, c3, rfl, h1, h2, h3, k1, k2, k3, m1, m3, -⟩ := h
  obtain ⟨l, ps, is, rs⟩ := s
  dsimp only at h1 h2 h3
  obtain ⟨x1, x2, xb, xs⟩ := two_new w #[.int .i64 l, .slice A1 n1 c1, .slice A2 n2 c2, .slice A3 n3 c3] #[.int .i64 0, .slice none 0 0, .slice none 0 0, .slice none 0 0] 26 26
  have HX1 := aside x1
  have HX2 := aside x2
  have HB0 := aside xb
  have HZ := aside xs
  clear x1 x2 xb xs
  by_cases hst : startS (l, ps, is, rs) n ≠ 0
  · have hq : inQ (l, ps, is, rs) id t n = startS (l, ps, is, rs) n := by unfold inQ; rw [if_pos hst]
    rw [hq, actOut_no hst]
    have HS : Hid (∀ W, Below w.heap.size w W → Calls Tryd.prog 31 #[pegV l A1 n1 c1 A2 n2 c2 A3 n3 c3, .int .i64 n] W (fun e w' => e = .returned (.tuple #[zeroPeg, .iface 28 (.int .i64 (startS (l, ps, is, rs) n))]) ∧ Below W.heap.size W w')) := aside (fun W hW => by
      have h := start_bad l ps is rs A1 n1 c1 A2 n2 c2 A3 n3 c3 n W ((FSl.below h1 hW).more hW.size) ((FSl.below h2 hW).more hW.size) ((FSl.below h3 hW).more hW.size) k1 k2 k3 m1 m3 hst
      rw [errP_no hst] at h
      exact h)
    rw [errP_no hst]
    generalize startS (l, ps, is, rs) n = q at HS ⊢
    clear hq hst h1 h2 h3
    unfold pegV zeroPeg at HS
    unfold pegV at HS
    unfold pegV
    go_enter Tryd.func11, Tryd.ntmps11
    go_wp2_with (go_at_call 31; refine (HS.out _ HB0.out).mono ?_; rintro e w1 ⟨rfl, hb⟩; have p1 := keep4 hb (by rw [HZ.out]; omega) HX1.out; have p2 := keep4 hb (by rw [HZ.out]; omega) HX2.out; obtain ⟨-, ⟨e0, e1, e2, e3⟩, f0, f1, f2, f3⟩ := p1; obtain ⟨-, ⟨u0, u1, u2, u3⟩, g0, g1, g2, g3⟩ := p2; have HB1 := aside (HB0.out.trans (hb.mono (by rw [HZ.out]; omega))); clear hb)
    (try simp only [Exit.inBlock, Exit.then])
    refine bodyPost_ret (v := .tuple #[.agg #[.int .i64 0, .slice none 0 0, .slice none 0 0, .slice none 0 0], .iface 28 (.int .i64 q)]) (by simp only [results, Tryd.results11]; go_simp) rfl ?_
    exact ⟨zeroPeg, rfl, bad_fin (((((HB1.out.setCell (by dsimp only; omega) _).setCell (by dsimp only; omega) _).setCell (by dsimp only; omega) _).setCell (by dsimp only; omega) _)) _ _ _ _⟩
  · replace hst : startS (l, ps, is, rs) n = 0 := by simpa using hst
    have hf := (start_zero hst).1
    have hn := (start_zero hst).2
    have HS : Hid (∀ W, Below w.heap.size w W → Calls Tryd.prog 31 #[pegV l A1 n1 c1 A2 n2 c2 A3 n3 c3, .int .i64 n] W (fun e w' => ∃ A1' c1' A2' c2' A3' c3', e = .returned (.tuple #[pegV l A1' n1 c1' A2' n2 c2' A3' n3 c3', .nilIface]) ∧ Own3 w' W.heap.size A1' n1 c1' ps A2' n2 c2' is A3' n3 c3' rs ∧ Below W.heap.size W w')) := aside (fun W hW =>
      start_ok l ps is rs A1 n1 c1 A2 n2 c2 A3 n3 c3 n W ((FSl.below h1 hW).more hW.size) ((FSl.below h2 hW).more hW.size) ((FSl.below h3 hW).more hW.size) k1 k2 k3 m1 m3 hst)
    have hlen1 : n1 ≤ 60 := by have h := FSl.len encP_len (by decide) h1; have h' := hf.lp; dsimp only at h'; omega
    have hlen2 : n2 ≤ 60 := by have h := FSl.len encI_len (by decide) h2; have h' := hf.li; dsimp only at h'; omega
    have hlen3 : n3 ≤ 60 := by have h := FSl.len encR_len (by decide) h3; have h' := hf.lr; dsimp only at h'; omega
    have HF := aside hf
    have HL : Hid (ps.length = n1 ∧ is.length = n2 ∧ rs.length = n3) := aside ⟨FSl.len encP_len (by decide) h1, FSl.len encI_len (by decide) h2, FSl.len encR_len (by decide) h3⟩
    clear h1 h2 h3 k1 k2 k3 m1 m3
    unfold pegV at HS
    unfold pegV
    cases hh : hasB keyI id is with
    | true =>
      have hq : inQ (l, ps, is, rs) id t n = 6 := by unfold inQ; rw [if_neg (by rw [hst]; decide), if_pos hh]
      rw [hq, actOut_no (by decide), errP_no (by decide)]
      have HI : Hid (∀ A c W, OwnI W (w.heap.size + 2) (.slice A n2 c) n2 is → Calls Tryd.prog 32 #[.slice A n2 c, .int .i64 id] W (fun e w' => e = .returned (.tuple #[.int .i64 (lbN keyI id is), .bool true]) ∧ Below W.heap.size W w')) := aside (fun A c W hW => by
        have h := findI_any is HF.out.ai A n2 c id W (Sl.own hW) (by omega)
        rw [hh] at h
        exact h)
      clear hq hst hh hf hn
      go_enter Tryd.func11, Tryd.ntmps11
      go_wp2_with (first
        | (go_at_call 31; refine (HS.out _ HB0.out).mono ?_; rintro e w1 ⟨A4, c4, A5, c5, A6, c6, rfl, ho, hb⟩; have p1 := keep4 hb (by rw [HZ.out]; omega) HX1.out; have p2 := keep4 hb (by rw [HZ.out]; omega) HX2.out; have PB1 := aside (PegBox.init (l := l) p1.1 p2.1 (by rw [HZ.out] at ho; exact ho) (HB0.out.trans (hb.mono (by rw [HZ.out]; omega))) (by have := hb.size; rw [HZ.out] at this; exact this)); obtain ⟨-, ⟨e0, e1, e2, e3⟩, f0, f1, f2, f3⟩ := p1; clear ho hb p2)
        | (go_at_call 32; refine (HI.out _ _ _ PB1.out.own.i).mono ?_; rintro e w2 ⟨rfl, hb⟩; have PB2 := aside (PB1.out.keep hb); have p3 := PB2.out.rescells; obtain ⟨⟨e0, e1, e2, e3⟩, f0, f1, f2, f3⟩ := p3; clear hb))
      (try simp only [Exit.inBlock, Exit.then])
      refine bodyPost_ret (v := .tuple #[.agg #[.int .i64 0, .slice none 0 0, .slice none 0 0, .slice none 0 0], .iface 28 (.int .i64 6)]) (by simp only [results, Tryd.results11]; go_simp) rfl ?_
      exact ⟨zeroPeg, rfl, bad_fin PB2.out.below _ _ _ _⟩
    | false =>
      have hq : inQ (l, ps, is, rs) id t n = if 1125899906842624 < l + n ∨ 60 < is.length + 1 ∨ 60 < (setP t (amtS t ps + n) ps).length then 4 else 0 := by unfold inQ; rw [if_neg (by rw [hst]; decide), if_neg (by rw [hh]; decide)]
      have HI : Hid (∀ A c W, OwnI W (w.heap.size + 2) (.slice A n2 c) n2 is → Calls Tryd.prog 32 #[.slice A n2 c, .int .i64 id] W (fun e w' => e = .returned (.tuple #[.int .i64 (lbN keyI id is), .bool false]) ∧ Below W.heap.size W w')) := aside (fun A c W hW => by
        have h := findI_any is HF.out.ai A n2 c id W (Sl.own hW) (by omega)
        rw [hh] at h
        exact h)
      have HN : Hid (∀ A c W, OwnI W (w.heap.size + 2) (.slice A n2 c) n2 is → w.heap.size + 2 ≤ W.heap.size → Calls Tryd.prog 33 #[.slice A n2 c, .int .i64 (lbN keyI id is), .slice (some ⟨W.heap.size, 0, none⟩) 1 1] (W.alloc (.cells #[.int .i64 id] 3)) (fun e w' => ∃ A' c', e = .returned (.slice A' (n2 + 1) c') ∧ OwnI w' (w.heap.size + 2) (.slice A' (n2 + 1) c') (n2 + 1) (insK keyI id is) ∧ Below (w.heap.size + 2) (W.alloc (.cells #[.int .i64 id] 3)) w' ∧ Grew (W.alloc (.cells #[.int .i64 id] 3)) w' (.slice A n2 c) (.slice A' (n2 + 1) c'))) := aside (fun A c W hW hz => by
        have hle : lbN keyI id is ≤ n2 := by have h1 : lbN keyI id is ≤ is.length := List.countP_le_length; have h2 := hW.1; rw [flat_len encI_len] at h2; omega
        have h := insertI_any is id (lbN keyI id is) n2 hle A c (w.heap.size + 2) W.heap.size (W.alloc (.cells #[.int .i64 id] 3)) (own_below hW ((Below.refl _ _).alloc (Nat.le_refl _) _)) (heap_alloc_new _ _) ?_ (by omega) (by simp; omega)
        · have e := insK_lb (key := keyI) (show Asc keyI is from HF.out.ai) id hh
          change is.take (lbN keyI id is) ++ id :: is.drop (lbN keyI id is) = insK keyI id is at e
          rw [e] at h
          exact h
        · rintro g o s rfl
          have := (hW.lt g rfl).2
          omega)
      have hbig := Fit.big hf
      have hamt := Fit.amt_le hf t
      dsimp only at hbig hamt
      have hwl : IntKind.i64.wrap (l + n) = l + n := by rw [IntKind.wrap_i64]; omega
      have HAmt : Hid (-9223372036854775808 ≤ amtS t ps + n ∧ amtS t ps + n ≤ 9223372036854775807) := aside (by omega)
      have HLi : Hid ((insK keyI id is).length = n2 + 1) := aside (by rw [← HL.out.2.1]; exact len_insK (key := keyI) HF.out.ai id hh)
      obtain ⟨Q, hQ⟩ : ∃ Q, Q = inQ (l, ps, is, rs) id t n := ⟨_, rfl⟩
      rw [← hQ] at hq ⊢
      clear hst hh hf hamt hbig hn hQ
      go_enter Tryd.func11, Tryd.ntmps11
      go_upto_region 10 with (first
        | (go_at_call 31; refine (HS.out _ HB0.out).mono ?_; rintro e w1 ⟨A4, c4, A5, c5, A6, c6, rfl, ho, hb⟩; have p1 := keep4 hb (by rw [HZ.out]; omega) HX1.out; have p2 := keep4 hb (by rw [HZ.out]; omega) HX2.out; have PB1 := aside (PegBox.init (l := l) p1.1 p2.1 (by rw [HZ.out] at ho; exact ho) (HB0.out.trans (hb.mono (by rw [HZ.out]; omega))) (by have := hb.size; rw [HZ.out] at this; exact this)); obtain ⟨-, ⟨e0, e1, e2, e3⟩, f0, f1, f2, f3⟩ := p1; clear ho hb p2)
        | (go_at_call 32; refine (HI.out _ _ _ PB1.out.own.i).mono ?_; rintro e w2 ⟨rfl, hb⟩; have PB2 := aside (PB1.out.keep hb); have p3 := PB2.out.cells; obtain ⟨⟨e0, e1, e2, e3⟩, f0, f1, f2, f3⟩ := p3; clear hb)
        | (go_at_call 33; refine (HN.out _ _ _ PB2.out.own.i PB2.out.size).mono ?_; rintro e w3 ⟨A7, c7, rfl, ho, hb, hg⟩; have PB3 := aside ((PB2.out.ins ho hb hg).lock (l + n)); have p3 := keep4 hb (by omega) (PB2.out.keep ((Below.refl _ _).alloc (Nat.le_refl _) (.cells #[.int .i64 id] 3))).box; obtain ⟨-, ⟨e0, e1, e2, e3⟩, f0, f1, f2, f3⟩ := p3; clear ho hb hg)
        | (go_at_call 34; refine (PB3.out.calls_more HF.out.ap (by omega) t n HAmt.out).mono ?_; rintro e w4 ⟨rfl, A8, n8, c8, hpb⟩; have PB4 := aside hpb; clear hpb))
      have p3 := PB4.out.cells
      obtain ⟨⟨e0, e1, e2, e3⟩, f0, f1, f2, f3⟩ := p3
      have p3 := PB4.out.rescells
      obtain ⟨⟨u0, u1, u2, u3⟩, g0, g1, g2, g3⟩ := p3
      have hl8 : (setP t (amtS t ps + n) ps).length = n8 := PB4.out.lens.1
      rw [hl8, HL.out.2.1] at hq
      have HQ := aside hq
      clear hq hl8
      by_cases b1 : 1125899906842624 < l + n
      · have hq : Hid (Q = 4) := aside (by rw [HQ.out, if_pos (.inl b1)])
        go_wp2
        (try simp only [Exit.inBlock, Exit.then])
        refine bodyPost_ret (v := .tuple #[.agg #[.int .i64 0, .slice none 0 0, .slice none 0 0, .slice none 0 0], .iface 28 (.int .i64 4)]) (by simp only [results, Tryd.results11]; go_simp) rfl ?_
        rw [hq.out, actOut_no (by decide), errP_no (by decide)]
        exact ⟨zeroPeg, rfl, bad_fin PB4.out.below _ _ _ _⟩
      have b1' : ((1125899906842624 : Int) < l + n) = False := eq_false b1
      by_cases b2 : 60 < n2 + 1
      · have b2' : (60 : Int) < (n2 : Int) + 1 := by omega
        have hq : Hid (Q = 4) := aside (by rw [HQ.out, if_pos (.inr (.inl b2))])
        clear b1
        go_wp2
        (try simp only [Exit.inBlock, Exit.then])
        refine bodyPost_ret (v := .tuple #[.agg #[.int .i64 0, .slice none 0 0, .slice none 0 0, .slice none 0 0], .iface 28 (.int .i64 4)]) (by simp only [results, Tryd.results11]; go_simp) rfl ?_
        rw [hq.out, actOut_no (by decide), errP_no (by decide)]
        exact ⟨zeroPeg, rfl, bad_fin PB4.out.below _ _ _ _⟩
      have b2' : ((60 : Int) < (n2 : Int) + 1) = False := by simp only [eq_iff_iff, iff_false]; omega
      by_cases b3 : 60 < n8
      · have b3' : (60 : Int) < (n8 : Int) := by omega
        have hq : Hid (Q = 4) := aside (by rw [HQ.out, if_pos (.inr (.inr b3))])
        clear b1 b2
        go_wp2
        (try simp only [Exit.inBlock, Exit.then])
        refine bodyPost_ret (v := .tuple #[.agg #[.int .i64 0, .slice none 0 0, .slice none 0 0, .slice none 0 0], .iface 28 (.int .i64 4)]) (by simp only [results, Tryd.results11]; go_simp) rfl ?_
        rw [hq.out, actOut_no (by decide), errP_no (by decide)]
        exact ⟨zeroPeg, rfl, bad_fin PB4.out.below _ _ _ _⟩
      have b3' : ((60 : Int) < (n8 : Int)) = False := by simp only [eq_iff_iff, iff_false]; omega
      have hq : Hid (Q = 0) := aside (by rw [HQ.out, if_neg (by omega)])
      clear b1 b2 b3
      go_wp2
      (try simp only [Exit.inBlock, Exit.then])
      refine bodyPost_ret (v := .tuple #[.agg #[.int .i64 (l + n), .slice A8 n8 c8, .slice A7 (n2 + 1) c7, .slice A6 n3 c6], .nilIface]) (by simp only [results, Tryd.results11]; go_simp) rfl ?_
      rw [hq.out, actOut_ok]
      exact ⟨pegV (l + n) A8 n8 c8 A7 (n2 + 1) c7 A6 n3 c6, rfl, PB4.out.fin _ _ _ _⟩
end Go.Proofs.YtcmlhopidohimaaDoor
