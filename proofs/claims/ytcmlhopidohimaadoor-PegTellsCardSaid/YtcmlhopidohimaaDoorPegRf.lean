/- The reference's act PegPay on pegs. Conditions: named in each theorem. -/
import Derived.Test.YtcmlhopidohimaaDoorPegRc
import Derived.StillTailTactics
namespace Go.Proofs.YtcmlhopidohimaaDoor
open Go.RowKit Go.ChangeShapes Go.WideShapes Go.ChangeAt

/-- A return in a row of the call's own. -/
theorem own_ret {W : World} {base n c : Nat} {A : Option Addr} {rs : List (Int × Int × Bool)} (h : OwnR W base (.slice A n c) n rs) {k : Nat} (hk : k < n) {y m : Int} {pd : Bool} (hy : rs.getD k (0, 0, false) = (y, m, pd)) :
    ∃ g, A = some ⟨g, 0, none⟩ ∧ base ≤ g ∧ g < W.heap.size ∧ W.cell? ⟨g, k * 3, none⟩ = some (.int .i64 y) ∧ W.cell? ⟨g, k * 3 + 1, none⟩ = some (.int .i64 m) ∧ W.cell? ⟨g, k * 3 + 2, none⟩ = some (.bool pd) ∧ W.frozen? ⟨g, k * 3 + 2, none⟩ = false := by
  obtain ⟨g, cur, e1, hb, hg, -⟩ := own_open h (.inl (by omega))
  subst e1
  obtain ⟨b, off, e, hlt, hc⟩ := FSl.at_ encR_len (by decide) (0, 0, false) (Sl.own h : FSl encR 3 W W.heap.size (some ⟨g, 0, none⟩) n rs) hk
  injection e with e
  injection e with e1 e2
  subst e1 e2
  rw [hy] at hc
  have c0 := hc 0 _ rfl
  have c1 := hc 1 _ rfl
  have c2 := hc 2 _ rfl
  rw [Nat.zero_add] at c0 c1 c2
  exact ⟨g, rfl, hb, hlt, c0, c1, c2, by simp [World.frozen?, hg]⟩
theorem lb_here {rs : List (Int × Int × Bool)} (h : Asc keyR rs) {i : Nat} (hi : i < rs.length) {x : Int} (hx : keyR (rs.getD i (0, 0, false)) = x) : lbN keyR x rs = i ∧ hasB keyR x rs = true := by
  have hl : lbN keyR x rs = i := lb_of (0, 0, false) (by omega) (fun k hk => by
    have := (List.pairwise_iff_getElem.1 h) k i (by omega) hi hk
    rw [← hx, List.getD_eq_getElem?_getD, List.getD_eq_getElem?_getD, List.getElem?_eq_getElem (by omega), List.getElem?_eq_getElem hi]
    exact this) (fun k hk hk' => by
    rw [← hx]
    exact asc_le h (0, 0, false) hk hk')
  exact ⟨hl, by rw [has_of (0, 0, false) hl hi rfl, hx]; exact decide_eq_true rfl⟩
set_option maxHeartbeats 40000000 in
set_option maxRecDepth 100000 in
theorem rpay_any (s : PegS) (v : Value) (x : Int) {N : Nat} (w : World) (h : PegAt N w v s) :
    Calls Tryd.prog 17 #[v, .int .i64 x] w (RefOut w v (payQ s x) (payR s x)) := by
  obtain ⟨l, A1, n1, c1, A2, n2, c2, A3, n3, c3, rfl, hl, hl1, hl2, hl3, h1, h2, h3⟩ := peg_open h
  have HP := aside h
  have TA0 := aside (two_first w (.int .i64 l) (.slice A1 n1 c1) (.slice A2 n2 c2) (.slice A3 n3 c3))
  have HFt : Hid (∀ W, Below w.heap.size w W → Calls Tryd.prog 5 #[.agg #[.int .i64 l, .slice A1 n1 c1, .slice A2 n2 c2, .slice A3 n3 c3]] W (fun e w' => e = .returned (.int .i64 (checkS s)) ∧ Below W.heap.size W w')) := aside (fun W hW => fault_any s _ W (HP.out.below hW))
  clear h
  have hst : startS s 0 = checkS s := by
    unfold startS
    by_cases h0 : checkS s = 0
    · rw [if_neg (by simpa using h0), h0]; decide
    · rw [if_pos h0]
  by_cases h0 : checkS s = 0
  · have hf := (start_zero (hst.trans h0)).1
    rw [h0] at HFt
    have HF := aside hf
    have HQ5 : Hid (hasB keyR x s.2.2.2 = false → payQ s x = 5) := aside (fun hh => by unfold payQ; rw [if_neg (by rw [hst, h0]; decide), if_pos hh])
    have HQ6 : Hid (hasB keyR x s.2.2.2 = true → (gotR x s.2.2.2).2.2 = true → payQ s x = 6) := aside (fun hh hp => by unfold payQ; rw [if_neg (by rw [hst, h0]; decide), if_neg (by rw [hh]; decide), if_pos hp])
    have HQ0 : Hid (hasB keyR x s.2.2.2 = true → (gotR x s.2.2.2).2.2 = false → payQ s x = 0) := aside (fun hh hp => by unfold payQ; rw [if_neg (by rw [hst, h0]; decide), if_neg (by rw [hh]; decide), if_neg (by rw [hp]; decide)])
    obtain ⟨Q, hQ⟩ : ∃ Q, Q = payQ s x := ⟨_, rfl⟩
    rw [← hQ] at HQ5 HQ6 HQ0 ⊢
    have hbig := Fit.big hf
    have HBig : Hid (0 ≤ l ∧ l ≤ 120 * 1125899906842624) := aside (by rw [hl]; exact hbig)
    have hnb : n3 ≤ 60 := by have := hf.lr; omega
    have HL : Hid (l = s.1) := aside hl
    have H1 := aside h1
    have H2 := aside h2
    have H3 := aside h3
    have HLn : Hid (s.2.2.2.length = n3) := aside hl3.symm
    clear hQ h0 hst hf hl hl1 hl2 hl3 h1 h2 h3 hbig
    go_enter Tryd.func17, Tryd.ntmps17
    go_wp2_with (first
      | (go_at_call 5; refine (HFt.out _ TA0.out.below).mono ?_; rintro e w1 ⟨rfl, hb⟩; have TA1 := aside (TA0.out.step hb); have H3x := aside (FSl.below H3.out TA1.out.below); have hbz := TA1.out.size; have pc := TA1.out.cells; obtain ⟨⟨e0, e1, e2, e3⟩, -⟩ := pc; clear hb)
      | (at_builtin; refine wpList_concat rfl (.tmp 15) (.tmp 17) 24 rfl (w.heap.size + 2) _ 3 24 Tryd.underlying24 infoR rfl (by decide) _ 0 [] rfl (⟨by simp, .inl ⟨rfl, rfl⟩⟩) w.heap.size A3 n3 c3 _ rfl H3x.out (oneR _) (by omega) (by unfold maxLen; omega) hbz ?_; intro G cg w2 hc2 hc2' hown hb2 hg2; simp only [Nat.zero_add, List.nil_append] at hown)
      | fail)
    have TA2 := aside (TA1.out.ahead hb2)
    (try simp only [Nat.zero_add])
    have HO : Hid (OwnR w2 (w.heap.size + 2) (.slice G n3 cg) n3 s.2.2.2) := aside hown
    clear hown hb2 hg2 hc2 hc2' H3x hbz e0 e1 e2 e3 TA0 TA1
    have pc := TA2.out.cells
    obtain ⟨⟨e0, e1, e2, e3⟩, ef0, ef1, ef2, ef3⟩ := pc
    have pr := TA2.out.rescells
    obtain ⟨⟨r0, r1, r2, r3⟩, rf0, rf1, rf2, rf3⟩ := pr
    go_wp2_with fail
    go_loopw [8] (fun v8 wr => ∃ i : Nat, i ≤ n3 ∧ v8 = .int .i64 i ∧ wr = w2 ∧ Hid (∀ k, k < i → keyR (s.2.2.2.getD k (0, 0, false)) ≠ x)) (fun v8 _ => n3 - (Go.RowKit.intOf v8).toNat)
    case atStart => exact ⟨0, by omega, rfl, rfl, aside (fun k hk => absurd hk (Nat.not_lt_zero k))⟩
    case round =>
      obtain ⟨i, hi, rfl, hwr, HAll⟩ := hrel
      try subst hwr
      by_cases hin : i < n3
      · obtain ⟨⟨y, m, pd⟩, hy⟩ : ∃ q : Int × Int × Bool, q = s.2.2.2.getD i (0, 0, false) := ⟨_, rfl⟩
        obtain ⟨g, hG, hg1, hg2, c0, c1', c2', cf⟩ := own_ret HO.out hin hy.symm
        have HY := aside hy
        have HG := aside hG
        have i0 : (i : Int) < (n3 : Int) := by omega
        subst hG
        clear hy
        by_cases he : y = x
        · have HLb : Hid (lbN keyR x s.2.2.2 = i ∧ hasB keyR x s.2.2.2 = true) := aside (lb_here HF.out.ar (by have := HLn.out; omega) (by rw [← HY.out]; exact he))
          have HGot : Hid (gotR x s.2.2.2 = (y, m, pd)) := aside (by unfold gotR; rw [HLb.out.1]; exact HY.out.symm)
          subst he
          cases pd with
          | true =>
            have HQq := aside (HQ6.out HLb.out.2 (by rw [HGot.out]))
            clear HAll hin
            go_wp2
            (try simp only [Exit.inBlock, Exit.then])
            refine bodyPost_ret (v := .tuple #[.agg #[.int .i64 0, .slice none 0 0, .slice none 0 0, .slice none 0 0], .int .i64 6]) (by simp only [results, Tryd.results17]; go_simp) rfl ?_
            rw [HQq.out]
            exact ref_no TA2.out (by decide) _ _ _ _ _ rfl
          | false =>
            have HQq := aside (HQ0.out HLb.out.2 (by rw [HGot.out]))
            have hm := HF.out.am (y, m, false) (by rw [HY.out]; exact getD_mem (0, 0, false) (by have := HLn.out; omega))
            dsimp only at hm
            have hbg := HBig.out
            have hw1 : IntKind.i64.wrap (l - m) = l - m := by rw [IntKind.wrap_i64]; omega
            have HW1 := aside hw1
            have HR : Hid (payR s y = (s.1 - m, s.2.1, s.2.2.1, s.2.2.2.set i (y, m, true))) := aside (by unfold payR; rw [HGot.out, HLb.out.1])
            have hgB : w.heap.size + 2 ≤ g := hg1
            clear HAll hm hbg hw1
            go_wp2_with fail
            obtain ⟨W3, hW3⟩ : ∃ W3, W3 = ((wr.setCell ⟨g, i * 3 + 2, none⟩ (.bool true)).setCell ⟨w.heap.size, 3, none⟩ (.slice (some ⟨g, 0, none⟩) n3 cg)) := ⟨_, rfl⟩
            rw [← hW3]
            have TB : Hid (TwoAt w W3 (.int .i64 l) (.slice A1 n1 c1) (.slice A2 n2 c2) (.slice (some ⟨g, 0, none⟩) n3 cg)) := aside (by rw [hW3]; exact (TA2.out.ahead ((Below.refl _ _).setCell hgB _)).set3 _)
            have HX : Hid (OwnR W3 (w.heap.size + 2) (.slice (some ⟨g, 0, none⟩) n3 cg) n3 (s.2.2.2.set i (y, m, true))) := aside (by
              rw [hW3]
              refine own_box ?_ (Nat.lt_add_of_pos_right (by decide)) _
              have h := own_setcell HO.out (i * 3 + 2) (.bool true) (by omega)
              rw [flat_setR (y, m, false) s.2.2.2 i (by have := HLn.out; omega) HY.out.symm] at h
              exact h)
            have hcm := own_ret HX.out hin (y := y) (m := m) (pd := true) (by rw [List.getD_eq_getElem?_getD, List.getElem?_set_self (by have := HLn.out; omega)]; rfl)
            obtain ⟨g', e', -, -, -, cm, -, -⟩ := hcm
            injection e' with e'
            injection e' with e'
            subst e'
            clear hW3 c0 c1' c2' cf e0 e1 e2 e3 ef0 ef1 ef2 ef3 r0 r1 r2 r3 rf0 rf1 rf2 rf3 hgB hg1 hg2 HO TA2
            have hdw := TB.out.drew
            have TD := aside hdw
            have pc := TB.out.cells
            obtain ⟨⟨e0, e1, e2, e3⟩, -⟩ := pc
            have hw1 := HW1.out
            go_still_tail 9, (by kernel_rfl)
            clear hw1 e0 e1 e2 e3
            change wpList _ _ _ _ _ W3.drew
            have HXd : Hid (OwnR W3.drew (w.heap.size + 2) (.slice (some ⟨g, 0, none⟩) n3 cg) n3 (s.2.2.2.set i (y, m, true))) := aside (own_keep HX.out fun k _ _ => rfl)
            clear HX TB cm hdw
            generalize W3.drew = W4 at TD HXd ⊢
            have pc := TD.out.cells
            obtain ⟨⟨e0, e1, e2, e3⟩, ef0, ef1, ef2, ef3⟩ := pc
            have pr := TD.out.rescells
            obtain ⟨⟨r0, r1, r2, r3⟩, rf0, rf1, rf2, rf3⟩ := pr
            have TE := aside (TD.out.set0 (.int .i64 (l - m)))
            have HXE := aside (own_box (b := w.heap.size) (o := 0) HXd.out (Nat.lt_add_of_pos_right (by decide)) (.int .i64 (l - m)))
            go_wp2
            (try simp only [Exit.inBlock, Exit.then])
            refine bodyPost_ret (v := .tuple #[.agg #[.int .i64 (l - m), .slice A1 n1 c1, .slice A2 n2 c2, .slice (some ⟨g, 0, none⟩) n3 cg], .int .i64 0]) (by simp only [results, Tryd.results17]; go_simp) rfl ?_
            rw [HQq.out, HR.out]
            refine ⟨_, rfl, ?_, kin_make (.inl ⟨rfl, rfl⟩) (.inl ⟨rfl, rfl⟩) (.inr (far_row HXE.out)), TE.out.fin _ _ _ _⟩
            rw [actOut_ok]
            exact read_make (s := (s.1 - m, s.2.1, s.2.2.1, s.2.2.2.set i (y, m, true))) (by rw [HL.out]) ((FSl.below H1.out (TE.out.fin _ _ _ _)).more (TE.out.fin _ _ _ _).size) ((FSl.below H2.out (TE.out.fin _ _ _ _)).more (TE.out.fin _ _ _ _).size) (Sl.own (own_box4 HXE.out (Nat.lt_succ_self _) _ _ _ _))
        · have hne : (y == x) = false := by simpa using he
          have HN : Hid (∀ k, k < i + 1 → keyR (s.2.2.2.getD k (0, 0, false)) ≠ x) := aside (fun k hk' => by
            rcases Nat.lt_succ_iff_lt_or_eq.1 hk' with h | rfl
            · exact HAll.out k h
            · rw [← HY.out]
              exact he)
          clear he
          go_wp2
          exact ⟨⟨i + 1, by omega, by go_num, by trivial, HN⟩, by simp [Go.RowKit.intOf]; omega⟩
      · obtain rfl : n3 = i := by omega
        have hno : hasB keyR x s.2.2.2 = false := by
          cases hh : hasB keyR x s.2.2.2 with
          | false => rfl
          | true =>
            have hL := has_lt hh
            have hk : keyR (s.2.2.2.getD (lbN keyR x s.2.2.2) (0, 0, false)) = x := by
              unfold hasB at hh
              rw [List.getElem?_eq_getElem hL] at hh
              rw [List.getD_eq_getElem?_getD, List.getElem?_eq_getElem hL]
              simpa using hh
            exact absurd hk (HAll.out _ (by have := HLn.out; omega))
        have HQq := aside (HQ5.out hno)
        clear hno
        go_wp2
        (try simp only [Exit.inBlock, Exit.then])
        refine bodyPost_ret (v := .tuple #[.agg #[.int .i64 0, .slice none 0 0, .slice none 0 0, .slice none 0 0], .int .i64 5]) (by simp only [results, Tryd.results17]; go_simp) rfl ?_
        rw [HQq.out]
        exact ref_no TA2.out (by decide) _ _ _ _ _ rfl
  · have hq : payQ s x = checkS s := by unfold payQ; rw [if_pos (by rw [hst]; exact h0), hst]
    rw [hq]
    generalize checkS s = q at HFt h0
    have h0' : (q == 0) = false := by simpa using h0
    have H0 := aside h0
    clear hq h0 hst hl hl1 hl2 hl3 h1 h2 h3
    go_enter Tryd.func17, Tryd.ntmps17
    go_wp2_with (first
      | (go_at_call 5; refine (HFt.out _ TA0.out.below).mono ?_; rintro e w1 ⟨rfl, hb⟩; have TA1 := aside (TA0.out.step hb); have pr := TA1.out.rescells; obtain ⟨⟨r0, r1, r2, r3⟩, rf0, rf1, rf2, rf3⟩ := pr; clear hb)
      | fail)
    (try simp only [Exit.inBlock, Exit.then])
    refine bodyPost_ret (v := .tuple #[.agg #[.int .i64 0, .slice none 0 0, .slice none 0 0, .slice none 0 0], .int .i64 q]) (by simp only [results, Tryd.results17]; go_simp) rfl ?_
    exact ref_no TA1.out H0.out _ _ _ _ _ rfl
end Go.Proofs.YtcmlhopidohimaaDoor
