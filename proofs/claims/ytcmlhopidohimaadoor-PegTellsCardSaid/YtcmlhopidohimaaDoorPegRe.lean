/- The reference's act PegOut on pegs. Conditions: named in each theorem. -/
import Derived.Test.YtcmlhopidohimaaDoorPegRc
namespace Go.Proofs.YtcmlhopidohimaaDoor
open Go.RowKit Go.ChangeShapes Go.WideShapes Go.ChangeAt

def loR (t : Int) (xs : List (Int × Int × Bool)) (k : Nat) : List (Int × Int × Bool) := (xs.take k).filter (fun x => decide (keyR x < t))
def hiR (t : Int) (xs : List (Int × Int × Bool)) (k : Nat) : List (Int × Int × Bool) := (xs.take k).filter (fun x => decide (t < keyR x))
theorem has_keyR {α : Type} {key : α → Int} {t : Int} {xs : List α} (d : α) (h : hasB key t xs = true) : key (xs.getD (lbN key t xs) d) = t := by
  have hL := has_lt h
  unfold hasB at h
  rw [List.getElem?_eq_getElem hL] at h
  rw [List.getD_eq_getElem?_getD, List.getElem?_eq_getElem hL]
  simpa using h
set_option maxHeartbeats 40000000 in
set_option maxRecDepth 100000 in
theorem rout_any (s : PegS) (v : Value) (id t n : Int) {N : Nat} (w : World) (h : PegAt N w v s) :
    Calls Tryd.prog 15 #[v, .int .i64 id, .int .i64 t, .int .i64 n] w (RefOut w v (outQ s id t n) (outR s id t n)) := by
  obtain ⟨l, A1, n1, c1, A2, n2, c2, A3, n3, c3, rfl, hl, hl1, hl2, hl3, h1, h2, h3⟩ := peg_open h
  have HP := aside h
  have TA0 := aside (two_first w (.int .i64 l) (.slice A1 n1 c1) (.slice A2 n2 c2) (.slice A3 n3 c3))
  have HBg : Hid (∀ W, Below w.heap.size w W → Calls Tryd.prog 29 #[.agg #[.int .i64 l, .slice A1 n1 c1, .slice A2 n2 c2, .slice A3 n3 c3], .int .i64 n] W (fun e w' => e = .returned (.int .i64 (startS s n)) ∧ Below W.heap.size W w')) := aside (fun W hW => begun_any s _ n W (HP.out.below hW))
  clear h
  by_cases h0 : startS s n = 0
  · obtain ⟨hf, hn0, hn1⟩ := start_zero h0
    rw [h0] at HBg
    have hpo : Hid (∀ W, Below w.heap.size w W → Calls Tryd.prog 8 #[.agg #[.int .i64 l, .slice A1 n1 c1, .slice A2 n2 c2, .slice A3 n3 c3], .int .i64 t] W (fun e w' => e = .returned (.int .i64 (amtS t s.2.1)) ∧ Below W.heap.size W w')) := aside (fun W hW => pileOf_any s _ hf.ap (Nat.le_trans hf.lp (by decide)) t W (HP.out.below hW))
    by_cases ha : amtS t s.2.1 < n
    · have hq : outQ s id t n = 9 := by unfold outQ; rw [if_neg (by rw [h0]; decide), if_pos ha]
      rw [hq]
      generalize amtS t s.2.1 = am at hpo ha
      clear hq h0 hf hn0 hn1 hl hl1 hl2 hl3 h1 h2 h3
      by_cases hz : 0 < n3
      · have hz' : (0 : Int) < (n3 : Int) := by omega
        clear hz
        go_enter Tryd.func15, Tryd.ntmps15
        go_wp2_with (first
          | (go_at_call 29; refine (HBg.out _ TA0.out.below).mono ?_; rintro e w1 ⟨rfl, hb⟩; have TA1 := aside (TA0.out.step hb); have pc := TA1.out.cells; obtain ⟨⟨e0, e1, e2, e3⟩, -⟩ := pc; have pr := TA1.out.rescells; obtain ⟨⟨r0, r1, r2, r3⟩, rf0, rf1, rf2, rf3⟩ := pr; clear hb)
          | (go_at_call 8; refine (hpo.out _ TA1.out.below).mono ?_; rintro e w2 ⟨rfl, hb⟩; have TA2 := aside (TA1.out.step hb); clear e0 e1 e2 e3 r0 r1 r2 r3 rf0 rf1 rf2 rf3; have pc := TA2.out.cells; obtain ⟨⟨e0, e1, e2, e3⟩, -⟩ := pc; have pr := TA2.out.rescells; obtain ⟨⟨r0, r1, r2, r3⟩, rf0, rf1, rf2, rf3⟩ := pr; clear hb)
          | fail)
        refine wp_loop_rounds 1 ?_
        rw [rounds_succ]
        go_wp2
        all_goals (try simp only [Exit.inBlock, Exit.then])
        all_goals refine bodyPost_ret (v := .tuple #[.agg #[.int .i64 0, .slice none 0 0, .slice none 0 0, .slice none 0 0], .int .i64 9]) (by simp only [results, Tryd.results15]; go_simp) rfl ?_
        all_goals exact ref_no TA2.out (by decide) _ _ _ _ _ rfl
      · have hz' : ((0 : Int) < (n3 : Int)) = False := by simp only [eq_iff_iff, iff_false]; omega
        clear hz
        go_enter Tryd.func15, Tryd.ntmps15
        go_wp2_with (first
          | (go_at_call 29; refine (HBg.out _ TA0.out.below).mono ?_; rintro e w1 ⟨rfl, hb⟩; have TA1 := aside (TA0.out.step hb); have pc := TA1.out.cells; obtain ⟨⟨e0, e1, e2, e3⟩, -⟩ := pc; have pr := TA1.out.rescells; obtain ⟨⟨r0, r1, r2, r3⟩, rf0, rf1, rf2, rf3⟩ := pr; clear hb)
          | (go_at_call 8; refine (hpo.out _ TA1.out.below).mono ?_; rintro e w2 ⟨rfl, hb⟩; have TA2 := aside (TA1.out.step hb); clear e0 e1 e2 e3 r0 r1 r2 r3 rf0 rf1 rf2 rf3; have pc := TA2.out.cells; obtain ⟨⟨e0, e1, e2, e3⟩, -⟩ := pc; have pr := TA2.out.rescells; obtain ⟨⟨r0, r1, r2, r3⟩, rf0, rf1, rf2, rf3⟩ := pr; clear hb)
          | fail)
        refine wp_loop_rounds 1 ?_
        rw [rounds_succ]
        go_wp2
        all_goals (try simp only [Exit.inBlock, Exit.then])
        all_goals refine bodyPost_ret (v := .tuple #[.agg #[.int .i64 0, .slice none 0 0, .slice none 0 0, .slice none 0 0], .int .i64 9]) (by simp only [results, Tryd.results15]; go_simp) rfl ?_
        all_goals exact ref_no TA2.out (by decide) _ _ _ _ _ rfl
    · skip
      have hasn : Hid ((∀ k, k < n3 → keyR (s.2.2.2.getD k (0, 0, false)) ≠ id) → hasB keyR id s.2.2.2 = false) := aside (fun hk => by
        cases hh : hasB keyR id s.2.2.2 with
        | false => rfl
        | true =>
          have hL := has_lt hh
          exact absurd (has_keyR (0, 0, false) hh) (hk _ (by omega)))
      have HasIt : Hid ((∃ k, k < n3 ∧ keyR (s.2.2.2.getD k (0, 0, false)) = id) → hasB keyR id s.2.2.2 = true) := aside (fun hk => by
        obtain ⟨k, hk, he⟩ := hk
        cases hh : hasB keyR id s.2.2.2 with
        | true => rfl
        | false => exact absurd he (has_not hf.ar hh _ (getD_mem (0, 0, false) (by omega))))
      obtain ⟨Q, hQ⟩ : ∃ Q, Q = outQ s id t n := ⟨_, rfl⟩
      rw [← hQ]
      have HQ6 : Hid (hasB keyR id s.2.2.2 = true → Q = 6) := aside (fun hh => by rw [hQ]; unfold outQ; rw [if_neg (by rw [h0]; decide), if_neg ha, if_pos hh])
      have HQ0 : Hid (hasB keyR id s.2.2.2 = false → Q = if 60 < s.2.2.2.length + 1 then 4 else 0) := aside (fun hh => by rw [hQ]; unfold outQ; rw [if_neg (by rw [h0]; decide), if_neg ha, if_neg (by rw [hh]; decide)])
      have hcaps := peg_caps HP.out
      have hpf := Fit.piles hf
      have hal := Fit.amt_le hf t
      have hbig := Fit.big hf
      obtain ⟨p2, hp2⟩ : ∃ p2, p2 = setP t (amtS t s.2.1 - n) s.2.1 := ⟨_, rfl⟩
      obtain ⟨xn, hxn⟩ : ∃ xn, xn = insK keyR (id, n, false) s.2.2.2 := ⟨_, rfl⟩
      have HXN := aside hxn
      have HXL : Hid (hasB keyR id s.2.2.2 = false → xn.length = n3 + 1) := aside (fun hh => by rw [hxn, hl3]; exact len_insK hf.ar (id, n, false) hh)
      have HR : Hid (outR s id t n = (s.1, p2, s.2.2.1, xn)) := aside (by unfold outR; rw [hp2, hxn])
      have HPd : Hid (∀ W, Below w.heap.size w W → Calls Tryd.prog 30 #[.slice A1 n1 c1, .int .i64 t, .int .i64 (amtS t s.2.1 - n)] W (fun e w' => ∃ A' c', e = .returned (.slice A' p2.length c') ∧ OwnP w' W.heap.size (.slice A' p2.length c') p2.length p2 ∧ p2.length ≤ c' ∧ c' ≤ maxLen ∧ Below W.heap.size W w')) := aside (fun W hW => by
        rw [hp2]
        exact piled_any s.2.1 A1 n1 c1 t (amtS t s.2.1 - n) W ((FSl.below h1 hW).more hW.size) (by have := hf.lp; omega) (by omega))
      have HPo2 : Hid (∀ W A' n' c', FSl encR 3 W W.heap.size A' n' xn → n' ≤ c' → c' ≤ maxLen → Below w.heap.size w W → Calls Tryd.prog 8 #[.agg #[.int .i64 l, .slice A1 n1 c1, .slice A2 n2 c2, .slice A' n' c'], .int .i64 t] W (fun e w' => e = .returned (.int .i64 (amtS t s.2.1)) ∧ Below W.heap.size W w')) := aside (fun W A' n' c' hF hc1 hc2 hW => pileOf_any (s.1, s.2.1, s.2.2.1, xn) _ hf.ap (Nat.le_trans hf.lp (by decide)) t W (peg_make hl ((FSl.below h1 hW).more hW.size) ((FSl.below h2 hW).more hW.size) hF ⟨hcaps.1, hcaps.2.1, hc1, hcaps.2.2.2.1, hc2⟩))
      have hw1 : IntKind.i64.wrap (amtS t s.2.1 - n) = amtS t s.2.1 - n := by rw [IntKind.wrap_i64]; omega
      have ha' : (amtS t s.2.1 < n) = False := by simp only [eq_iff_iff, iff_false]; exact ha
      have hnb : n3 ≤ 60 := by have := hf.lr; omega
      have HL : Hid (l = s.1) := aside hl
      have H1 := aside h1
      have H2 := aside h2
      have H3 := aside h3
      have HLn : Hid (s.2.2.2.length = n3) := aside (hl3.symm)
      have HO0 : Hid (∀ W, OwnR W (w.heap.size + 2) (.slice none 0 0) 0 []) := aside (fun W => ⟨by simp, .inl ⟨rfl, rfl⟩⟩)
      generalize amtS t s.2.1 = am at hpo ha' HPd hw1 HPo2
      clear hQ h0 hf hn0 hn1 hl hl1 hl2 hl3 h1 h2 h3 hcaps hpf hal hbig hp2 hxn ha
      go_enter Tryd.func15, Tryd.ntmps15
      go_wp2_with (first
        | (go_at_call 29; refine (HBg.out _ TA0.out.below).mono ?_; rintro e w1 ⟨rfl, hb⟩; have TA1 := aside (TA0.out.step hb); have pc := TA1.out.cells; obtain ⟨⟨e0, e1, e2, e3⟩, -⟩ := pc; have pr := TA1.out.rescells; obtain ⟨⟨r0, r1, r2, r3⟩, rf0, rf1, rf2, rf3⟩ := pr; clear hb)
        | (go_at_call 8; refine (hpo.out _ TA1.out.below).mono ?_; rintro e w2 ⟨rfl, hb⟩; have TA2 := aside (TA1.out.step hb); clear e0 e1 e2 e3 r0 r1 r2 r3 rf0 rf1 rf2 rf3; have pc := TA2.out.cells; obtain ⟨⟨e0, e1, e2, e3⟩, -⟩ := pc; have pr := TA2.out.rescells; obtain ⟨⟨r0, r1, r2, r3⟩, rf0, rf1, rf2, rf3⟩ := pr; clear hb)
        | fail)
      clear e0 e1 e2 e3 r0 r1 r2 r3 rf0 rf1 rf2 rf3
      go_loopw [10, 11, 12] (fun v10 v11 v12 wr => ∃ (j : Nat) (q : Int) (A : Option Addr) (c : Nat), j ≤ n3 ∧ v12 = .int .i64 j ∧ v10 = .int .i64 q ∧ v11 = .slice A (loR id s.2.2.2 j).length c ∧ Hid ((q = 0 ∧ ∀ k, k < j → keyR (s.2.2.2.getD k (0, 0, false)) ≠ id) ∨ (q = 6 ∧ ∃ k, k < n3 ∧ keyR (s.2.2.2.getD k (0, 0, false)) = id)) ∧ Hid (OwnR wr (w.heap.size + 2) (.slice A (loR id s.2.2.2 j).length c) (loR id s.2.2.2 j).length (loR id s.2.2.2 j)) ∧ Hid (TwoAt w wr (.int .i64 l) (.slice A1 n1 c1) (.slice A2 n2 c2) (.slice A3 n3 c3))) (fun _ _ v12 _ => n3 - (Go.RowKit.intOf v12).toNat)
      case atStart => exact ⟨0, 0, none, 0, by omega, rfl, rfl, rfl, aside (.inl ⟨rfl, fun k hk => absurd hk (Nat.not_lt_zero k)⟩), HO0.out _, TA2⟩
      case round =>
        obtain ⟨j, q, A, c, hj, rfl, rfl, rfl, HE, HO, TA⟩ := hrel
        have pc := TA.out.cells
        obtain ⟨⟨e0, e1, e2, e3⟩, -⟩ := pc
        have pr := TA.out.rescells
        obtain ⟨⟨r0, r1, r2, r3⟩, rf0, rf1, rf2, rf3⟩ := pr
        have hbz := TA.out.size
        have hll := filt_len (fun x => decide (keyR x < id)) s.2.2.2 j
        change (loR id s.2.2.2 j).length ≤ j at hll
        rcases HE.out with ⟨rfl, hall⟩ | ⟨rfl, hex⟩
        · have HAll := aside hall
          clear HE hall
          by_cases hjn : j < n3
          · obtain ⟨b, o, hXe, hb, hc⟩ := FSl.at_ encR_len (by decide) (0, 0, false) (FSl.below H3.out TA.out.below) hjn
            have hst := filt_step (fun x => decide (keyR x < id)) (0, 0, false) (xs := s.2.2.2) (k := j) (by have := HLn.out; omega)
            change loR id s.2.2.2 (j + 1) = loR id s.2.2.2 j ++ _ at hst
            obtain ⟨⟨y, m, pd⟩, hy⟩ : ∃ q : Int × Int × Bool, q = s.2.2.2.getD j (0, 0, false) := ⟨_, rfl⟩
            rw [← hy] at hc hst
            have HY := aside hy
            have c0 := hc 0 (.int .i64 y) rfl
            rw [Nat.add_zero] at c0
            have c1' := hc 1 (.int .i64 m) rfl
            have c2' := hc 2 (.bool pd) rfl
            subst hXe
            have i0 : (j : Int) < (n3 : Int) := by omega
            clear hc hy
            obtain ⟨lo, hlo⟩ : ∃ lo, lo = loR id s.2.2.2 j := ⟨_, rfl⟩
            rw [← hlo] at hst hll HO ⊢
            by_cases hk : y < id
            · have hne : (y == id) = false := by simp; omega
              rw [if_pos (show (fun x : Int × Int × Bool => decide (keyR x < id)) (y, m, pd) = true from decide_eq_true hk)] at hst
              have HST := aside hst
              have HN : Hid (∀ k, k < j + 1 → keyR (s.2.2.2.getD k (0, 0, false)) ≠ id) := aside (fun k hk' => by
                rcases Nat.lt_succ_iff_lt_or_eq.1 hk' with h | rfl
                · exact HAll.out k h
                · rw [← HY.out]
                  show y ≠ id
                  omega)
              clear hst hlo
              go_wp2_with (first
                | (at_builtin; refine wpList_push rfl (.tmp 53) (.tmp 59) 24 rfl (w.heap.size + 2) _ 3 24 Tryd.underlying24 infoR rfl (by decide) (.slice A lo.length c) lo.length _ rfl rfl rfl rfl HO.out (by omega) (by unfold maxLen; omega) (by exact hbz) ?_; intro A7 c7 w7 hc7 hc7' hown7 hb7 hz7' hg7)
                | fail)
              have HO7 := aside hown7
              have TA7 := aside (TA.out.ahead hb7)
              clear hown7 hb7 hg7
              have hl7 : (loR id s.2.2.2 (j + 1)).length = lo.length + 1 := by rw [HST.out]; simp
              exact ⟨⟨j + 1, 0, A7, c7, by omega, by go_num, rfl, by rw [hl7], aside (.inl ⟨rfl, HN.out⟩), aside (by rw [hl7, HST.out]; show w7.ownsRow _ _ _ _ _ _; rw [List.flatMap_append]; exact HO7.out), TA7⟩, by simp [Go.RowKit.intOf]; omega⟩
            · rw [if_neg (show ¬ (fun x : Int × Int × Bool => decide (keyR x < id)) (y, m, pd) = true from fun e => hk (of_decide_eq_true e)), List.append_nil] at hst
              have HST := aside hst
              clear hst hlo
              by_cases he : y = id
              · have HX : Hid (∃ k, k < n3 ∧ keyR (s.2.2.2.getD k (0, 0, false)) = id) := aside ⟨j, hjn, by rw [← HY.out]; exact he⟩
                subst he
                clear hk
                go_wp2
                exact ⟨⟨j + 1, 6, A, c, by omega, by go_num, rfl, by rw [HST.out], aside (.inr ⟨rfl, HX.out⟩), aside (by rw [HST.out]; exact HO.out), TA⟩, by simp [Go.RowKit.intOf]; omega⟩
              · have hne : (y == id) = false := by simpa using he
                have HN : Hid (∀ k, k < j + 1 → keyR (s.2.2.2.getD k (0, 0, false)) ≠ id) := aside (fun k hk' => by
                  rcases Nat.lt_succ_iff_lt_or_eq.1 hk' with h | rfl
                  · exact HAll.out k h
                  · rw [← HY.out]
                    exact he)
                clear he
                go_wp2
                exact ⟨⟨j + 1, 0, A, c, by omega, by go_num, rfl, by rw [HST.out], aside (.inl ⟨rfl, HN.out⟩), aside (by rw [HST.out]; exact HO.out), TA⟩, by simp [Go.RowKit.intOf]; omega⟩
          · obtain rfl : n3 = j := by omega
            have HF := aside (hasn.out HAll.out)
            have HQ := aside (HQ0.out HF.out)
            have HXL2 := aside (HXL.out HF.out)
            have hlo : loR id s.2.2.2 n3 = s.2.2.2.filter (fun x => decide (keyR x < id)) := by unfold loR; rw [← HLn.out, List.take_length]
            rw [hlo] at HO hll ⊢
            obtain ⟨lo, hlo'⟩ : ∃ lo, lo = s.2.2.2.filter (fun x => decide (keyR x < id)) := ⟨_, rfl⟩
            rw [← hlo'] at HO hll ⊢
            clear hlo
            have HLO := aside hlo'
            clear hlo' HAll hasn HasIt HQ6 HQ0 HXL
            have i0 : ((n3 : Int) < (n3 : Int)) = False := by simp
            go_wp2_with (first
              | (at_builtin; refine wpList_push rfl (.tmp 65) (.tmp 69) 24 rfl (w.heap.size + 2) _ 3 24 Tryd.underlying24 infoR rfl (by decide) (.slice A lo.length c) lo.length _ rfl rfl rfl rfl HO.out (by omega) (by unfold maxLen; omega) (by exact hbz) ?_; intro A8 c8 w8 hc8 hc8' hown8 hb8 hz8' hg8)
              | fail)
            obtain ⟨mid, hmid⟩ : ∃ mid, mid = lo ++ [(id, n, false)] := ⟨_, rfl⟩
            have hml : mid.length = lo.length + 1 := by rw [hmid]; simp
            have HO8 : Hid (OwnR w8 (w.heap.size + 2) (.slice A8 mid.length c8) mid.length mid) := aside (by rw [hml, hmid]; show w8.ownsRow _ _ _ _ _ _; rw [List.flatMap_append]; exact hown8)
            have TA8 := aside (TA.out.ahead hb8)
            have HMid := aside hmid
            rw [← hml]
            have hml2 : mid.length ≤ lo.length + 1 := Nat.le_of_eq hml
            clear hml hown8 hb8 hg8 hmid HO hbz e0 e1 e2 e3 r0 r1 r2 r3 rf0 rf1 rf2 rf3 i0 hc8 hc8' hz8'
            go_loopw [11, 13] (fun v11 v13 wr => ∃ (q : Nat) (A : Option Addr) (c : Nat), q ≤ n3 ∧ v13 = .int .i64 q ∧ v11 = .slice A (mid ++ hiR id s.2.2.2 q).length c ∧ Hid (OwnR wr (w.heap.size + 2) (.slice A (mid ++ hiR id s.2.2.2 q).length c) (mid ++ hiR id s.2.2.2 q).length (mid ++ hiR id s.2.2.2 q)) ∧ Hid (TwoAt w wr (.int .i64 l) (.slice A1 n1 c1) (.slice A2 n2 c2) (.slice A3 n3 c3))) (fun _ v13 _ => n3 - (Go.RowKit.intOf v13).toNat)
            case atStart =>
              have e0 : mid ++ hiR id s.2.2.2 0 = mid := by unfold hiR; simp
              exact ⟨0, A8, c8, by omega, rfl, by rw [e0], by rw [e0]; exact HO8, TA8⟩
            case round =>
              clear TA HO8 TA8
              obtain ⟨q, A9, c9, hq, rfl, rfl, HO, TA⟩ := hrel
              have hll2 := filt_len (fun x => decide (id < keyR x)) s.2.2.2 q
              change (hiR id s.2.2.2 q).length ≤ q at hll2
              have pc := TA.out.cells
              obtain ⟨⟨e0, e1, e2, e3⟩, ef0, ef1, ef2, ef3⟩ := pc
              have hbz := TA.out.size
              obtain ⟨xs, hxs⟩ : ∃ xs, xs = mid ++ hiR id s.2.2.2 q := ⟨_, rfl⟩
              have hxl : xs.length ≤ 1000 := by rw [hxs, List.length_append]; omega
              rw [← hxs] at HO ⊢
              by_cases hqn : q < n3
              · obtain ⟨b, o, hXe, hb, hc⟩ := FSl.at_ encR_len (by decide) (0, 0, false) (FSl.below H3.out TA.out.below) hqn
                have hst := filt_step (fun x => decide (id < keyR x)) (0, 0, false) (xs := s.2.2.2) (k := q) (by have := HLn.out; omega)
                change hiR id s.2.2.2 (q + 1) = hiR id s.2.2.2 q ++ _ at hst
                obtain ⟨⟨y, m, pd⟩, hy⟩ : ∃ q' : Int × Int × Bool, q' = s.2.2.2.getD q (0, 0, false) := ⟨_, rfl⟩
                rw [← hy] at hc hst
                have c0 := hc 0 (.int .i64 y) rfl
                rw [Nat.add_zero] at c0
                have c1' := hc 1 (.int .i64 m) rfl
                have c2' := hc 2 (.bool pd) rfl
                subst hXe
                have i0 : (q : Int) < (n3 : Int) := by omega
                clear hc hy
                by_cases hk : id < y
                · rw [if_pos (show (fun x : Int × Int × Bool => decide (id < keyR x)) (y, m, pd) = true from decide_eq_true hk)] at hst
                  have HST : Hid (mid ++ hiR id s.2.2.2 (q + 1) = xs ++ [(y, m, pd)]) := aside (by rw [hst, hxs, List.append_assoc])
                  clear hst hxs
                  go_wp2_with (first
                    | (at_builtin; refine wpList_push rfl (.tmp 86) (.tmp 92) 24 rfl (w.heap.size + 2) _ 3 24 Tryd.underlying24 infoR rfl (by decide) (.slice A9 xs.length c9) xs.length _ rfl rfl rfl rfl HO.out (by omega) (by unfold maxLen; omega) (by exact hbz) ?_; intro A5 c5 w5 hc5 hc5' hown5 hb5 hz5' hg5)
                    | fail)
                  have HO5 := aside hown5
                  have TA5 := aside (TA.out.ahead hb5)
                  clear hown5 hb5 hg5
                  have hl5 : (mid ++ hiR id s.2.2.2 (q + 1)).length = xs.length + 1 := by rw [HST.out]; simp
                  exact ⟨⟨q + 1, A5, c5, by omega, by go_num, by rw [hl5], aside (by rw [hl5, HST.out]; show w5.ownsRow _ _ _ _ _ _; rw [List.flatMap_append]; exact HO5.out), TA5⟩, by simp [Go.RowKit.intOf]; omega⟩
                · rw [if_neg (show ¬ (fun x : Int × Int × Bool => decide (id < keyR x)) (y, m, pd) = true from fun e => hk (of_decide_eq_true e)), List.append_nil] at hst
                  have HST : Hid (mid ++ hiR id s.2.2.2 (q + 1) = xs) := aside (by rw [hst, hxs])
                  clear hst hxs
                  go_wp2
                  exact ⟨⟨q + 1, A9, c9, by omega, by go_num, by rw [HST.out], aside (by rw [HST.out]; exact HO.out), TA⟩, by simp [Go.RowKit.intOf]; omega⟩
              · obtain rfl : n3 = q := by omega
                have hxx : xs = xn := by
                  rw [HXN.out, hxs, HMid.out, HLO.out]
                  unfold hiR insK
                  rw [← HLn.out, List.take_length, List.append_assoc]
                  rfl
                subst hxx
                have i0 : ((n3 : Int) < (n3 : Int)) = False := by simp
                clear hxs HXN HMid HLO hll2 hll hml2
                go_wp2_with fail
                obtain ⟨W, hW⟩ : ∃ W, W = wr.setCell ⟨w.heap.size, 3, none⟩ (.slice A9 xs.length c9) := ⟨_, rfl⟩
                have TB : Hid (TwoAt w W (.int .i64 l) (.slice A1 n1 c1) (.slice A2 n2 c2) (.slice A9 xs.length c9)) := aside (by rw [hW]; exact TA.out.set3 _)
                have HX : Hid (OwnR W (w.heap.size + 2) (.slice A9 xs.length c9) xs.length xs) := aside (by rw [hW]; exact own_box HO.out (Nat.lt_add_of_pos_right (by decide)) _)
                rw [← hW]
                clear hW HO TA e0 e1 e2 e3 ef0 ef1 ef2 ef3 hbz i0 hq hqn
                obtain ⟨xn, hxn⟩ : ∃ xn, xn = xs := ⟨_, rfl⟩
                rw [← hxn] at TB HX HPo2 HR HXL2 hxl ⊢
                clear hxn
                have hdw := TB.out.drew
                have TD := aside hdw
                have hs0 := hdw.cells
                obtain ⟨⟨e0, e1, e2, e3⟩, -⟩ := hs0
                have hFX : Hid (∀ W', Below W.heap.size W W' → FSl encR 3 W' W'.heap.size A9 xn.length xn) := aside (fun W' hW => (FSl.below (Sl.own HX.out) hW).more hW.size)
                have hcap : Hid (xn.length ≤ c9 ∧ c9 ≤ maxLen) := aside (own_caps HX.out)
                clear hdw
                go_cut [10] from 14 (fun v10 wx => v10 = .int .i64 0 ∧ ∃ A5 c5, Hid (TwoAt w wx (.int .i64 l) (.slice A5 p2.length c5) (.slice A2 n2 c2) (.slice A9 xn.length c9)) ∧ Hid (OwnP wx (w.heap.size + 2) (.slice A5 p2.length c5) p2.length p2) ∧ Hid (OwnR wx (w.heap.size + 2) (.slice A9 xn.length c9) xn.length xn))
                case first =>
                  go_region_law
                    (first
                      | ((try go_simp); go_at_call 8; refine (HPo2.out _ A9 xn.length c9 (hFX.out _ (below_drew1 (Below.refl _ _))) hcap.out.1 hcap.out.2 TD.out.below).mono ?_; rintro e w3 ⟨rfl, hb⟩; have hb0 := below_drew0 hb; have HX3 := aside (own_below HX.out hb0); have TA3 := aside (TD.out.step hb); have hs1 := TA3.out.cells; obtain ⟨⟨g0, g1, g2, g3⟩, -⟩ := hs1; clear hb hb0)
                      | ((try go_simp); go_at_call 30; refine (HPd.out _ TA3.out.below).mono ?_; rintro e w4 ⟨A5, c5, rfl, ho, hc1, hc2, hb⟩; have TA4 := aside (TA3.out.step hb); have HO5 := aside ho; have HX4 := aside (own_below HX3.out hb); have hs2 := TA4.out.cells; obtain ⟨⟨q0, q1, q2, q3⟩, q4, q5, q6, q7⟩ := hs2; clear hb ho hc1 hc2))
                  all_goals go_wp2_with fail
                  all_goals go_meet
                  all_goals exact ⟨rfl, _, _, aside (TA4.out.set1 _), aside (own_box (own_lower HO5.out TA3.out.size) (Nat.lt_add_of_pos_right (by decide)) _), aside (own_box HX4.out (Nat.lt_add_of_pos_right (by decide)) _)⟩
                case rest =>
                  obtain ⟨rfl, A5, c5, TC, HO5, HX5⟩ := hcut
                  clear e0 e1 e2 e3 TD TB HX hFX hcap
                  have pc := TC.out.cells
                  obtain ⟨⟨t0, t1, t2, t3⟩, tf0, tf1, tf2, tf3⟩ := pc
                  have pr := TC.out.rescells
                  obtain ⟨⟨r0, r1, r2, r3⟩, rf0, rf1, rf2, rf3⟩ := pr
                  have TE := TC
                  have HOE := HO5
                  have HXE := HX5
                  have hXL := HXL2.out
                  have hLn := HLn.out
                  by_cases q2 : 60 < xn.length
                  · have q2' : (60 : Int) < (xn.length : Int) := by omega
                    have HQq : Hid (Q = 4) := aside (HQ.out.trans (if_pos (by omega)))
                    clear hXL hLn q2
                    go_wp2
                    (try simp only [Exit.inBlock, Exit.then])
                    refine bodyPost_ret (v := .tuple #[.agg #[.int .i64 0, .slice none 0 0, .slice none 0 0, .slice none 0 0], .int .i64 4]) (by simp only [results, Tryd.results15]; go_simp) rfl ?_
                    rw [HQq.out]
                    exact ref_no TE.out (by decide) _ _ _ _ _ rfl
                  · have q2' : ((60 : Int) < (xn.length : Int)) = False := by simp only [eq_iff_iff, iff_false]; omega
                    have HQq : Hid (Q = 0) := aside (HQ.out.trans (if_neg (by omega)))
                    clear hXL hLn q2
                    go_wp2
                    (try simp only [Exit.inBlock, Exit.then])
                    refine bodyPost_ret (v := .tuple #[.agg #[.int .i64 l, .slice A5 p2.length c5, .slice A2 n2 c2, .slice A9 xn.length c9], .int .i64 0]) (by simp only [results, Tryd.results15]; go_simp) rfl ?_
                    rw [HQq.out, HR.out]
                    refine ⟨_, rfl, ?_, kin_make (.inr (far_row HOE.out)) (.inl ⟨rfl, rfl⟩) (.inr (far_row HXE.out)), TE.out.fin _ _ _ _⟩
                    rw [actOut_ok]
                    exact read_make (s := (s.1, p2, s.2.2.1, xn)) (by rw [HL.out]) (Sl.own (own_box4 HOE.out (Nat.lt_succ_self _) _ _ _ _)) ((FSl.below H2.out (TE.out.fin _ _ _ _)).more (TE.out.fin _ _ _ _).size) (Sl.own (own_box4 HXE.out (Nat.lt_succ_self _) _ _ _ _))
        · have hex' := aside hex
          have hex := hex'.out
          by_cases hjn : j < n3
          · have i0 : (j : Int) < (n3 : Int) := by omega
            clear HE
            go_wp2
            (try simp only [Exit.inBlock, Exit.then])
            refine bodyPost_ret (v := .tuple #[.agg #[.int .i64 0, .slice none 0 0, .slice none 0 0, .slice none 0 0], .int .i64 6]) (by simp only [results, Tryd.results15]; go_simp) rfl ?_
            rw [HQ6.out (HasIt.out hex)]
            exact ref_no TA.out (by decide) _ _ _ _ _ rfl
          · have i0 : ((j : Int) < (n3 : Int)) = False := by simp only [eq_iff_iff, iff_false]; omega
            clear HE
            go_wp2
            (try simp only [Exit.inBlock, Exit.then])
            refine bodyPost_ret (v := .tuple #[.agg #[.int .i64 0, .slice none 0 0, .slice none 0 0, .slice none 0 0], .int .i64 6]) (by simp only [results, Tryd.results15]; go_simp) rfl ?_
            rw [HQ6.out (HasIt.out hex)]
            exact ref_no TA.out (by decide) _ _ _ _ _ rfl
  · have hq : outQ s id t n = startS s n := by unfold outQ; rw [if_pos h0]
    rw [hq]
    generalize startS s n = q at HBg h0
    have h0' : (q == 0) = false := by simpa using h0
    have H0 := aside h0
    clear hq h0 hl hl1 hl2 hl3 h1 h2 h3
    by_cases hz : 0 < n3
    · have hz' : (0 : Int) < (n3 : Int) := by omega
      clear hz
      go_enter Tryd.func15, Tryd.ntmps15
      go_wp2_with (first
        | (go_at_call 29; refine (HBg.out _ TA0.out.below).mono ?_; rintro e w1 ⟨rfl, hb⟩; have TA1 := aside (TA0.out.step hb); have pc := TA1.out.cells; obtain ⟨⟨e0, e1, e2, e3⟩, -⟩ := pc; have pr := TA1.out.rescells; obtain ⟨⟨r0, r1, r2, r3⟩, rf0, rf1, rf2, rf3⟩ := pr; clear hb)
        | fail)
      refine wp_loop_rounds 1 ?_
      rw [rounds_succ]
      go_wp2
      all_goals (try simp only [Exit.inBlock, Exit.then])
      all_goals refine bodyPost_ret (v := .tuple #[.agg #[.int .i64 0, .slice none 0 0, .slice none 0 0, .slice none 0 0], .int .i64 q]) (by simp only [results, Tryd.results15]; go_simp) rfl ?_
      all_goals exact ref_no TA1.out H0.out _ _ _ _ _ rfl
    · have hz' : ((0 : Int) < (n3 : Int)) = False := by simp only [eq_iff_iff, iff_false]; omega
      clear hz
      go_enter Tryd.func15, Tryd.ntmps15
      go_wp2_with (first
        | (go_at_call 29; refine (HBg.out _ TA0.out.below).mono ?_; rintro e w1 ⟨rfl, hb⟩; have TA1 := aside (TA0.out.step hb); have pc := TA1.out.cells; obtain ⟨⟨e0, e1, e2, e3⟩, -⟩ := pc; have pr := TA1.out.rescells; obtain ⟨⟨r0, r1, r2, r3⟩, rf0, rf1, rf2, rf3⟩ := pr; clear hb)
        | fail)
      refine wp_loop_rounds 1 ?_
      rw [rounds_succ]
      go_wp2
      all_goals (try simp only [Exit.inBlock, Exit.then])
      all_goals refine bodyPost_ret (v := .tuple #[.agg #[.int .i64 0, .slice none 0 0, .slice none 0 0, .slice none 0 0], .int .i64 q]) (by simp only [results, Tryd.results15]; go_simp) rfl ?_
      all_goals exact ref_no TA1.out H0.out _ _ _ _ _ rfl
end Go.Proofs.YtcmlhopidohimaaDoor
