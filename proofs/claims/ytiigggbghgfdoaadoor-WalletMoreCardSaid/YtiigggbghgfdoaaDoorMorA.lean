/- The walk of WalletMore. Conditions: named in each theorem. -/
import Derived.Test.YtiigggbghgfdoaaDoorBalA
import Derived.Test.YtiigggbghgfdoaaDoorOwnB
namespace Go.Proofs.YtiigggbghgfdoaaDoor
open Go.RowKit Go.ChangeShapes Go.WideShapes Go.ChangeAt

theorem ownF_mem : ∀ (ls : List (List POp)) (i : Int) (o : List POp), 0 ≤ i → (0 ≤ ownF ls i o ↔ o ∈ ls)
  | [], i, o, _ => by simp [ownF]
  | l :: r, i, o, hi => by
    unfold ownF
    by_cases h : l = o
    · rw [if_pos h]
      simp [h, hi]
    · rw [if_neg h, ownF_mem r (i + 1) o (by omega)]
      simp only [List.mem_cons]
      exact ⟨.inr, fun h2 => h2.elim (fun e => absurd e.symm h) id⟩
/-- The locks of a wallet's first keys. -/
def lksL (d : List Nat) (n : Int) : List (List POp) := (List.range n.toNat).map (lockL d)
theorem keep_more {d : List Nat} {m n : Int} (h : m ≤ n) (r : RCoin) (hk : keepC (lksL d m) r = true) : keepC (lksL d n) r = true := by
  unfold keepC lksL at *
  simp only [decide_eq_true_eq] at *
  rw [ownF_mem _ 0 _ (Int.le_refl _)] at *
  obtain ⟨i, hi, e⟩ := List.mem_map.1 hk
  refine List.mem_map.2 ⟨i, ?_, e⟩
  rw [List.mem_range] at *
  omega
/-- The coins' amounts together. -/
def totI : List RCoin → Int
  | [] => 0
  | c :: r => c.amt + totI r
theorem add_sum : ∀ (cs : List RCoin) (s : Int), (addN (cs.map (·.amt)) s).2 = 0 → (addN (cs.map (·.amt)) s).1 = s + totI cs
  | [], s, _ => by simp [addN, totI]
  | c :: r, s, h => by
    simp only [List.map_cons] at h ⊢
    unfold addN at h ⊢
    by_cases h1 : moneyE c.amt = 0
    · rw [if_neg (by simp [h1])] at h ⊢
      by_cases h2 : 1125899906842624 < s + c.amt
      · rw [if_pos h2] at h
        simp at h
      · rw [if_neg h2] at h ⊢
        rw [add_sum r _ h]
        simp only [totI]
        omega
    · rw [if_pos h1] at h
      exact absurd h h1
theorem tot_more {f g : RCoin → Bool} : ∀ {cs : List RCoin}, (∀ c ∈ cs, 0 ≤ c.amt) → (∀ c ∈ cs, f c = true → g c = true) → totI (cs.filter f) ≤ totI (cs.filter g)
  | [], _, _ => Int.le_refl _
  | c :: r, h, hfg => by
    have ih := tot_more (f := f) (g := g) (cs := r) (fun x hx => h x (List.mem_cons_of_mem _ hx)) (fun x hx => hfg x (List.mem_cons_of_mem _ hx))
    have hc := h c List.mem_cons_self
    cases hf : f c with
    | true =>
      rw [List.filter_cons_of_pos hf, List.filter_cons_of_pos (hfg c List.mem_cons_self hf)]
      simp only [totI]
      omega
    | false =>
      rw [List.filter_cons_of_neg (by simp [hf])]
      cases hg : g c with
      | true =>
        rw [List.filter_cons_of_pos hg]
        simp only [totI]
        omega
      | false =>
        rw [List.filter_cons_of_neg (by simp [hg])]
        exact ih
theorem bal_ok {d : List Nat} {n : Int} {cs : List RCoin} {a : Int} (h : balQ d n cs = (a, 0)) : 1 ≤ n ∧ n ≤ 100 ∧ setQ cs = 0 ∧ a = totI (cs.filter (keepC (lksL d n))) := by
  have h' : (if chQ n cs ≠ 0 then (0, chQ n cs) else csumQ (cs.filter (keepC (lksL d n)))) = (a, 0) := h
  by_cases h1 : chQ n cs = 0
  · rw [if_neg (by simp [h1])] at h'
    unfold csumQ at h'
    by_cases h2 : setQ (cs.filter (keepC (lksL d n))) = 0
    · rw [if_neg (by simp [h2])] at h'
      have h3 := add_sum (cs.filter (keepC (lksL d n))) 0 (by rw [h'])
      rw [h'] at h3
      unfold chQ at h1
      split at h1
      · omega
      · exact ⟨by omega, by omega, h1, by simpa using h3⟩
    · rw [if_pos h2] at h'
      injection h' with _ h'
      exact absurd h' h2
  · rw [if_pos h1] at h'
    injection h' with _ h'
    exact absurd h' h1
theorem bal_more {d : List Nat} {m n : Int} {cs : List RCoin} {a b : Int} (hmn : m ≤ n) (ha : balQ d m cs = (a, 0)) (hb : balQ d n cs = (b, 0)) : a ≤ b := by
  obtain ⟨_, _, hs, rfl⟩ := bal_ok ha
  obtain ⟨_, _, _, rfl⟩ := bal_ok hb
  have hz := (set_zero.1 hs).2
  exact tot_more (fun c hc => (moneyE_zero (coin_zero (chk_each hz c hc)).1).1) (fun c _ => keep_more hmn c)
theorem bal_rest {d : List Nat} {n : Int} {cs : List RCoin} {b : Int} (hb : balQ d n cs = (b, 0)) : balQ d n (cs.filter fun c => !keepC (lksL d n) c) = (0, 0) := by
  obtain ⟨h1, h2, h3, _⟩ := bal_ok hb
  have h4 := set_filter (fun c => !keepC (lksL d n) c) h3
  have h5 : (cs.filter fun c => !keepC (lksL d n) c).filter (keepC (lksL d n)) = [] := by
    rw [List.filter_filter, List.filter_eq_nil_iff]
    intro c _
    cases keepC (lksL d n) c <;> simp
  show (if chQ n (cs.filter fun c => !keepC (lksL d n) c) ≠ 0 then ((0 : Int), chQ n (cs.filter fun c => !keepC (lksL d n) c)) else csumQ ((cs.filter fun c => !keepC (lksL d n) c).filter (keepC (lksL d n)))) = (0, 0)
  have h6 : chQ n (cs.filter fun c => !keepC (lksL d n) c) = 0 := by
    unfold chQ
    rw [if_neg (by omega), h4]
  rw [if_neg (by simp [h6]), h5]
  rfl
set_option maxHeartbeats 40000000 in
set_option maxRecDepth 100000 in
theorem wmore_any (d : List Nat) (hd : d.length = 32) (hb : ∀ x ∈ d, x < 256) (m n : Int) (cs : List RCoin) (A : Option Addr) (N c : Nat) (w : World) (h : CSl w w.heap.size A N cs) (hg : RoundsAt w) :
    Calls Tryd.prog 4 #[digV d, .int .i64 m, .int .i64 n, .slice A N c] w (fun e w' => e = .returned (.bool true) ∧ Below w.heap.size w w') := by
  have hl := h.len
  have B1 : Hid (Below w.heap.size w (w.alloc (.cells (rowY d) 23))) := aside ((Below.refl _ _).alloc (Nat.le_refl _) _)
  have D0 : Hid (BlkY (w.alloc (.cells (rowY d) 23)) w.heap.size 23 d) := aside (BlkY.new w _ _)
  have HL := aside hl
  have HDl := aside hd
  have HDb := aside hb
  have HG := aside hg
  have H := aside h
  have HS7 := aside (zinfo d hd)
  clear hl hd hb hg h
  unfold digV
  go_enter Tryd.func4, Tryd.ntmps4
  go_upto_region 1 with fail
  change Code.wp _ _ _ _ (w.alloc (.cells (rowY d) 23))
  generalize (w.alloc (.cells (rowY d) 23)) = w1 at B1 D0 ⊢
  obtain ⟨B0, hB0⟩ : ∃ B0, B0 = w.heap.size := ⟨_, rfl⟩
  have EB := aside hB0
  simp only [← hB0] at D0 ⊢
  clear hB0
  have l0 := D0.out.lt
  go_wp2_with fail
  refine (mine_any w1 (HG.out.below B1.out)).mono ?_
  rintro e w2 ⟨rfl, hb2⟩
  have HB2 := aside hb2
  have HBw2 : Hid (Below w.heap.size w w2) := aside (B1.out.trans (hb2.mono B1.out.size))
  clear hb2
  by_cases h1 : n < m
  · go_wp2
    go_ret
    exact ⟨rfl, HBw2.out⟩
  have h1' : m ≤ n := by omega
  by_cases h2 : 4 < n
  · clear h1
    go_wp2
    go_ret
    exact ⟨rfl, HBw2.out⟩
  have h2' : n ≤ 4 := by omega
  by_cases h3 : 20 < N
  · have h3' : (20 : Int) < (N : Int) := by omega
    clear h1 h2
    go_wp2
    go_ret
    exact ⟨rfl, HBw2.out⟩
  have h3' : (N : Int) ≤ 20 := by omega
  have hN20 : N ≤ 20 := by omega
  clear h1 h2 h3
  have D2 : Hid (BlkY w2 B0 23 d) := aside (D0.out.below HB2.out l0)
  obtain ⟨R1, hR1⟩ : ∃ R1, R1 = balQ d m cs := ⟨_, rfl⟩
  obtain ⟨R2, hR2⟩ : ∃ R2, R2 = balQ d n cs := ⟨_, rfl⟩
  have HR1 := aside hR1
  have HR2 := aside hR2
  have HC1 := aside (balance_any d HDl.out HDb.out m cs A N c w2 ((H.out.below HBw2.out).more HBw2.out.size) (HG.out.below HBw2.out))
  rw [← hR1] at HC1
  clear hR1
  go_wp2_with (first
    | (refine wpList_load_row rfl 23 (.tmp 4) rfl B0 rfl 23 (rowY d) (0, 0) _ D2.out Tryd.underlying23 rfl HS7.out ?_)
    | fail)
  refine (show Calls _ _ #[digV d, _, _] _ _ from HC1.out).mono ?_
  rintro e w3 ⟨rfl, hb3⟩
  have HB3 : Hid (Below w1.heap.size w1 w3) := aside (HB2.out.trans (hb3.mono HB2.out.size))
  have HBw3 : Hid (Below w.heap.size w w3) := aside (B1.out.trans (HB3.out.mono B1.out.size))
  have D3 : Hid (BlkY w3 B0 23 d) := aside (D0.out.below HB3.out l0)
  have HC2 := aside (balance_any d HDl.out HDb.out n cs A N c w3 ((H.out.below HBw3.out).more HBw3.out.size) (HG.out.below HBw3.out))
  rw [← hR2] at HC2
  clear hb3 HC1 D2 HB2 HBw2 hR2
  go_wp2_with (first
    | (refine wpList_load_row rfl 23 (.tmp 4) rfl B0 rfl 23 (rowY d) (0, 0) _ D3.out Tryd.underlying23 rfl HS7.out ?_)
    | fail)
  refine (show Calls _ _ #[digV d, _, _] _ _ from HC2.out).mono ?_
  rintro e w4 ⟨rfl, hb4⟩
  have HB4 : Hid (Below w1.heap.size w1 w4) := aside (HB3.out.trans (hb4.mono HB3.out.size))
  have HBw4 : Hid (Below w.heap.size w w4) := aside (B1.out.trans (HB4.out.mono B1.out.size))
  clear hb4 HC2 D3 HB3 HBw3
  obtain ⟨a, q1⟩ := R1
  obtain ⟨b, q2⟩ := R2
  by_cases hq1 : ¬ q1 = 0
  · have hq1' := errP_no hq1
    have HQ1 := aside hq1'
    simp only [hq1']
    clear hq1 hq1'
    go_wp2
    go_ret
    exact ⟨rfl, HBw4.out⟩
  obtain rfl := Classical.not_not.1 hq1
  clear hq1
  by_cases hq2 : ¬ q2 = 0
  · have hq2' := errP_no hq2
    simp only [hq2', show errP 0 = Value.nilIface from rfl]
    clear hq2 hq2'
    go_wp2
    go_ret
    exact ⟨rfl, HBw4.out⟩
  obtain rfl := Classical.not_not.1 hq2
  clear hq2
  simp only [show errP 0 = Value.nilIface from rfl]
  have hab := bal_more h1' HR1.out.symm HR2.out.symm
  have HRt := aside (bal_rest HR2.out.symm)
  have hw1 : w.heap.size ≤ w1.heap.size := B1.out.size
  obtain ⟨f, hf⟩ : ∃ f : RCoin → Bool, f = fun c => !keepC (lksL d n) c := ⟨_, rfl⟩
  have HF := aside hf
  rw [← hf] at HRt
  clear hf
  have HO0 : Hid (w4.ownsRow w1.heap.size 42 36 (.slice none ((cs.take 0).filter f).length 0) ((cs.take 0).filter f).length (((cs.take 0).filter f).flatMap encC)) := aside ⟨by simp, .inl ⟨rfl, rfl⟩⟩
  go_wp2_with fail
  go_loopw [14, 15] (fun v14 v15 wr => ∃ (k : Nat) (A1 : Option Addr) (K c1 : Nat), k ≤ N ∧ K ≤ k ∧ v15 = .int .i64 k ∧ v14 = .slice A1 K c1 ∧ Hid (K = ((cs.take k).filter f).length) ∧ Hid (wr.ownsRow w1.heap.size 42 36 (.slice A1 K c1) K (((cs.take k).filter f).flatMap encC)) ∧ Hid (Below w1.heap.size w1 wr)) (fun _ v15 _ => N - (Go.RowKit.intOf v15).toNat)
  case atStart => exact ⟨0, none, 0, 0, Nat.zero_le _, Nat.le_refl _, rfl, rfl, aside rfl, HO0, HB4⟩
  case round =>
    clear HO0 HB4 HBw4
    obtain ⟨k, A1, K, c1, hk, hKk, rfl, rfl, HK, HO, HB⟩ := hrel
    have HBw : Hid (Below w.heap.size w wr) := aside (B1.out.trans (HB.out.mono B1.out.size))
    by_cases hkn : k < N
    · have k0 : (k : Int) < (N : Int) := by omega
      have hCB := H.out.below HBw.out
      obtain ⟨bA, of, hAe, hb1, hrg⟩ := hCB.at_ hkn
      have hm := H.out.mem hkn
      have hlk := hCB.lock _ hm
      have htk : (cs.take (k + 1)).filter f = (cs.take k).filter f ++ (if f (cs.getD k noC) then [cs.getD k noC] else []) := by
        rw [take_next noC (by have := HL.out; omega), List.filter_append]
        congr 1
        exact filter_one _ _
      have hfv : f (cs.getD k noC) = decide (ownF ((List.range n.toNat).map (lockL d)) 0 ((cs.getD k noC).lk.map ROp.pl) < 0) := by
        rw [HF.out]
        show (!keepC (lksL d n) (cs.getD k noC)) = _
        unfold keepC lksL RCoin.pl
        by_cases hz : 0 ≤ ownF ((List.range n.toNat).map (lockL d)) 0 ((cs.getD k noC).lk.map ROp.pl)
        · rw [decide_eq_true hz, decide_eq_false (by omega)]; rfl
        · rw [decide_eq_false hz, decide_eq_true (by omega)]; rfl
      generalize cs.getD k noC = r at *
      have HRo := aside (range_out hrg)
      have HRg := aside hrg
      have HLk := aside hlk
      have HTk := aside htk
      have HFv := aside hfv
      have hbl : bA < wr.heap.size := Nat.lt_of_lt_of_le hb1 HBw.out.size
      have hl0 : B0 < wr.heap.size := Nat.lt_of_lt_of_le l0 HB.out.size
      have D1 : Hid (BlkY wr B0 23 d) := aside (D0.out.below HB.out l0)
      have HS1 : Hid ((Tryd.prog.info? 42).map (·.size) = some (encC r).length) := aside (by rw [encC_len]; kernel_rfl)
      subst hAe
      clear hrg hlk hm hCB hkn htk hfv
      have HP0 := aside (Owns_any d HDl.out HDb.out n (by omega) r.lk r.amt r.lA r.ln r.lc wr.drew ((HLk.out.more HBw.out.size).drewN 1) (HG.out.below (below_drawn HBw.out 1)))
      generalize ownF ((List.range n.toNat).map (lockL d)) 0 (r.lk.map ROp.pl) = V at HP0 HFv
      go_upto_region 14 with fail
      refine wp_region_noPanic ?_
      refine wp_region_held_drew (S := (fun w' => Below wr.heap.size wr w')) (by kernel_rfl) (below_drawn (Below.refl _ _) 1) (fun hS => ?_)
      refine wpAnyH_take (i := 0) (v := _) rfl (by kernel_rfl) (by kernel_rfl) (by kernel_rfl) (fun _ _ _ h => h) (yieldsIf_load_mid (by rfl) _ _ rfl B0 0 rfl (u8s d) _ (fun W hW => (D1.out.below hW hl0).range) Tryd.underlying23 rfl (by rw [u8s_len, HDl.out]; exact digInfo)) hS ?_
      (repeat (first | simp only [List.getElem_toArray] | simp only [List.getElem_cons_succ] | simp only [List.getElem_cons_zero] | simp only [Act.put] | simp only [List.setIfInBounds_toArray] | simp only [List.set_cons_succ] | simp only [List.set_cons_zero]))
      refine wpAnyH_take (i := 1) (v := ?_) rfl (by kernel_rfl) (by kernel_rfl) (by kernel_rfl) (fun _ _ _ h => h) (Or.inl ⟨by rfl, ?_⟩) hS ?_
      rotate_left
      · (intro W hSw; (try dsimp only at hSw); go_simp; try with_reducible rfl)
      (repeat (first | simp only [List.getElem_toArray] | simp only [List.getElem_cons_succ] | simp only [List.getElem_cons_zero] | simp only [Act.put] | simp only [List.setIfInBounds_toArray] | simp only [List.set_cons_succ] | simp only [List.set_cons_zero]))
      refine wpAnyH_take (i := 2) (v := ?_) rfl (by kernel_rfl) (by kernel_rfl) (by kernel_rfl) (fun _ _ _ h => h) (Or.inl ⟨by rfl, ?_⟩) hS ?_
      rotate_left
      · (intro W hSw; (try dsimp only at hSw); go_simp; try with_reducible rfl)
      (repeat (first | simp only [List.getElem_toArray] | simp only [List.getElem_cons_succ] | simp only [List.getElem_cons_zero] | simp only [Act.put] | simp only [List.setIfInBounds_toArray] | simp only [List.set_cons_succ] | simp only [List.set_cons_zero]))
      refine wpAnyH_take (i := 3) (v := ?_) rfl (by kernel_rfl) (by kernel_rfl) (by kernel_rfl) (fun _ _ _ h => h) (Or.inl ⟨by rfl, ?_⟩) hS ?_
      rotate_left
      · (intro W hSw; (try dsimp only at hSw); go_simp; try with_reducible rfl)
      (repeat (first | simp only [List.getElem_toArray] | simp only [List.getElem_cons_succ] | simp only [List.getElem_cons_zero] | simp only [Act.put] | simp only [List.setIfInBounds_toArray] | simp only [List.set_cons_succ] | simp only [List.set_cons_zero]))
      refine wpAnyH_take (i := 4) (v := ?_) rfl (by kernel_rfl) (by kernel_rfl) (by kernel_rfl) (fun _ _ _ h => h) (Or.inl ⟨by rfl, ?_⟩) hS ?_
      rotate_left
      · (intro W hSw; (try dsimp only at hSw); go_simp; try with_reducible rfl)
      (repeat (first | simp only [List.getElem_toArray] | simp only [List.getElem_cons_succ] | simp only [List.getElem_cons_zero] | simp only [Act.put] | simp only [List.setIfInBounds_toArray] | simp only [List.set_cons_succ] | simp only [List.set_cons_zero]))
      refine wpAnyH_take (i := 5) (v := ?_) rfl (by kernel_rfl) (by kernel_rfl) (by kernel_rfl) (fun _ _ _ h => h) (Or.inl ⟨by rfl, ?_⟩) hS ?_
      rotate_left
      · (intro W hSw; (try dsimp only at hSw); go_simp; try with_reducible rfl)
      (repeat (first | simp only [List.getElem_toArray] | simp only [List.getElem_cons_succ] | simp only [List.getElem_cons_zero] | simp only [Act.put] | simp only [List.setIfInBounds_toArray] | simp only [List.set_cons_succ] | simp only [List.set_cons_zero]))
      refine wpAnyH_take (i := 6) (v := _) rfl (by kernel_rfl) (by kernel_rfl) (by kernel_rfl) (fun _ _ _ h => h) (yieldsIf_load_mid (by rfl) _ _ rfl bA (of + k * 36 + 33) rfl [.int .i64 r.amt, .slice r.lA r.ln r.lc] _ (fun W hW => range_below HRo.out hW hbl) Tryd.underlying40 rfl outInfo) hS ?_
      (repeat (first | simp only [List.getElem_toArray] | simp only [List.getElem_cons_succ] | simp only [List.getElem_cons_zero] | simp only [Act.put] | simp only [List.setIfInBounds_toArray] | simp only [List.set_cons_succ] | simp only [List.set_cons_zero]))
      refine wpAnyH_all (rs := [7]) (by kernel_rfl) (by simp) ?_
      intro m hm
      obtain rfl := List.mem_singleton.1 hm
      refine wpOp_of_list rfl ?_
      (repeat (first | simp only [List.getElem_toArray] | simp only [List.getElem_cons_succ] | simp only [List.getElem_cons_zero]))
      go_wp2_with (first
        | (go_at_call 11; refine HP0.out.mono ?_; rintro e w5 ⟨rfl, hb5⟩; have hS3 : Below wr.heap.size wr w5 := hS.trans (hb5.mono (Nat.le_refl _)); have HS3 := aside hS3; clear hb5 hS3)
        | fail)
      change _ ∧ _
      refine ⟨HS3.out, ?_⟩
      (try dsimp only)
      (repeat (first | simp only [List.getElem_toArray] | simp only [List.getElem_cons_succ] | simp only [List.getElem_cons_zero] | simp only [Act.put] | simp only [List.setIfInBounds_toArray] | simp only [List.set_cons_succ] | simp only [List.set_cons_zero]))
      refine wpAnyH_take (i := 8) (v := ?_) rfl (by kernel_rfl) (by kernel_rfl) (by kernel_rfl) (fun _ _ _ h => h) (Or.inl ⟨by rfl, ?_⟩) HS3.out ?_
      rotate_left
      · (intro W hSw; (try dsimp only at hSw); go_simp; try with_reducible rfl)
      (repeat (first | simp only [List.getElem_toArray] | simp only [List.getElem_cons_succ] | simp only [List.getElem_cons_zero] | simp only [Act.put] | simp only [List.setIfInBounds_toArray] | simp only [List.set_cons_succ] | simp only [List.set_cons_zero]))
      refine wpAnyH_done (by kernel_rfl) ?_ _
      refine NoPanic.normal ?_
      have HB5 : Hid (Below w1.heap.size w1 w5) := aside (HB.out.trans (HS3.out.mono HB.out.size))
      have HO5 : Hid (w5.ownsRow w1.heap.size 42 36 (.slice A1 K c1) K (((cs.take k).filter f).flatMap encC)) := aside (own_below HO.out HS3.out)
      have HRg5 : Hid (w5.rangeAt bA (of + k * 36) (encC r)) := aside (range_below HRg.out HS3.out hbl)
      have hz5 : w1.heap.size ≤ w5.heap.size := HB5.out.size
      clear hS HS3 HO HB HBw HRo HRg D1 HLk HP0
      by_cases hV : V < 0
      · have HT2 : Hid ((cs.take (k + 1)).filter f = (cs.take k).filter f ++ [r]) := aside (by
          rw [HTk.out, HFv.out, decide_eq_true hV]
          simp)
        have HE1 : Hid ((encC r).toArray.toList.all (fun u => u.oneCell') = true) := aside (List.all_eq_true.2 (encC_one r))
        have HE2 : Hid ((encC r).toArray.size = 36) := aside (by simp only [List.size_toArray, encC_len])
        clear HTk HFv
        go_wp2_with (first
          | (refine wpList_load_mid rfl 42 (.tmp 71) rfl bA (of + k * 36) rfl (encC r) _ HRg5.out Tryd.underlying42 rfl HS1.out ?_)
          | (refine wpList_coin rfl (.tmp 72) rfl (encC r) rfl (encC_len r) ?_)
          | (at_builtin; refine wpList_push rfl (.tmp 68) (.tmp 73) 24 rfl w1.heap.size _ 36 80 Tryd.underlying24 infoC (by kernel_rfl) (by decide) (.slice A1 K c1) K _ rfl rfl HE2.out HE1.out HO5.out (by omega) (by unfold maxLen; omega) hz5 ?_; intro A3 c3 w6 hc3 hc3' hown3 hb6 hz6 hg6)
          | fail)
        have HO6 : Hid (w6.ownsRow w1.heap.size 42 36 (.slice A3 (K + 1) c3) (K + 1) (((cs.take (k + 1)).filter f).flatMap encC)) := aside (by rw [HT2.out, List.flatMap_append]; simpa using hown3)
        have HK6 : Hid (K + 1 = ((cs.take (k + 1)).filter f).length) := aside (by rw [HT2.out, List.length_append, ← HK.out]; rfl)
        exact ⟨⟨k + 1, A3, K + 1, c3, by omega, by omega, by go_num, rfl, HK6, HO6, aside (HB5.out.trans hb6)⟩, by simp [Go.RowKit.intOf]; omega⟩
      · have hV2 : 0 ≤ V := by omega
        have HT2 : Hid ((cs.take (k + 1)).filter f = (cs.take k).filter f) := aside (by
          rw [HTk.out, HFv.out, decide_eq_false hV]
          simp)
        clear HTk HFv hV
        go_wp2_with fail
        exact ⟨⟨k + 1, A1, K, c1, by omega, by omega, by go_num, rfl, aside (by rw [HT2.out]; exact HK.out), aside (by rw [HT2.out]; exact HO5.out), HB5⟩, by simp [Go.RowKit.intOf]; omega⟩
    · obtain rfl : N = k := by omega
      have i0 : ((N : Int) < (N : Int)) = False := by simp
      have htk : cs.take N = cs := List.take_of_length_le (by have := HL.out; omega)
      rw [htk] at HO HK
      have hCB := H.out.below HBw.out
      have HCr : Hid (CSl wr wr.heap.size A1 K (cs.filter f)) := aside ⟨Sl.own HO.out, fun q hq => (hCB.lock q (List.mem_filter.1 hq).1).more HBw.out.size, fun q hq => hCB.tx q (List.mem_filter.1 hq).1⟩
      have D5 : Hid (BlkY wr B0 23 d) := aside (D0.out.below HB.out l0)
      have HC3 := aside (balance_any d HDl.out HDb.out n (cs.filter f) A1 K c1 wr HCr.out (HG.out.below HBw.out))
      rw [HRt.out, show errP ((0 : Int), (0 : Int)).2 = Value.nilIface from rfl] at HC3
      clear hkn htk hCB HCr HO HK
      go_wp2_with (first
        | (refine wpList_load_row rfl 23 (.tmp 4) rfl B0 rfl 23 (rowY d) (0, 0) _ D5.out Tryd.underlying23 rfl HS7.out ?_)
        | fail)
      refine (show Calls _ _ #[digV d, _, _] _ _ from HC3.out).mono ?_
      rintro e w6 ⟨rfl, hb6⟩
      have HB6 : Hid (Below w.heap.size w w6) := aside (HBw.out.trans (hb6.mono HBw.out.size))
      clear hb6 HC3
      go_wp2
      go_ret
      exact ⟨by simp, HB6.out⟩
end Go.Proofs.YtiigggbghgfdoaaDoor
