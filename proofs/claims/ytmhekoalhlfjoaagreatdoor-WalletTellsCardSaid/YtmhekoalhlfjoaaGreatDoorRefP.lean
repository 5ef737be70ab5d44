/- The reference's Owner and Own: the walks. Conditions: named in each theorem. -/
import Derived.Test.YtmhekoalhlfjoaaGreatDoorRefO
import Derived.Test.YtmhekoalhlfjoaaGreatDoorDelA
namespace Go.Proofs.YtmhekoalhlfjoaaGreatDoor
open Go.RowKit Go.ChangeShapes Go.WideShapes Go.ChangeAt

set_option maxHeartbeats 20000000 in
set_option maxRecDepth 100000 in
theorem qowner_any (ls : List Lk) (os : List ROp) (a : Int) (A oA : Option Addr) (N c on oc : Nat) (hN : N ≤ 100) (w : World) (h : Sl w w.heap.size 1 A N (ls.map lkV)) (hl : ∀ l ∈ ls, RSl w w.heap.size l.1 2 l.2) (hd : ∀ l ∈ ls, ∀ r ∈ l.2, r.dn ≤ 1000) (ho : RSl w w.heap.size oA on os) :
    Calls Tryz.prog 17 #[.slice A N c, .agg #[.int .i64 a, .slice oA on oc]] w (fun e w' => e = .returned (.int .i64 (ownF (ls.map lkP) 0 (os.map ROp.pl))) ∧ Below w.heap.size w w') := by
  have hll : ls.length = N := by have := h.len; simpa using this
  obtain ⟨R, hR⟩ : ∃ R, R = ownF (ls.map lkP) 0 (os.map ROp.pl) := ⟨_, rfl⟩
  rw [← hR]
  have HR : Hid (R = ownF ((ls.drop 0).map lkP) ((0 : Nat) : Int) (os.map ROp.pl)) := aside hR
  have B1 : Hid (Below w.heap.size w (w.alloc (.cells #[.int .i64 a, .slice oA on oc] 27))) := aside ((Below.refl _ _).alloc (Nat.le_refl _) _)
  have D0 : Hid ((w.alloc (.cells #[.int .i64 a, .slice oA on oc] 27)).cell? ⟨w.heap.size, 0, none⟩ = some (.int .i64 a) ∧ (w.alloc (.cells #[.int .i64 a, .slice oA on oc] 27)).cell? ⟨w.heap.size, 1, none⟩ = some (.slice oA on oc)) := aside ⟨by
    rw [cell_of_row _ _ 0 _ _ _ (heap_alloc_new w _)]
    rfl, by
    rw [cell_of_row _ _ 1 _ _ _ (heap_alloc_new w _)]
    rfl⟩
  have Z1 : Hid (w.heap.size < (w.alloc (.cells #[.int .i64 a, .slice oA on oc] 27)).heap.size) := aside (by simp)
  have H := aside h
  have HL := aside hl
  have HO := aside ho
  have HD := aside hd
  have HLl := aside hll
  clear h hl ho hll hR hd
  go_enter Tryz.func17, Tryz.ntmps17
  go_wp2_with fail
  change Code.wp _ _ _ _ (w.alloc (.cells #[.int .i64 a, .slice oA on oc] 27))
  generalize (w.alloc (.cells #[.int .i64 a, .slice oA on oc] 27)) = w1 at B1 D0 Z1 ⊢
  obtain ⟨B0, hB0⟩ : ∃ B0, B0 = w.heap.size := ⟨_, rfl⟩
  simp only [← hB0] at D0 Z1 ⊢
  clear hB0
  have HB := aside (Below.refl w1.heap.size w1)
  go_loopw [5] (fun v5 wr => ∃ k : Nat, k ≤ N ∧ v5 = .int .i64 k ∧ Hid (Below w1.heap.size w1 wr) ∧ Hid (R = ownF ((ls.drop k).map lkP) k (os.map ROp.pl))) (fun v5 _ => N - (Go.RowKit.intOf v5).toNat)
  case atStart => exact ⟨0, Nat.zero_le _, rfl, HB, HR⟩
  case round =>
    clear HB HR
    obtain ⟨k, hk, rfl, HB1, HR⟩ := hrel
    have HB : Hid (Below w.heap.size w wr) := aside (B1.out.trans (HB1.out.mono B1.out.size))
    by_cases hkn : k < N
    · have k0 : (k : Int) < (N : Int) := by omega
      have hwz := HB.out.size
      obtain ⟨hmem, hdr⟩ := lk_at (ls := ls) (k := k) (by have := HLl.out; omega)
      obtain ⟨b, of, hAe, hbl, hc⟩ := (Sl.below H.out HB.out).cells (by omega)
      have hck := hc k (lkV (ls.getD k (none, []))) (by
        rw [List.getElem?_map, List.getD_eq_getElem?_getD, List.getElem?_eq_getElem (by have := HLl.out; omega)]
        rfl)
      have hRl := ((HL.out _ hmem).below HB.out).more hwz
      have hRo := (HO.out.below HB.out).more hwz
      have hRd := HD.out _ hmem
      have c0 := (HB1.out.cell (p := ⟨B0, 0, none⟩) Z1.out).trans D0.out.1
      have c1 := (HB1.out.cell (p := ⟨B0, 1, none⟩) Z1.out).trans D0.out.2
      generalize ls.getD k (none, []) = l at *
      obtain ⟨lA, lr⟩ := l
      unfold lkV at hck
      dsimp only at hck
      obtain ⟨W, hW⟩ : ∃ W : Bool, W = decide (lr.map ROp.pl = os.map ROp.pl) := ⟨_, rfl⟩
      have hWi : W = true ↔ lr.map ROp.pl = os.map ROp.pl := by rw [hW]; exact decide_eq_true_iff
      have HC := aside (rsout_any a a lr os W (by rw [hWi]; simp) lA oA 2 2 on oc (by decide) (wr.drewN 1) (hRl.drewN 1) (hRo.drewN 1) hRd)
      have hRn := HR.out
      rw [hdr, List.map_cons] at hRn
      have hRn2 : R = if lr.map ROp.pl = os.map ROp.pl then (k : Int) else ownF ((ls.drop (k + 1)).map lkP) ((k : Int) + 1) (os.map ROp.pl) := hRn
      have HRn := aside hRn2
      have HW := aside hWi
      subst hAe
      have HS0 : wr.drew.cell? ⟨B0, 0, none⟩ = some (.int .i64 a) ∧ wr.drew.cell? ⟨B0, 1, none⟩ = some (.slice oA on oc) ∧ wr.drew.cell? ⟨b, of + k, none⟩ = some (.slice lA 2 2) := ⟨c0, c1, hck⟩
      have l0 : B0 < wr.heap.size := Nat.lt_of_lt_of_le Z1.out HB1.out.size
      have l1 : b < wr.heap.size := by omega
      clear hW hWi hRl hRo hmem hdr hc hRn hRn2 hbl hkn hRd
      go_wp2_with fail
      go_region_held3 (fun X => X.cell? ⟨B0, 0, none⟩ = some (.int .i64 a) ∧ X.cell? ⟨B0, 1, none⟩ = some (.slice oA on oc) ∧ X.cell? ⟨b, of + k, none⟩ = some (.slice lA 2 2))
        (first | (with_reducible exact HS0) | (refine ⟨?_, ?_, ?_⟩ <;> assumption))
        (first | (go_at_call 33; refine HC.out.mono ?_; rintro e w3 ⟨rfl, hb3⟩; have hs1 := (hb3.cell (p := ⟨B0, 0, none⟩) l0).trans c0; have hs2 := (hb3.cell (p := ⟨B0, 1, none⟩) l0).trans c1; have hs3 := (hb3.cell (p := ⟨b, of + k, none⟩) l1).trans hck))
      have HB3 : Hid (Below w1.heap.size w1 w3) := aside (HB1.out.trans (((below_drawn (Below.refl wr.heap.size wr) 1).trans hb3).mono HB1.out.size))
      have HBw : Hid (Below w.heap.size w w3) := aside (B1.out.trans (HB3.out.mono B1.out.size))
      clear hb3 HC hck hs1 hs2 hs3 HS0 c0 c1
      cases W with
      | true =>
        have hRk : R = (k : Int) := HRn.out.trans (if_pos (HW.out.1 rfl))
        subst hRk
        go_wp2
        go_ret
        exact ⟨rfl, HBw.out⟩
      | false =>
        have HR2 : Hid (R = ownF ((ls.drop (k + 1)).map lkP) ((k + 1 : Nat) : Int) (os.map ROp.pl)) := aside (HRn.out.trans (if_neg (fun h => absurd (HW.out.2 h) (by simp))))
        go_wp2
        exact ⟨⟨k + 1, by omega, by go_num, HB3, HR2⟩, by simp [Go.RowKit.intOf]; omega⟩
    · obtain rfl : N = k := by omega
      have i0 : ((N : Int) < (N : Int)) = False := by simp
      have hRk : R = -1 := by
        rw [HR.out, List.drop_of_length_le (by have := HLl.out; omega)]
        rfl
      subst hRk
      go_wp2
      go_ret
      exact ⟨rfl, HB.out⟩
theorem filt_one {α : Type} (p : α → Bool) (x : α) : [x].filter p = if p x then [x] else [] := by
  cases h : p x <;> simp [h]
set_option maxHeartbeats 20000000 in
set_option maxRecDepth 100000 in
theorem qown_any (ls : List Lk) (cs : List RCoin) (A oA : Option Addr) (N c n oc : Nat) (hN : N ≤ 100) (hn : n ≤ 1000) (w : World) (h : Sl w w.heap.size 1 A N (ls.map lkV)) (hl : ∀ l ∈ ls, RSl w w.heap.size l.1 2 l.2) (hd : ∀ l ∈ ls, ∀ r ∈ l.2, r.dn ≤ 1000) (hc : CSl w w.heap.size oA n cs) :
    Calls Tryz.prog 12 #[.slice A N c, .slice oA n oc] w (fun e w' => ∃ (A' : Option Addr) (m c' : Nat), m ≤ n ∧ e = .returned (.slice A' m c') ∧ CSl w' w'.heap.size A' m (cs.filter (keepC (ls.map lkP))) ∧ Below w.heap.size w w') := by
  have hln := hc.len
  have HLn := aside hln
  have H := aside h
  have HL := aside hl
  have HC := aside hc
  have HD := aside hd
  have HB0 := aside (Below.refl w.heap.size w)
  have HO0 : Hid (w.ownsRow w.heap.size 61 36 (.slice none 0 0) 0 (((cs.take 0).filter (keepC (ls.map lkP))).flatMap encC)) := aside ⟨by simp, .inl ⟨rfl, rfl⟩⟩
  clear h hl hc hd hln
  go_enter Tryz.func12, Tryz.ntmps12
  go_wp2_with fail
  go_loopw [5, 6] (fun v5 v6 wr => ∃ (k m : Nat) (A1 : Option Addr) (c1 : Nat), m ≤ k ∧ k ≤ n ∧ v6 = .int .i64 k ∧ v5 = .slice A1 m c1 ∧ Hid (wr.ownsRow w.heap.size 61 36 (.slice A1 m c1) m (((cs.take k).filter (keepC (ls.map lkP))).flatMap encC)) ∧ Hid (Below w.heap.size w wr)) (fun _ v6 _ => n - (Go.RowKit.intOf v6).toNat)
  case atStart => exact ⟨0, 0, none, 0, Nat.le_refl _, Nat.zero_le _, rfl, rfl, HO0, HB0⟩
  case round =>
    clear HB0 HO0
    obtain ⟨k, m, A1, c1, hmk, hk, rfl, rfl, HO, HB⟩ := hrel
    by_cases hkn : k < n
    · have k0 : (k : Int) < (n : Int) := by omega
      have hwz := HB.out.size
      have hCB := HC.out.below HB.out
      obtain ⟨b, of, hAe, hb1, hrg⟩ := hCB.at_ hkn
      have hm := hCB.mem hkn
      have hlk := (hCB.lock _ hm).more hwz
      have htk : (cs.take (k + 1)).filter (keepC (ls.map lkP)) = (cs.take k).filter (keepC (ls.map lkP)) ++ (if keepC (ls.map lkP) (cs.getD k noC) then [cs.getD k noC] else []) := by
        rw [take_next noC (by have := HLn.out; omega), List.filter_append]
        congr 1
        exact filt_one _ _
      generalize cs.getD k noC = r at *
      have hq := qowner_any ls r.lk r.amt A r.lA N c r.ln r.lc hN wr ((Sl.below H.out HB.out).more hwz) (fun l hm => ((HL.out l hm).below HB.out).more hwz) HD.out hlk
      have hV : keepC (ls.map lkP) r = decide (0 ≤ ownF (ls.map lkP) 0 (r.lk.map ROp.pl)) := rfl
      generalize ownF (ls.map lkP) 0 (r.lk.map ROp.pl) = R at hq hV
      have HQ := aside hq
      have HV := aside hV
      have HTk := aside htk
      have HRg := aside hrg
      have HRo := aside (range_out hrg)
      have HIo : Hid ((Tryz.prog.info? 27).map (·.size) = some 2) := aside outInfo
      have HS1 : Hid ((Tryz.prog.info? 61).map (·.size) = some (encC r).length) := aside (by rw [encC_len]; kernel_rfl)
      have hbl : b < wr.heap.size := by omega
      subst hAe
      clear hrg hlk hm hCB hkn htk hq hV
      go_wp2_with (first
        | (refine wpList_load_mid rfl 27 (.tmp 17) rfl b (of + k * 36 + 33) rfl [.int .i64 r.amt, .slice r.lA r.ln r.lc] _ HRo.out Tryz.underlying27 rfl HIo.out ?_)
        | fail)
      refine HQ.out.mono ?_
      rintro e w3 ⟨rfl, hb3⟩
      have HB3 : Hid (Below w.heap.size w w3) := aside (HB.out.trans (hb3.mono hwz))
      have HO3 : Hid (w3.ownsRow w.heap.size 61 36 (.slice A1 m c1) m (((cs.take k).filter (keepC (ls.map lkP))).flatMap encC)) := aside (own_below HO.out hb3)
      have HRg3 := aside (range_below HRg.out hb3 hbl)
      have hz3 : w.heap.size ≤ w3.heap.size := HB3.out.size
      clear hb3 HO HB HRg HRo HQ
      by_cases hR : 0 ≤ R
      · have HT2 : Hid ((cs.take (k + 1)).filter (keepC (ls.map lkP)) = (cs.take k).filter (keepC (ls.map lkP)) ++ [r]) := aside (by rw [HTk.out, HV.out, decide_eq_true hR, if_pos rfl])
        have HE1 : Hid ((encC r).toArray.toList.all (fun u => u.oneCell') = true) := aside (List.all_eq_true.2 (encC_one r))
        have HE2 : Hid ((encC r).toArray.size = 36) := aside (by simp only [List.size_toArray, encC_len])
        clear HTk
        go_wp2_with (first
          | (refine wpList_load_mid rfl 61 (.tmp 24) rfl b (of + k * 36) rfl (encC r) _ HRg3.out Tryz.underlying61 rfl HS1.out ?_)
          | (refine wpList_coin rfl (.tmp 25) rfl (encC r) rfl (encC_len r) ?_)
          | (at_builtin; refine wpList_push rfl (.tmp 21) (.tmp 26) 24 rfl w.heap.size _ 36 80 Tryz.underlying24 infoC (by kernel_rfl) (by decide) (.slice A1 m c1) m _ rfl rfl HE2.out HE1.out HO3.out (by omega) (by unfold maxLen; omega) hz3 ?_; intro A3 c3 w5 hc3 hc3' hown3 hb5 hz5 hg5)
          | fail)
        have HO5 : Hid (w5.ownsRow w.heap.size 61 36 (.slice A3 (m + 1) c3) (m + 1) (((cs.take (k + 1)).filter (keepC (ls.map lkP))).flatMap encC)) := aside (by rw [HT2.out, List.flatMap_append]; simpa using hown3)
        exact ⟨⟨k + 1, m + 1, A3, c3, by omega, by omega, by go_num, rfl, HO5, aside (HB3.out.trans hb5)⟩, by simp [Go.RowKit.intOf]; omega⟩
      · have HT2 : Hid ((cs.take (k + 1)).filter (keepC (ls.map lkP)) = (cs.take k).filter (keepC (ls.map lkP))) := aside (by rw [HTk.out, HV.out, decide_eq_false hR]; simp)
        have hR2 : (0 ≤ R) = False := by simp [hR]
        have HO4 : Hid (w3.ownsRow w.heap.size 61 36 (.slice A1 m c1) m (((cs.take (k + 1)).filter (keepC (ls.map lkP))).flatMap encC)) := aside (by rw [HT2.out]; exact HO3.out)
        clear HTk HT2 HO3
        go_wp2
        exact ⟨⟨k + 1, m, A1, c1, by omega, by omega, by go_num, rfl, HO4, HB3⟩, by simp [Go.RowKit.intOf]; omega⟩
    · obtain rfl : n = k := by omega
      have i0 : ((n : Int) < (n : Int)) = False := by simp
      have htn : cs.take n = cs := List.take_of_length_le (by have := HLn.out; omega)
      have HCS : Hid (CSl wr wr.heap.size A1 m (cs.filter (keepC (ls.map lkP)))) := aside (by
        have h9 := Sl.own HO.out
        rw [htn] at h9
        exact ⟨h9, fun r hr => ((HC.out.lock r ((List.mem_filter.1 hr).1)).below HB.out).more HB.out.size, fun r hr => HC.out.tx r ((List.mem_filter.1 hr).1)⟩)
      clear hkn htn HO
      go_wp2
      go_ret
      exact ⟨A1, m, c1, hmk, rfl, HCS.out, HB.out⟩
end Go.Proofs.YtmhekoalhlfjoaaGreatDoor
