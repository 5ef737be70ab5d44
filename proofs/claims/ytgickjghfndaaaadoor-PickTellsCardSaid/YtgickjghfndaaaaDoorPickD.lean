/- pick.till, pick.Great. Conditions: named in each theorem. -/
import Derived.Test.YtgickjghfndaaaaDoorPickC
namespace Go.Proofs.YtgickjghfndaaaaDoor
open Go.RowKit Go.ChangeShapes Go.WideShapes Go.ChangeAt

theorem takeT_step {g : Int → Int} {want : Int} {o : List Int} {i : Nat} {wi : Int} (h : takeT g want o = o.take i ++ takeT g wi (o.drop i)) (hi : i < o.length) (hw : ¬ wi ≤ 0) : takeT g want o = o.take (i + 1) ++ takeT g (wi - g (nth o i)) (o.drop (i + 1)) := by
  have e : o.drop i = nth o i :: o.drop (i + 1) := by rw [nth_get hi]; exact List.drop_eq_getElem_cons hi
  rw [h, e]
  have e2 : o.take (i + 1) = o.take i ++ [nth o i] := by rw [List.take_add_one, List.getElem?_eq_getElem hi, nth_get hi]; rfl
  rw [e2]
  conv => lhs; unfold takeT
  rw [if_neg hw]
  simp
set_option maxHeartbeats 8000000 in
set_option maxRecDepth 100000 in
theorem till_any (ns : List Int) (A : Option Addr) (n c : Nat) (want : Int) (o : List Int) (O : Option Addr) (m c2 : Nat) (_hn : n ≤ 1000) (hm : m ≤ 1000) (hns : ∀ x ∈ ns, 0 ≤ x ∧ x ≤ 1125899906842624) (hw : 0 ≤ want ∧ want ≤ 1125899906842624) (hok : ∀ x ∈ o, OkZ n x) (w : World) (h : ISl w w.heap.size A n ns) (ho : ISl w w.heap.size O m o) :
    Calls Tryd.prog 21 #[.slice A n c, .int .i64 want, .slice O m c2] w (fun e w' => ∃ A' c' p, e = .returned (.slice A' p.length c') ∧ ISl w' w'.heap.size A' p.length p ∧ p = (takeT (atZ ns) want o).mergeSort (fun x y => decide (x ≤ y)) ∧ Below w.heap.size w w') := by
  have hlo := ISl.len ho
  have hln := ISl.len h
  have HLo := aside hlo
  have HLn := aside hln
  have H := aside h
  have HOo := aside ho
  have HNs := aside hns
  have HOk := aside hok
  have HO : Hid (OwnZ w w.heap.size (.slice none 0 0) 0 (o.take 0)) := aside (ownZ_nil _ _)
  have HB := aside (Below.refl w.heap.size w)
  have HT : Hid (takeT (atZ ns) want o = o.take 0 ++ takeT (atZ ns) want (o.drop 0)) := aside (by simp)
  have hwb : -1125899906842624 ≤ want ∧ want ≤ 1125899906842624 := by omega
  clear h ho hlo hln hns hok hw
  go_enter Tryd.func21, Tryd.ntmps21
  go_wp2
  go_loopw [1, 7, 12] (fun v1 v7 v12 wr => ∃ (i : Nat) (A1 : Option Addr) (c1 : Nat) (wi : Int), i ≤ m ∧ v12 = .int .i64 i ∧ v1 = .int .i64 wi ∧ v7 = .slice A1 i c1 ∧ -1125899906842624 ≤ wi ∧ wi ≤ 1125899906842624 ∧ Hid (OwnZ wr w.heap.size (.slice A1 i c1) i (o.take i)) ∧ Hid (Below w.heap.size w wr) ∧ Hid (takeT (atZ ns) want o = o.take i ++ takeT (atZ ns) wi (o.drop i))) (fun _ _ v12 _ => m - (Go.RowKit.intOf v12).toNat)
  case atStart => exact ⟨0, none, 0, want, Nat.zero_le _, rfl, rfl, rfl, hwb.1, hwb.2, HO, HB, HT⟩
  case round =>
    clear HO HB HT
    obtain ⟨i, A1, c1, wi, hi, rfl, rfl, rfl, hw1, hw2, HO, HB, HT⟩ := hrel
    by_cases him : i < m
    · have i0 : (i : Int) < (m : Int) := by omega
      obtain ⟨b, of, hOe, hbl, cO⟩ := ISl.at_ (isl_below HOo.out HB.out) him
      have hx : nth o i ∈ o := nth_mem (by have := HLo.out; omega)
      have hxk := HOk.out _ hx
      obtain ⟨xi, hxi⟩ : ∃ k : Nat, nth o i = (k : Int) := ⟨(nth o i).toNat, by have := hxk.1; omega⟩
      rw [hxi] at cO hxk
      have HXI := aside hxi
      have hxn : xi < n := by have := hxk.2; omega
      obtain ⟨b', of', hAe, hbl', cA⟩ := ISl.at_ (isl_below H.out HB.out) hxn
      have hv := HNs.out _ (nth_mem (zs := ns) (k := xi) (by have := HLn.out; omega))
      have HAt : Hid (atZ ns (nth o i) = nth ns xi) := aside (by rw [hxi]; unfold atZ; rw [Int.toNat_natCast])
      subst hOe
      by_cases hwz : wi ≤ 0
      · have HT2 : Hid (takeT (atZ ns) want o = o.take i) := aside (by rw [HT.out, takeT_low _ hwz, List.append_nil])
        have HT := HT2
        clear HT2 hx hxk hxi hbl hbl' hv HAt cA hxn
        have HLt : Hid ((o.take i).length = i) := aside (by rw [List.length_take]; have := HLo.out; omega)
        go_wp2_with fail
        by_cases hi0 : i = 0
        · subst hi0
          have HTk : Hid (takeT (atZ ns) want o = []) := aside (by rw [HT.out, List.take_zero])
          refine (sortZ_none A1 c1 _).mono ?_
          rintro e w2 ⟨rfl, rfl⟩
          go_wp2
          go_ret
          exact ⟨A1, c1, [], rfl, Sl.nil_, by rw [HTk.out, List.mergeSort_nil], HB.out⟩
        · have hrow := ownZ_row HO.out (Nat.pos_of_ne_zero hi0)
          obtain ⟨g, hA1, hg, hr⟩ := hrow
          have HSo := aside (sortZ_any (o.take i) g i c1 _ hr HLt.out (by omega))
          have HGg := aside hg
          subst hA1
          clear hg hr hi0
          refine HSo.out.mono ?_
          rintro e w2 ⟨rfl, hs, hu⟩
          have HS2 := aside hs
          have HB2 := aside (HB.out.trans (hu.below HGg.out HB.out.size))
          clear hs hu HSo
          go_wp2
          go_ret
          have hpl : ((o.take i).mergeSort fun x y => decide (x ≤ y)).length = i := by rw [(List.mergeSort_perm _ _).length_eq, HLt.out]
          exact ⟨some ⟨g, 0, none⟩, c1, (o.take i).mergeSort fun x y => decide (x ≤ y), by rw [hpl] <;> rfl, by rw [hpl]; exact HS2.out, by rw [HT.out], HB2.out⟩
      · have hwz' : (wi ≤ 0) = False := eq_false hwz
        have HTn := aside (takeT_step HT.out (by have := HLo.out; omega) hwz)
        rw [HAt.out] at HTn
        have hbz := HB.out.size
        have hxz : (xi : Int) < (n : Int) := by omega
        have hwr : IntKind.i64.wrap (wi - nth ns xi) = wi - nth ns xi := by rw [IntKind.wrap_i64]; omega
        have hvv : -1125899906842624 ≤ wi - nth ns xi ∧ wi - nth ns xi ≤ 1125899906842624 := by omega
        have HVV := aside hvv
        have hOn : Hid (o.take (i + 1) = o.take i ++ [(xi : Int)]) := aside (by rw [← hxi, List.take_add_one, List.getElem?_eq_getElem (by have := HLo.out; omega), nth_get (by have := HLo.out; omega)]; rfl)
        generalize nth ns xi = y at cA hwr HTn HVV hv
        subst hAe
        clear hx hxk hxi hbl hbl' hv HAt hwz hvv HT
        go_wp2_with (first
          | (at_builtin; refine wpList_push rfl (.tmp 24) (.tmp 26) 22 rfl w.heap.size _ 1 8 Tryd.underlying22 infoZ rfl (by decide) (.slice A1 i c1) i _ rfl rfl rfl rfl HO.out (by omega) (by unfold maxLen; omega) hbz ?_; intro A3 c3 w3 hc3 hc3' hown3 hb3 hz3' hg3)
          | fail)
        have HO3 : Hid (OwnZ w3 w.heap.size (.slice A3 (i + 1) c3) (i + 1) (o.take (i + 1))) := aside (by rw [hOn.out]; show w3.ownsRow _ _ _ _ _ _; rw [List.map_append]; exact hown3)
        have H3 := aside (HB.out.trans hb3)
        clear hown3 hb3 hg3
        exact ⟨⟨i + 1, A3, c3, wi - y, by omega, by go_num, rfl, rfl, HVV.out.1, HVV.out.2, HO3, H3, HTn⟩, by simp [Go.RowKit.intOf]; omega⟩
    · obtain rfl : m = i := by omega
      have i0 : ((m : Int) < (m : Int)) = False := by simp
      have HT2 : Hid (takeT (atZ ns) want o = o.take m) := aside (by
        rw [HT.out, List.drop_eq_nil_of_le (by have := HLo.out; omega)]
        unfold takeT
        rw [List.append_nil])
      have HT := HT2
      clear HT2
      have HLt : Hid ((o.take m).length = m) := aside (by rw [List.length_take]; have := HLo.out; omega)
      go_wp2_with fail
      by_cases hi0 : m = 0
      · subst hi0
        have HTk : Hid (takeT (atZ ns) want o = []) := aside (by rw [HT.out, List.take_zero])
        refine (sortZ_none A1 c1 _).mono ?_
        rintro e w2 ⟨rfl, rfl⟩
        go_wp2
        go_ret
        exact ⟨A1, c1, [], rfl, Sl.nil_, by rw [HTk.out, List.mergeSort_nil], HB.out⟩
      · have hrow := ownZ_row HO.out (Nat.pos_of_ne_zero hi0)
        obtain ⟨g, hA1, hg, hr⟩ := hrow
        have HSo := aside (sortZ_any (o.take m) g m c1 _ hr HLt.out (by omega))
        have HGg := aside hg
        subst hA1
        clear hg hr hi0
        refine HSo.out.mono ?_
        rintro e w2 ⟨rfl, hs, hu⟩
        have HS2 := aside hs
        have HB2 := aside (HB.out.trans (hu.below HGg.out HB.out.size))
        clear hs hu HSo
        go_wp2
        go_ret
        have hpl : ((o.take m).mergeSort fun x y => decide (x ≤ y)).length = m := by rw [(List.mergeSort_perm _ _).length_eq, HLt.out]
        exact ⟨some ⟨g, 0, none⟩, c1, (o.take m).mergeSort fun x y => decide (x ≤ y), by rw [hpl] <;> rfl, by rw [hpl]; exact HS2.out, by rw [HT.out], HB2.out⟩
/-- What Great tells. -/
def GreatD (ns : List Int) (want : Int) (W : World) (e : Ending) (w' : World) : Prop := ∃ A' c' p o, e = .returned (.tuple #[.slice A' p.length c', .nilIface]) ∧ ISl w' w'.heap.size A' p.length p ∧ p = (takeT (atZ ns) want o).mergeSort (fun x y => decide (x ≤ y)) ∧ o.Perm (rangeZ ns.length) ∧ o.Pairwise (LtG (atZ ns)) ∧ Below W.heap.size W w'
set_option maxHeartbeats 8000000 in
set_option maxRecDepth 100000 in
theorem great_bad (ns : List Int) (A : Option Addr) (n c : Nat) (want : Int) (w : World) (h : ISl w w.heap.size A n ns) (hq : pickQ ns want ≠ 0) :
    Calls Tryd.prog 13 #[.slice A n c, .int .i64 want] w (fun e w' => e = .returned (.tuple #[.slice none 0 0, .iface 24 (.int .i64 (pickQ ns want))]) ∧ Below w.heap.size w w') := by
  have HCk : Hid (∀ W, Below w.heap.size w W → Calls Tryd.prog 7 #[.slice A n c, .int .i64 want] W (fun e w' => e = .returned (.iface 24 (.int .i64 (pickQ ns want))) ∧ w' = W)) := aside (fun W hW => by
    have h2 := pickC_any ns A n c want W (isl_more (isl_below h hW) hW.size)
    rwa [errP_no hq] at h2)
  have HB := aside ((Below.refl w.heap.size w).alloc (Nat.le_refl _) (.cells #[.slice A n c] 22))
  generalize pickQ ns want = q at HCk ⊢
  clear h hq
  go_enter Tryd.func13, Tryd.ntmps13
  go_wp2_with (first
    | (go_at_call 7; refine (HCk.out _ HB.out).mono ?_; rintro e w' ⟨rfl, rfl⟩)
    | fail)
  (try simp only [Exit.inBlock, Exit.then])
  refine bodyPost_ret (v := .tuple #[.slice none 0 0, .iface 24 (.int .i64 q)]) (by simp only [results, Tryd.results13]; go_simp) rfl ?_
  exact ⟨rfl, HB.out⟩
set_option maxHeartbeats 8000000 in
set_option maxRecDepth 100000 in
theorem great_ok (ns : List Int) (A : Option Addr) (n c : Nat) (want : Int) (w : World) (h : ISl w w.heap.size A n ns) (hq : pickQ ns want = 0) :
    Calls Tryd.prog 13 #[.slice A n c, .int .i64 want] w (GreatD ns want w) := by
  have hln := ISl.len h
  obtain ⟨hz1, hz2, hz3, hz4, hz5, hz6⟩ := pickQ_zero hq
  have hn30 : n ≤ 30 := by omega
  have HCk : Hid (∀ W, Below w.heap.size w W → Calls Tryd.prog 7 #[.slice A n c, .int .i64 want] W (fun e w' => e = .returned .nilIface ∧ w' = W)) := aside (fun W hW => by
    have h2 := pickC_any ns A n c want W (isl_more (isl_below h hW) hW.size)
    rwa [hq, show errP 0 = Value.nilIface from rfl] at h2)
  have HB := aside ((Below.refl w.heap.size w).alloc (Nat.le_refl _) (.cells #[.slice A n c] 22))
  have HX : Hid ((w.alloc (.cells #[.slice A n c] 22)).heap[w.heap.size]? = some (.cells #[.slice A n c] 22 (0, 0))) := aside (heap_alloc_new _ _)
  have HZ : Hid (w.heap.size < (w.alloc (.cells #[.slice A n c] 22)).heap.size) := aside (by simp)
  have HLn := aside hln
  have H := aside h
  have HNs := aside hz2
  have HW := aside (And.intro hz3 hz4)
  clear hz1 hz2 hz3 hz4 hz5 hz6 hq h hln
  go_enter Tryd.func13, Tryd.ntmps13
  go_wp2_with (first
    | (go_at_call 7; refine (HCk.out _ HB.out).mono ?_; rintro e w' ⟨rfl, rfl⟩)
    | (go_at_call 22; refine (places_any A n c (by omega) _).mono ?_; rintro e w2 ⟨A2, c2, rfl, ho, hb⟩; have HO := aside ho; have HB2 := aside (HB.out.trans (hb.mono HB.out.size)); have hx2 := (hb.block _ HZ.out).trans HX.out; have HX2 := aside hx2; have HZ2 := aside (Nat.lt_of_lt_of_le HZ.out hb.size); have e0 : w2.cell? ⟨w.heap.size, 0, none⟩ = some (.slice A n c) := (by simp [World.cell?, hx2]); clear ho hb hx2)
    | fail)
  by_cases hn0 : n = 0
  · subst hn0
    refine (sortS_none A2 c2 _ w2).mono ?_
    rintro e w3 ⟨rfl, hw⟩
    subst hw
    have HB3 := HB2
    have HPm : Hid (List.Perm ([] : List Int) (rangeZ 0)) := aside (List.Perm.refl _)
    have HSd : Hid (([] : List Int).Pairwise (LtG (atZ ns))) := aside List.Pairwise.nil
    have HIS : Hid (ISl w3 w3.heap.size A2 0 []) := aside Sl.nil_
    have HTl := aside (till_any ns A 0 c want [] A2 0 c2 (by omega) (by omega) HNs.out HW.out (fun x hx => rangeZ_mem.1 (HPm.out.mem_iff.1 hx)) w3 (isl_more (isl_below H.out HB3.out) HB3.out.size) HIS.out)
    clear hn30
    go_wp2_with fail
    refine HTl.out.mono ?_
    rintro e w4 ⟨A4, c4, p, rfl, hp, hpe, hb4⟩
    have HP := aside hp
    have HPe := aside hpe
    have HB4 := aside (HB3.out.trans (hb4.mono HB3.out.size))
    clear hp hpe hb4 HTl
    go_wp2
    (try simp only [Exit.inBlock, Exit.then])
    refine bodyPost_ret (v := .tuple #[.slice A4 p.length c4, .nilIface]) (by simp only [results, Tryd.results13]; go_simp) rfl ?_
    exact ⟨A4, c4, p, [], rfl, HP.out, HPe.out, by rw [HLn.out]; exact HPm.out, HSd.out, HB4.out⟩
  · have hrow := ownZ_row HO.out (Nat.pos_of_ne_zero hn0)
    obtain ⟨g, hA2, hg, hr⟩ := hrow
    have hgw : w.heap.size < g := Nat.lt_of_lt_of_le HZ.out hg
    have HC := cmpC_of ns A n c w.heap.size g (by omega) w.heap.size w2 HB2.out.size (Nat.le_of_lt hgw) HZ2.out (Nat.ne_of_lt hgw) e0 (isl_below H.out HB2.out)
    have HSt := aside (sortS_any (rangeZ n) (atZ ns) (OkZ n) (rangeZ_rise n) (fun x hx => rangeZ_mem.1 hx) g w.heap.size n c2 (rangeZ_len n) hn30 w2 HC hr)
    have HGw := aside hgw
    subst hA2
    clear HC hg hr hgw hn0
    refine HSt.out.mono ?_
    rintro e w3 ⟨rfl, hex, hu⟩
    obtain ⟨S, hr3, hp3, hs3⟩ := hex
    have HPm := aside hp3
    have HSd := aside hs3
    have HIS : Hid (ISl w3 w3.heap.size (some ⟨g, 0, none⟩) n S) := aside (row_isl hr3 (by rw [hp3.length_eq, rangeZ_len]))
    have HB3 := aside (HB2.out.trans (hu.below (Nat.le_of_lt HGw.out) HB2.out.size))
    have e3 : w3.cell? ⟨w.heap.size, 0, none⟩ = some (.slice A n c) := (hu.cell (p := ⟨w.heap.size, 0, none⟩) HZ2.out (Nat.ne_of_lt HGw.out)).trans e0
    clear hr3 hp3 hs3 hu e0 HSt
    have HTl := aside (till_any ns A n c want S (some ⟨g, 0, none⟩) n c2 (by omega) (by omega) HNs.out HW.out (fun x hx => rangeZ_mem.1 (HPm.out.mem_iff.1 hx)) w3 (isl_more (isl_below H.out HB3.out) HB3.out.size) HIS.out)
    clear hn30
    go_wp2_with fail
    refine HTl.out.mono ?_
    rintro e w4 ⟨A4, c4, p, rfl, hp, hpe, hb4⟩
    have HP := aside hp
    have HPe := aside hpe
    have HB4 := aside (HB3.out.trans (hb4.mono HB3.out.size))
    clear hp hpe hb4 HTl
    go_wp2
    (try simp only [Exit.inBlock, Exit.then])
    refine bodyPost_ret (v := .tuple #[.slice A4 p.length c4, .nilIface]) (by simp only [results, Tryd.results13]; go_simp) rfl ?_
    exact ⟨A4, c4, p, S, rfl, HP.out, HPe.out, by rw [HLn.out]; exact HPm.out, HSd.out, HB4.out⟩
end Go.Proofs.YtgickjghfndaaaaDoor
