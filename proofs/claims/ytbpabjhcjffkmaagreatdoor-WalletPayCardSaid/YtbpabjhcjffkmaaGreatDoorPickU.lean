/- pick.till and pick.Great. Conditions: named in each theorem. pick.till, pick.Great. Conditions: named in each theorem. What picked coins are worth; picked is true; fewer are not enough: plain law. Conditions: named in each theorem. The least choice that is enough: what it is, that none is less. Plain laws. No program in sight. Conditions: named in each theorem. What is told of the least choice, of the first ones and of the greatest: plain laws of PickLeast and PickOrder. Conditions: named in each theorem. The reference's answers in plain words: the greatest first, till it is enough, the last of the least choices. No program in sight. Conditions: named in each theorem. -/
import Derived.Test.YtbpabjhcjffkmaaGreatDoorPickB
import Derived.Test.YtbpabjhcjffkmaaGreatDoorLay
import Derived.Deep.QuietTactic
import Derived.BigQuiet
/- pick.till and pick.Great. Conditions: named in each theorem. -/
namespace Go.Proofs.YtbpabjhcjffkmaaGreatDoor.Pk
open Go.RowKit Go.ChangeShapes Go.WideShapes Go.ChangeAt Go.Sort

theorem row_holds {w : World} {g : Nat} {xs : List Int} (h : RowAt w g xs) : Holds (Value.int .i64) w g 0 xs.toArray := by
 intro j hj
 have hj' : j < xs.length := by simpa using hj
 obtain ⟨h1, h2⟩ := h.cell hj'
 rw [Nat.zero_add, h1]
 refine ⟨?_, h2⟩
 rw [getElem!_pos _ j hj, nth_get hj']
 rfl
theorem upon_sorted {g : Nat} (w : World) (n : Nat) (d : Array Int) (os : Array Obj) : Upon g w (grow (putRow (Value.int .i64) (Sort.ahead w n) g 0 d) os) := by
 refine ⟨rfl, rfl, rfl, ?_, fun k hk hn => ?_⟩
 ·rw [size_grow, size_putRow]
  exact Nat.le_add_right _ _
 ·unfold grow putRow mapBlock
  simp only [Array.getElem?_append, Array.size_modify]
  rw [if_pos (by exact hk)]
  simp only [Array.getElem?_modify]
  rw [if_neg (fun e => hn e.symm)]
  rfl
/-- slices.Sort: the numbers, rising. -/
theorem sortZ_any (zs : List Int) (g n c : Nat) (w : World) (h : RowAt w g zs) (hlen : zs.length = n) (hn : n ≤ 1000) :
  Calls Tryz.prog 106 #[.slice (some ⟨g, 0, none⟩) n c] w (fun e w' => e = .returned (.tuple #[]) ∧ ISl w' w'.heap.size (some ⟨g, 0, none⟩) n (zs.mergeSort fun x y => decide (x ≤ y)) ∧ Upon g w w') := by
 subst hlen
 refine (AnyM.slices_Sort_int Tryz.sortI g 0 c zs w (row_holds h) h.lt (by omega)).mono ?_
 rintro e w' ⟨rfl, q, os, rfl⟩
 refine ⟨rfl, ?_, upon_sorted w q _ os⟩
 have hm : (zs.mergeSort fun x y => decide (x ≤ y)).length = zs.length := (List.mergeSort_perm zs _).length_eq
 have hH := holds_putRow (Value.int .i64) (Sort.ahead w q) g 0 zs.toArray (zs.mergeSort fun x y => decide (x ≤ y)).toArray (holds_ahead _ w q g 0 _ (row_holds h)) (by simp)
 generalize (zs.mergeSort fun x y => decide (x ≤ y)) = ss at hm hH ⊢
 refine ⟨by simpa using hm, fun _ => ⟨g, 0, rfl, ?_, fun j v hv => ?_⟩⟩
 ·rw [size_grow, size_putRow]
  exact Nat.lt_of_lt_of_le h.lt (Nat.le_add_right _ _)
 ·rw [List.getElem?_map] at hv
  obtain ⟨x, hx, rfl⟩ := Option.map_eq_some_iff.1 hv
  have hj := (List.getElem?_eq_some_iff.1 hx).1
  have h1 := (hH j (by simpa using hj)).1
  rw [getElem!_pos _ j (by simpa using hj)] at h1
  have h2 : ss.toArray[j]'(by simpa using hj) = x := by simpa using (List.getElem?_eq_some_iff.1 hx).2
  rw [h2] at h1
  rw [cell?_grow _ _ _ (by rw [size_putRow]; exact h.lt)]
  exact h1
theorem sortZ_none (A : Option Addr) (c : Nat) (w : World) : Calls Tryz.prog 106 #[.slice A 0 c] w (fun e w' => e = .returned (.tuple #[]) ∧ w' = w) := AnyM.slices_Sort_int_none Tryz.sortI A c w
end Go.Proofs.YtbpabjhcjffkmaaGreatDoor.Pk

/- pick.till, pick.Great. Conditions: named in each theorem. -/
namespace Go.Proofs.YtbpabjhcjffkmaaGreatDoor.Pk
open Go.RowKit Go.ChangeShapes Go.WideShapes Go.ChangeAt

theorem takeT_step {g : Int → Int} {want : Int} {o : List Int} {i : Nat} {wi : Int} (h : takeT g want o = o.take i ++ takeT g wi (o.drop i)) (hi : i < o.length) (hw : ¬ wi ≤ 0) : takeT g want o = o.take (i + 1) ++ takeT g (wi - g (nth o i)) (o.drop (i + 1)) := by
 have e : o.drop i = nth o i :: o.drop (i + 1) := by rw [nth_get hi]; exact List.drop_eq_getElem_cons hi
 rw [h, e]
 have e2 : o.take (i + 1) = o.take i ++ [nth o i] := by rw [List.take_add_one, List.getElem?_eq_getElem hi, nth_get hi]; rfl
 rw [e2]
 conv => lhs; unfold takeT
 rw [if_neg hw]
 simp
set_option maxHeartbeats 8000000 in
set_option maxRecDepth 100000 in
theorem till_any (ns : List Int) (A : Option Addr) (n c : Nat) (want : Int) (o : List Int) (O : Option Addr) (m c2 : Nat) (_hn : n ≤ 1000) (hm : m ≤ 1000) (hns : ∀ x ∈ ns, 0 ≤ x ∧ x ≤ 1125899906842624) (hw : 0 ≤ want ∧ want ≤ 1125899906842624) (hok : ∀ x ∈ o, OkZ n x) (w : World) (h : ISl w w.heap.size A n ns) (ho : ISl w w.heap.size O m o) :
  Calls Tryz.prog 68 #[.slice A n c, .int .i64 want, .slice O m c2] w (fun e w' => ∃ A' c' p, e = .returned (.slice A' p.length c') ∧ ISl w' w'.heap.size A' p.length p ∧ p = (takeT (atZ ns) want o).mergeSort (fun x y => decide (x ≤ y)) ∧ Below w.heap.size w w') := by
 have hlo := ISl.len ho
 have hln := ISl.len h
 have HLo := aside hlo
 have HLn := aside hln
 have H := aside h
 have HOo := aside ho
 have HNs := aside hns
 have HOk := aside hok
 have HO : Hid (OwnZ w w.heap.size (.slice none 0 0) 0 (o.take 0)) := aside (ownZ_nil _ _)
 have HB := aside (Below.refl w.heap.size w)
 have HT : Hid (takeT (atZ ns) want o = o.take 0 ++ takeT (atZ ns) want (o.drop 0)) := aside (by simp)
 have hwb : -1125899906842624 ≤ want ∧ want ≤ 1125899906842624 := by omega
 clear h ho hlo hln hns hok hw
 go_enter Tryz.func68, Tryz.ntmps68
 go_wp2
 go_loopw [1, 7, 12] (fun v1 v7 v12 wr => ∃ (i : Nat) (A1 : Option Addr) (c1 : Nat) (wi : Int), i ≤ m ∧ v12 = .int .i64 i ∧ v1 = .int .i64 wi ∧ v7 = .slice A1 i c1 ∧ -1125899906842624 ≤ wi ∧ wi ≤ 1125899906842624 ∧ Hid (OwnZ wr w.heap.size (.slice A1 i c1) i (o.take i)) ∧ Hid (Below w.heap.size w wr) ∧ Hid (takeT (atZ ns) want o = o.take i ++ takeT (atZ ns) wi (o.drop i))) (fun _ _ v12 _ => m - (Go.RowKit.intOf v12).toNat)
 case atStart => exact ⟨0, none, 0, want, Nat.zero_le _, rfl, rfl, rfl, hwb.1, hwb.2, HO, HB, HT⟩
 case round =>
  clear HO HB HT
  obtain ⟨i, A1, c1, wi, hi, rfl, rfl, rfl, hw1, hw2, HO, HB, HT⟩ := hrel
  by_cases him : i < m
  ·have i0 : (i : Int) < (m : Int) := by omega
   obtain ⟨b, of, hOe, hbl, cO⟩ := ISl.at_ (isl_below HOo.out HB.out) him
   have hx : nth o i ∈ o := nth_mem (by have := HLo.out; omega)
   have hxk := HOk.out _ hx
   obtain ⟨xi, hxi⟩ : ∃ k : Nat, nth o i = (k : Int) := ⟨(nth o i).toNat, by have := hxk.1; omega⟩
   rw [hxi] at cO hxk
   have HXI := aside hxi
   have hxn : xi < n := by have := hxk.2; omega
   obtain ⟨b', of', hAe, hbl', cA⟩ := ISl.at_ (isl_below H.out HB.out) hxn
   have hv := HNs.out _ (nth_mem (zs := ns) (k := xi) (by have := HLn.out; omega))
   have HAt : Hid (atZ ns (nth o i) = nth ns xi) := aside (by rw [hxi]; unfold atZ; rw [Int.toNat_natCast])
   subst hOe
   by_cases hwz : wi ≤ 0
   ·have HT2 : Hid (takeT (atZ ns) want o = o.take i) := aside (by rw [HT.out, takeT_low _ hwz, List.append_nil])
    have HT := HT2
    clear HT2 hx hxk hxi hbl hbl' hv HAt cA hxn
    have HLt : Hid ((o.take i).length = i) := aside (by rw [List.length_take]; have := HLo.out; omega)
    go_wp2_with fail
    by_cases hi0 : i = 0
    ·subst hi0
     have HTk : Hid (takeT (atZ ns) want o = []) := aside (by rw [HT.out, List.take_zero])
     refine (sortZ_none A1 c1 _).mono ?_
     rintro e w2 ⟨rfl, rfl⟩
     go_wp2
     go_ret
     exact ⟨A1, c1, [], rfl, Sl.nil_, by rw [HTk.out, List.mergeSort_nil], HB.out⟩
    ·have hrow := ownZ_row HO.out (Nat.pos_of_ne_zero hi0)
     obtain ⟨g, hA1, hg, hr⟩ := hrow
     have HSo := aside (sortZ_any (o.take i) g i c1 _ hr HLt.out (by omega))
     have HGg := aside hg
     subst hA1
     clear hg hr hi0
     refine HSo.out.mono ?_
     rintro e w2 ⟨rfl, hs, hu⟩
     have HS2 := aside hs
     have HB2 := aside (HB.out.trans (hu.below HGg.out HB.out.size))
     clear hs hu HSo
     go_wp2
     go_ret
     have hpl : ((o.take i).mergeSort fun x y => decide (x ≤ y)).length = i := by rw [(List.mergeSort_perm _ _).length_eq, HLt.out]
     exact ⟨some ⟨g, 0, none⟩, c1, (o.take i).mergeSort fun x y => decide (x ≤ y), by rw [hpl] <;> rfl, by rw [hpl]; exact HS2.out, by rw [HT.out], HB2.out⟩
   ·have hwz' : (wi ≤ 0) = False := eq_false hwz
    have HTn := aside (takeT_step HT.out (by have := HLo.out; omega) hwz)
    rw [HAt.out] at HTn
    have hbz := HB.out.size
    have hxz : (xi : Int) < (n : Int) := by omega
    have hwr : IntKind.i64.wrap (wi - nth ns xi) = wi - nth ns xi := by rw [IntKind.wrap_i64]; omega
    have hvv : -1125899906842624 ≤ wi - nth ns xi ∧ wi - nth ns xi ≤ 1125899906842624 := by omega
    have HVV := aside hvv
    have hOn : Hid (o.take (i + 1) = o.take i ++ [(xi : Int)]) := aside (by rw [← hxi, List.take_add_one, List.getElem?_eq_getElem (by have := HLo.out; omega), nth_get (by have := HLo.out; omega)]; rfl)
    generalize nth ns xi = y at cA hwr HTn HVV hv
    subst hAe
    clear hx hxk hxi hbl hbl' hv HAt hwz hvv HT
    go_wp2_with (first
     | (at_builtin; refine wpList_push rfl (.tmp 24) (.tmp 26) 50 rfl w.heap.size _ 1 8 Tryz.underlying50 infoZ rfl (by decide) (.slice A1 i c1) i _ rfl rfl rfl rfl HO.out (by omega) (by unfold maxLen; omega) hbz ?_; intro A3 c3 w3 hc3 hc3' hown3 hb3 hz3' hg3)
     | fail)
    have HO3 : Hid (OwnZ w3 w.heap.size (.slice A3 (i + 1) c3) (i + 1) (o.take (i + 1))) := aside (by rw [hOn.out]; show w3.ownsRow _ _ _ _ _ _; rw [List.map_append]; exact hown3)
    have H3 := aside (HB.out.trans hb3)
    clear hown3 hb3 hg3
    exact ⟨⟨i + 1, A3, c3, wi - y, by omega, by go_num, rfl, rfl, HVV.out.1, HVV.out.2, HO3, H3, HTn⟩, by simp [Go.RowKit.intOf]; omega⟩
  ·obtain rfl : m = i := by omega
   have i0 : ((m : Int) < (m : Int)) = False := by simp
   have HT2 : Hid (takeT (atZ ns) want o = o.take m) := aside (by
    rw [HT.out, List.drop_eq_nil_of_le (by have := HLo.out; omega)]
    unfold takeT
    rw [List.append_nil])
   have HT := HT2
   clear HT2
   have HLt : Hid ((o.take m).length = m) := aside (by rw [List.length_take]; have := HLo.out; omega)
   go_wp2_with fail
   by_cases hi0 : m = 0
   ·subst hi0
    have HTk : Hid (takeT (atZ ns) want o = []) := aside (by rw [HT.out, List.take_zero])
    refine (sortZ_none A1 c1 _).mono ?_
    rintro e w2 ⟨rfl, rfl⟩
    go_wp2
    go_ret
    exact ⟨A1, c1, [], rfl, Sl.nil_, by rw [HTk.out, List.mergeSort_nil], HB.out⟩
   ·have hrow := ownZ_row HO.out (Nat.pos_of_ne_zero hi0)
    obtain ⟨g, hA1, hg, hr⟩ := hrow
    have HSo := aside (sortZ_any (o.take m) g m c1 _ hr HLt.out (by omega))
    have HGg := aside hg
    subst hA1
    clear hg hr hi0
    refine HSo.out.mono ?_
    rintro e w2 ⟨rfl, hs, hu⟩
    have HS2 := aside hs
    have HB2 := aside (HB.out.trans (hu.below HGg.out HB.out.size))
    clear hs hu HSo
    go_wp2
    go_ret
    have hpl : ((o.take m).mergeSort fun x y => decide (x ≤ y)).length = m := by rw [(List.mergeSort_perm _ _).length_eq, HLt.out]
    exact ⟨some ⟨g, 0, none⟩, c1, (o.take m).mergeSort fun x y => decide (x ≤ y), by rw [hpl] <;> rfl, by rw [hpl]; exact HS2.out, by rw [HT.out], HB2.out⟩
/-- What Great tells. -/
def GreatD (ns : List Int) (want : Int) (W : World) (e : Ending) (w' : World) : Prop := ∃ A' c' p o, e = .returned (.tuple #[.slice A' p.length c', .nilIface]) ∧ ISl w' w'.heap.size A' p.length p ∧ p = (takeT (atZ ns) want o).mergeSort (fun x y => decide (x ≤ y)) ∧ o.Perm (rangeZ ns.length) ∧ o.Pairwise (LtG (atZ ns)) ∧ Below W.heap.size W w'
set_option maxHeartbeats 8000000 in
set_option maxRecDepth 100000 in
theorem great_bad (ns : List Int) (A : Option Addr) (n c : Nat) (want : Int) (w : World) (h : ISl w w.heap.size A n ns) (hq : pickQ ns want ≠ 0) :
  Calls Tryz.prog 31 #[.slice A n c, .int .i64 want] w (fun e w' => e = .returned (.tuple #[.slice none 0 0, .iface 33 (.int .i64 (pickQ ns want))]) ∧ Below w.heap.size w w') := by
 have HCk : Hid (∀ W, Below w.heap.size w W → Calls Tryz.prog 63 #[.slice A n c, .int .i64 want] W (fun e w' => e = .returned (.iface 33 (.int .i64 (pickQ ns want))) ∧ w' = W)) := aside (fun W hW => by
  have h2 := pickC_any ns A n c want W (isl_more (isl_below h hW) hW.size)
  rwa [errP_no hq] at h2)
 have HB := aside ((Below.refl w.heap.size w).alloc (Nat.le_refl _) (.cells #[.slice A n c] 50))
 generalize pickQ ns want = q at HCk ⊢
 clear h hq
 go_enter Tryz.func31, Tryz.ntmps31
 go_wp2_with (first
  | (go_at_call 63; refine (HCk.out _ HB.out).mono ?_; rintro e w' ⟨rfl, rfl⟩)
  | fail)
 (try simp only [Exit.inBlock, Exit.then])
 refine bodyPost_ret (v := .tuple #[.slice none 0 0, .iface 33 (.int .i64 q)]) (by simp only [results, Tryz.results31]; go_simp) rfl ?_
 exact ⟨rfl, HB.out⟩
set_option maxHeartbeats 8000000 in
set_option maxRecDepth 100000 in
theorem great_ok (ns : List Int) (A : Option Addr) (n c : Nat) (want : Int) (w : World) (h : ISl w w.heap.size A n ns) (hq : pickQ ns want = 0) :
  Calls Tryz.prog 31 #[.slice A n c, .int .i64 want] w (GreatD ns want w) := by
 have hln := ISl.len h
 obtain ⟨hz1, hz2, hz3, hz4, hz5, hz6⟩ := pickQ_zero hq
 have hn30 : n ≤ 30 := by omega
 have HCk : Hid (∀ W, Below w.heap.size w W → Calls Tryz.prog 63 #[.slice A n c, .int .i64 want] W (fun e w' => e = .returned .nilIface ∧ w' = W)) := aside (fun W hW => by
  have h2 := pickC_any ns A n c want W (isl_more (isl_below h hW) hW.size)
  rwa [hq, show errP 0 = Value.nilIface from rfl] at h2)
 have HB := aside ((Below.refl w.heap.size w).alloc (Nat.le_refl _) (.cells #[.slice A n c] 50))
 have HX : Hid ((w.alloc (.cells #[.slice A n c] 50)).heap[w.heap.size]? = some (.cells #[.slice A n c] 50 (0, 0))) := aside (heap_alloc_new _ _)
 have HZ : Hid (w.heap.size < (w.alloc (.cells #[.slice A n c] 50)).heap.size) := aside (by simp)
 have HLn := aside hln
 have H := aside h
 have HNs := aside hz2
 have HW := aside (And.intro hz3 hz4)
 clear hz1 hz2 hz3 hz4 hz5 hz6 hq h hln
 go_enter Tryz.func31, Tryz.ntmps31
 go_wp2_with (first
  | (go_at_call 63; refine (HCk.out _ HB.out).mono ?_; rintro e w' ⟨rfl, rfl⟩)
  | (go_at_call 64; refine (places_any A n c (by omega) _).mono ?_; rintro e w2 ⟨A2, c2, rfl, ho, hb⟩; have HO := aside ho; have HB2 := aside (HB.out.trans (hb.mono HB.out.size)); have hx2 := (hb.block _ HZ.out).trans HX.out; have HX2 := aside hx2; have HZ2 := aside (Nat.lt_of_lt_of_le HZ.out hb.size); have e0 : w2.cell? ⟨w.heap.size, 0, none⟩ = some (.slice A n c) := (by simp [World.cell?, hx2]); clear ho hb hx2)
  | fail)
 by_cases hn0 : n = 0
 ·subst hn0
  refine (sortS_none A2 c2 _ w2).mono ?_
  rintro e w3 ⟨rfl, hw⟩
  subst hw
  have HB3 := HB2
  have HPm : Hid (List.Perm ([] : List Int) (rangeZ 0)) := aside (List.Perm.refl _)
  have HSd : Hid (([] : List Int).Pairwise (LtG (atZ ns))) := aside List.Pairwise.nil
  have HIS : Hid (ISl w3 w3.heap.size A2 0 []) := aside Sl.nil_
  have HTl := aside (till_any ns A 0 c want [] A2 0 c2 (by omega) (by omega) HNs.out HW.out (fun x hx => rangeZ_mem.1 (HPm.out.mem_iff.1 hx)) w3 (isl_more (isl_below H.out HB3.out) HB3.out.size) HIS.out)
  clear hn30
  go_wp2_with fail
  refine HTl.out.mono ?_
  rintro e w4 ⟨A4, c4, p, rfl, hp, hpe, hb4⟩
  have HP := aside hp
  have HPe := aside hpe
  have HB4 := aside (HB3.out.trans (hb4.mono HB3.out.size))
  clear hp hpe hb4 HTl
  go_wp2
  (try simp only [Exit.inBlock, Exit.then])
  refine bodyPost_ret (v := .tuple #[.slice A4 p.length c4, .nilIface]) (by simp only [results, Tryz.results31]; go_simp) rfl ?_
  exact ⟨A4, c4, p, [], rfl, HP.out, HPe.out, by rw [HLn.out]; exact HPm.out, HSd.out, HB4.out⟩
 ·have hrow := ownZ_row HO.out (Nat.pos_of_ne_zero hn0)
  obtain ⟨g, hA2, hg, hr⟩ := hrow
  have hgw : w.heap.size < g := Nat.lt_of_lt_of_le HZ.out hg
  have HC := cmpC_of ns A n c w.heap.size g (by omega) w.heap.size w2 HB2.out.size (Nat.le_of_lt hgw) HZ2.out (Nat.ne_of_lt hgw) e0 (isl_below H.out HB2.out)
  have HSt := aside (sortS_any (rangeZ n) (atZ ns) (OkZ n) (rangeZ_rise n) (fun x hx => rangeZ_mem.1 hx) g w.heap.size n c2 (rangeZ_len n) hn30 w2 HC hr)
  have HGw := aside hgw
  subst hA2
  clear HC hg hr hgw hn0
  refine HSt.out.mono ?_
  rintro e w3 ⟨rfl, hex, hu⟩
  obtain ⟨S, hr3, hp3, hs3⟩ := hex
  have HPm := aside hp3
  have HSd := aside hs3
  have HIS : Hid (ISl w3 w3.heap.size (some ⟨g, 0, none⟩) n S) := aside (row_isl hr3 (by rw [hp3.length_eq, rangeZ_len]))
  have HB3 := aside (HB2.out.trans (hu.below (Nat.le_of_lt HGw.out) HB2.out.size))
  have e3 : w3.cell? ⟨w.heap.size, 0, none⟩ = some (.slice A n c) := (hu.cell (p := ⟨w.heap.size, 0, none⟩) HZ2.out (Nat.ne_of_lt HGw.out)).trans e0
  clear hr3 hp3 hs3 hu e0 HSt
  have HTl := aside (till_any ns A n c want S (some ⟨g, 0, none⟩) n c2 (by omega) (by omega) HNs.out HW.out (fun x hx => rangeZ_mem.1 (HPm.out.mem_iff.1 hx)) w3 (isl_more (isl_below H.out HB3.out) HB3.out.size) HIS.out)
  clear hn30
  go_wp2_with fail
  refine HTl.out.mono ?_
  rintro e w4 ⟨A4, c4, p, rfl, hp, hpe, hb4⟩
  have HP := aside hp
  have HPe := aside hpe
  have HB4 := aside (HB3.out.trans (hb4.mono HB3.out.size))
  clear hp hpe hb4 HTl
  go_wp2
  (try simp only [Exit.inBlock, Exit.then])
  refine bodyPost_ret (v := .tuple #[.slice A4 p.length c4, .nilIface]) (by simp only [results, Tryz.results31]; go_simp) rfl ?_
  exact ⟨A4, c4, p, S, rfl, HP.out, HPe.out, by rw [HLn.out]; exact HPm.out, HSd.out, HB4.out⟩
end Go.Proofs.YtbpabjhcjffkmaaGreatDoor.Pk

/- What picked coins are worth; picked is true; fewer are not enough: plain law. Conditions: named in each theorem. -/
namespace Go.Proofs.YtbpabjhcjffkmaaGreatDoor.Pk
open Go.RowKit Go.ChangeShapes Go.WideShapes Go.ChangeAt

theorem sumG_take {g : Int → Int} {p : List Int} (h : ∀ x ∈ p, 0 ≤ g x) (k : Nat) : 0 ≤ sumG g (p.take k) ∧ sumG g (p.take k) ≤ sumG g p := by
 have e : sumG g p = sumG g (p.take k) + sumG g (p.drop k) := by rw [← sumG_app, List.take_append_drop]
 have h1 := sumG_nonneg (g := g) (p := p.take k) fun x hx => h x (List.mem_of_mem_take hx)
 have h2 := sumG_nonneg (g := g) (p := p.drop k) fun x hx => h x (List.mem_of_mem_drop hx)
 omega
theorem sumG_next {g : Int → Int} {p : List Int} {k : Nat} (h : k < p.length) : sumG g (p.take (k + 1)) = sumG g (p.take k) + g (nth p k) := by
 rw [List.take_add_one, List.getElem?_eq_getElem h, sumG_app, nth_get h]
 show _ + (g _ + 0) = _
 omega
set_option maxHeartbeats 4000000 in
set_option maxRecDepth 100000 in
theorem worth_any (ns : List Int) (A : Option Addr) (n c : Nat) (p : List Int) (P : Option Addr) (k c' : Nat) (w : World) (h : ISl w w.heap.size A n ns) (hp : ISl w w.heap.size P k p) (hk : k ≤ 1000) (hok : ∀ x ∈ p, OkZ n x) (h0 : ∀ x ∈ p, 0 ≤ atZ ns x) (hM : sumG (atZ ns) p ≤ 1125899906842624) :
  Calls Tryz.prog 20 #[.slice A n c, .slice P k c'] w (fun e w' => e = .returned (.int .i64 (sumG (atZ ns) p)) ∧ w' = w) := by
 have HLp := aside (ISl.len hp)
 have H := aside h
 have HP := aside hp
 have HOk := aside hok
 have H0 := aside h0
 have HM := aside hM
 clear h hp hok h0 hM
 go_enter Tryz.func20, Tryz.ntmps20
 go_wp2
 go_loopw [5, 6] (fun v5 v6 wr => ∃ i : Nat, i ≤ k ∧ v5 = .int .i64 (sumG (atZ ns) (p.take i)) ∧ v6 = .int .i64 i ∧ wr = w) (fun _ v6 _ => k - (Go.RowKit.intOf v6).toNat)
 case atStart => exact ⟨0, Nat.zero_le _, rfl, rfl, rfl⟩
 case round =>
  obtain ⟨i, hi, rfl, rfl, hw⟩ := hrel
  try subst hw
  by_cases hik : i < k
  ·have i0 : (i : Int) < (k : Int) := by omega
   obtain ⟨b, of, hPe, hbl, cP⟩ := ISl.at_ HP.out hik
   have hx : nth p i ∈ p := nth_mem (by have := HLp.out; omega)
   have hxk := HOk.out _ hx
   obtain ⟨xi, hxi⟩ : ∃ q : Nat, nth p i = (q : Int) := ⟨(nth p i).toNat, by have := hxk.1; omega⟩
   have hst := sumG_next (g := atZ ns) (p := p) (k := i) (by have := HLp.out; omega)
   have hb1 := sumG_take H0.out i
   have hb2 := sumG_take H0.out (i + 1)
   have hm := HM.out
   rw [hxi] at cP hxk hst
   have hAt : atZ ns (xi : Int) = nth ns xi := by unfold atZ; rw [Int.toNat_natCast]
   rw [hAt] at hst
   have hxn : xi < n := by have := hxk.2; omega
   have hxz : (xi : Int) < (n : Int) := by omega
   obtain ⟨b', of', hAe, hbl', cA⟩ := ISl.at_ H.out hxn
   have HST := aside hst
   have hwr : IntKind.i64.wrap (sumG (atZ ns) (p.take i) + nth ns xi) = sumG (atZ ns) (p.take i) + nth ns xi := by rw [IntKind.wrap_i64]; omega
   generalize nth ns xi = y at cA hwr HST
   subst hPe hAe
   clear hx hxk hxi hst hb1 hb2 hm hAt hbl hbl'
   go_wp2
   exact ⟨⟨i + 1, by omega, by rw [HST.out], by go_num, by trivial⟩, by simp [Go.RowKit.intOf]; omega⟩
  ·obtain rfl : k = i := by omega
   have i0 : ((k : Int) < (k : Int)) = False := by simp
   have HT : Hid (sumG (atZ ns) (p.take k) = sumG (atZ ns) p) := aside (by rw [← HLp.out, List.take_length])
   go_wp2
   go_ret
   exact ⟨by rw [← HT.out] <;> rfl, rfl⟩
theorem atZ_nonneg {ns : List Int} {n : Nat} (hn : ns.length = n) (h : ∀ x ∈ ns, 0 ≤ x ∧ x ≤ 1125899906842624) {x : Int} (hx : OkZ n x) : 0 ≤ atZ ns x ∧ atZ ns x ≤ 1125899906842624 := by
 unfold atZ OkZ at *
 exact h _ (nth_mem (by omega))
theorem sumG_range (ns : List Int) : ∀ k, k ≤ ns.length → sumG (atZ ns) (rangeZ k) = (ns.take k).sum
 | 0, _ => rfl
 | k + 1, h => by
  rw [rangeZ_succ, sumG_app, sumG_range ns k (by omega), sum_next (by omega)]
  show _ + (atZ ns (k : Int) + 0) = _
  unfold atZ
  rw [Int.toNat_natCast]
  omega
/-- What is told of Great's places, in plain words. -/
structure Few (ns : List Int) (want : Int) (n : Nat) (p : List Int) : Prop where
 ok : ∀ x ∈ p, OkZ n x
 len : p.length ≤ n
 enough : want ≤ sumG (atZ ns) p
 most : 0 ≤ sumG (atZ ns) p ∧ sumG (atZ ns) p ≤ 1125899906842624
 few : ∀ f : Int → Bool, ((rangeZ n).filter f).length < p.length → sumG (atZ ns) ((rangeZ n).filter f) < want
 less : p ≠ [] → ∀ y, (∃ x ∈ p, atZ ns x ≤ y) → sumG (atZ ns) p - y < want
 pos : ∀ x ∈ p, 0 ≤ atZ ns x
theorem few_of {ns : List Int} {want : Int} {n : Nat} {p o : List Int} (hn : ns.length = n) (hq : pickQ ns want = 0) (hp : p = (takeT (atZ ns) want o).mergeSort (fun x y => decide (x ≤ y))) (ho : o.Perm (rangeZ n)) (hs : o.Pairwise (LtG (atZ ns))) : Few ns want n p := by
 obtain ⟨q1, q2, q3, q4, q5, q6⟩ := pickQ_zero hq
 have hpp : p.Perm (takeT (atZ ns) want o) := by rw [hp]; exact List.mergeSort_perm _ _
 obtain ⟨k, hk, he, -⟩ := takeT_head (atZ ns) o want
 have hoo : ∀ x ∈ o, OkZ n x := fun x hx => rangeZ_mem.1 (ho.mem_iff.1 hx)
 have hpos : ∀ x ∈ o, 0 ≤ atZ ns x := fun x hx => (atZ_nonneg hn q2 (hoo x hx)).1
 have hmem : ∀ x ∈ p, x ∈ o := fun x hx => by
  have := hpp.mem_iff.1 hx
  rw [he] at this
  exact List.mem_of_mem_take this
 have hso : sumG (atZ ns) o = totZ ns := by
  rw [sumG_perm ho, sumG_range ns n (by omega), ← hn, List.take_length]
  rfl
 have hsp : sumG (atZ ns) p = sumG (atZ ns) (takeT (atZ ns) want o) := sumG_perm hpp
 have htk := sumG_take hpos k
 rw [← he, ← hsp, hso] at htk
 have hfl := falls_of hs
 refine ⟨fun x hx => hoo x (hmem x hx), ?_, ?_, by omega, ?_, ?_, fun x hx => hpos x (hmem x hx)⟩
 ·rw [hpp.length_eq, he, List.length_take]
  have := ho.length_eq
  rw [rangeZ_len] at this
  omega
 ·rw [hsp]
  exact takeT_enough (atZ ns) o want (by omega) hpos
 ·intro f hf
  have hfp := ho.filter f
  rw [← sumG_perm hfp]
  rw [← hfp.length_eq, hpp.length_eq] at hf
  exact great_few hpos hfl f hf
 ·intro hne y hy
  rw [hsp]
  refine great_without hfl (fun e => hne ?_) ?_
  ·rw [e] at hpp
   exact List.perm_nil.1 hpp
  ·obtain ⟨x, hx, hxy⟩ := hy
   exact ⟨x, hpp.mem_iff.1 hx, hxy⟩
end Go.Proofs.YtbpabjhcjffkmaaGreatDoor.Pk

/- The least choice that is enough: what it is, that none is less. Plain laws. No program in sight. Conditions: named in each theorem. -/
namespace Go.Proofs.YtbpabjhcjffkmaaGreatDoor.Pk

/-- Less, or as much with no more. -/
def Lex (a b c d : Int) : Prop := a < c ∨ (a = c ∧ b ≤ d)
instance {a b c d : Int} : Decidable (Lex a b c d) := by unfold Lex; infer_instance
/-- How often the memory is written, at most, with so many amounts left. -/
def cap : Nat → Nat
 | 0 => 0
 | m + 1 => cap m + cap m + 1
end Go.Proofs.YtbpabjhcjffkmaaGreatDoor.Pk

/- What is told of the least choice, of the first ones and of the greatest: plain laws of PickLeast and PickOrder. Conditions: named in each theorem. -/
namespace Go.Proofs.YtbpabjhcjffkmaaGreatDoor.Pk

theorem rise_nodup {p : List Int} (h : Rise p) : p.Nodup := List.Pairwise.imp (fun {a b} (h : a < b) (e : a = b) => by omega) h
theorem sub_of {n : Nat} {q : List Int} (hd : q.Nodup) (hok : ∀ x ∈ q, OkZ n x) : q.Perm ((rangeZ n).filter (fun x => decide (x ∈ q))) := by
 refine (List.perm_ext_iff_of_nodup hd ((rise_nodup (rangeZ_rise n)).filter _)).2 fun x => ?_
 rw [List.mem_filter, rangeZ_mem, decide_eq_true_iff]
 exact ⟨fun h => ⟨hok x h, h⟩, fun h => h.2⟩
end Go.Proofs.YtbpabjhcjffkmaaGreatDoor.Pk

/- The reference's answers in plain words: the greatest first, till it is enough, the last of the least choices. No program in sight. Conditions: named in each theorem. -/
namespace Go.Proofs.YtbpabjhcjffkmaaGreatDoor.Pk

instance {g : Int → Int} {i j : Int} : Decidable (LtG g i j) := by unfold LtG; infer_instance
/-- How many of the first so many places come ahead of a place. -/
def aheadZ (g : Int → Int) (x : Int) (k : Nat) : Nat := ((rangeZ k).filter (fun j => decide (LtG g j x))).length
theorem ahead_succ (g : Int → Int) (x : Int) (k : Nat) : aheadZ g x (k + 1) = aheadZ g x k + if LtG g (k : Int) x then 1 else 0 := by
 unfold aheadZ
 rw [rangeZ_succ, List.filter_append, List.length_append]
 congr 1
 by_cases h : LtG g (k : Int) x
 ·rw [if_pos h, List.filter_cons_of_pos (by simpa using h)]; rfl
 ·rw [if_neg h, List.filter_cons_of_neg (by simpa using h)]; rfl
theorem order_ex (g : Int → Int) (n : Nat) : ∃ o : List Int, o.Perm (rangeZ n) ∧ o.Pairwise (LtG g) := by
 have hp := List.mergeSort_perm (rangeZ n) (fun x y => decide (g y < g x ∨ (g x = g y ∧ x ≤ y)))
 refine ⟨_, hp, ?_⟩
 have hs : ((rangeZ n).mergeSort (fun x y => decide (g y < g x ∨ (g x = g y ∧ x ≤ y)))).Pairwise (fun x y => decide (g y < g x ∨ (g x = g y ∧ x ≤ y)) = true) := by
  refine List.pairwise_mergeSort ?_ ?_ _
  ·intro a b c h1 h2
   have h1 := of_decide_eq_true h1
   have h2 := of_decide_eq_true h2
   exact decide_eq_true (by omega)
  ·intro a b
   rw [Bool.or_eq_true]
   by_cases h : g b < g a ∨ (g a = g b ∧ a ≤ b)
   ·exact .inl (decide_eq_true h)
   ·exact .inr (decide_eq_true (by omega))
 have hd : ((rangeZ n).mergeSort (fun x y => decide (g y < g x ∨ (g x = g y ∧ x ≤ y)))).Nodup := hp.nodup_iff.2 (rise_nodup (rangeZ_rise n))
 refine (hs.and hd).imp ?_
 rintro a b ⟨h1, h2⟩
 have h1 := of_decide_eq_true h1
 unfold LtG
 omega
theorem rank_at {g : Int → Int} {o : List Int} {n k : Nat} (hp : o.Perm (rangeZ n)) (hs : o.Pairwise (LtG g)) (hk : k < n) : aheadZ g (nth o k) n = k := by
 have hl : o.length = n := by rw [hp.length_eq, rangeZ_len]
 have hk' : k < o.length := by omega
 unfold aheadZ
 rw [← (hp.filter _).length_eq]
 have e : o = o.take k ++ nth o k :: o.drop (k + 1) := by
  rw [nth_get hk', List.getElem_cons_drop, List.take_append_drop]
 have hs2 := hs
 rw [e, List.pairwise_append, List.pairwise_cons] at hs2
 obtain ⟨_, ⟨h2, _⟩, h3⟩ := hs2
 generalize nth o k = y at *
 have f1 : (o.take k).filter (fun j => decide (LtG g j y)) = o.take k := List.filter_eq_self.2 fun j hj => by simpa using h3 j hj y (by simp)
 have f2 : (y :: o.drop (k + 1)).filter (fun j => decide (LtG g j y)) = [] := List.filter_eq_nil_iff.2 fun j hj => by
  rcases List.mem_cons.1 hj with rfl | hj
  ·unfold LtG; simp
  ·have h4 := h2 j hj
   intro hh
   have h5 := of_decide_eq_true hh
   unfold LtG at h4 h5
   omega
 rw [e, List.filter_append, f1, f2, List.append_nil, List.length_take]
 omega
theorem rank_iff {g : Int → Int} {o : List Int} {n k : Nat} (hp : o.Perm (rangeZ n)) (hs : o.Pairwise (LtG g)) (hk : k < n) {i : Nat} (hi : i < n) : aheadZ g (i : Int) n = k ↔ nth o k = (i : Int) := by
 constructor
 ·intro h
  have hm : (i : Int) ∈ o := hp.mem_iff.2 (rangeZ_mem.2 ⟨by omega, by omega⟩)
  obtain ⟨m, hm1, hm2⟩ := List.mem_iff_getElem.1 hm
  have hl : o.length = n := by rw [hp.length_eq, rangeZ_len]
  have e : nth o m = (i : Int) := by rw [nth_get hm1, hm2]
  have := rank_at (k := m) hp hs (by omega)
  rw [e, h] at this
  rw [this, e]
 ·intro h
  rw [← h]
  exact rank_at hp hs hk
/-- What is laid behind, place by place, in the round of a rank. -/
def roundZ (o : List Int) (k i : Nat) : List Int := o.take k ++ if nth o k < (i : Int) then [nth o k] else []
theorem round_start {o : List Int} {n : Nat} (hp : o.Perm (rangeZ n)) {k : Nat} (hk : k < n) : roundZ o k 0 = o.take k := by
 have hl : o.length = n := by rw [hp.length_eq, rangeZ_len]
 have h := (rangeZ_mem.1 (hp.mem_iff.1 (nth_mem (zs := o) (k := k) (by omega)))).1
 unfold roundZ
 rw [if_neg (by omega), List.append_nil]
theorem round_done {o : List Int} {n : Nat} (hp : o.Perm (rangeZ n)) {k : Nat} (hk : k < n) : roundZ o k n = o.take (k + 1) := by
 have hl : o.length = n := by rw [hp.length_eq, rangeZ_len]
 have h := (rangeZ_mem.1 (hp.mem_iff.1 (nth_mem (zs := o) (k := k) (by omega)))).2
 unfold roundZ
 rw [if_pos h, List.take_add_one, List.getElem?_eq_getElem (by omega), nth_get (by omega)]
 rfl
theorem round_yes {o : List Int} {k i : Nat} (h : nth o k = (i : Int)) : roundZ o k (i + 1) = roundZ o k i ++ [(i : Int)] := by
 unfold roundZ
 rw [h, if_pos (by omega), if_neg (by omega), List.append_nil]
theorem round_no {o : List Int} {k i : Nat} (h : nth o k ≠ (i : Int)) : roundZ o k (i + 1) = roundZ o k i := by
 unfold roundZ
 congr 1
 by_cases h1 : nth o k < (i : Int)
 ·rw [if_pos h1, if_pos (by omega)]
 ·rw [if_neg h1, if_neg (by omega)]
theorem round_len (o : List Int) (k i : Nat) : (roundZ o k i).length ≤ k + 1 := by
 unfold roundZ
 rw [List.length_append, List.length_take]
 split <;> simp <;> omega
/-- Places of a choice, one behind the other, are the choice, sorted. -/
theorem filter_sorted {n : Nat} {T : List Int} (hd : T.Nodup) (hok : ∀ x ∈ T, OkZ n x) : (rangeZ n).filter (fun x => decide (x ∈ T)) = T.mergeSort (fun x y => decide (x ≤ y)) := by
 have hp : ((rangeZ n).filter (fun x => decide (x ∈ T))).Perm (T.mergeSort (fun x y => decide (x ≤ y))) := (sub_of hd hok).symm.trans (List.mergeSort_perm _ _).symm
 have hs : (T.mergeSort (fun x y => decide (x ≤ y))).Pairwise (fun x y => decide (x ≤ y) = true) := List.pairwise_mergeSort (fun a b c h1 h2 => by simp at *; omega) (fun a b => by simp; omega) _
 have hs' : (T.mergeSort (fun x y => decide (x ≤ y))).Pairwise (fun x y => x ≤ y) := hs.imp fun h => of_decide_eq_true h
 have hr : ((rangeZ n).filter (fun x => decide (x ∈ T))).Pairwise (fun x y => x ≤ y) := (List.Pairwise.filter _ (rangeZ_rise n)).imp fun h => Int.le_of_lt h
 exact hp.eq_of_pairwise (fun a b _ _ h1 h2 => Int.le_antisymm h1 h2) hr hs'
end Go.Proofs.YtbpabjhcjffkmaaGreatDoor.Pk
