/- PickTells: its walk. Condition: errors.errorType reads as the program's text lays it. -/
import Derived.Test.YtgickjghfndaaaaDoorPickY
import Derived.Test.YtgickjghfndaaaaDoorPickK
import Derived.Test.YtgickjghfndaaaaDoorErr
namespace Go.Proofs.YtgickjghfndaaaaDoor
open Go.RowKit Go.ChangeShapes Go.WideShapes Go.ChangeAt

theorem told_right (k : Int) (W : World) (hg : ErrVar W) {v : Value} (hv : errOf k = v) : Calls Tryd.prog 6 #[v, .int .i64 k] W (fun e w' => e = .returned (.bool true) ∧ Below W.heap.size W w') :=
  (error_at hv hg).mono fun e w' ⟨h1, h2⟩ => ⟨by rw [h1]; simp, h2⟩
theorem none_isl (w : World) : ISl w w.heap.size none 0 [] := Sl.nil_
set_option maxHeartbeats 40000000 in
set_option maxRecDepth 100000 in
theorem pickTells_any (ns : List Int) (A : Option Addr) (n c : Nat) (want : Int) (w : World) (hg : ErrVar w) (h : ISl w w.heap.size A n ns) :
    Calls Tryd.prog 3 #[.slice A n c, .int .i64 want] w (LawPost w) := by
  have HLn := aside (ISl.len h)
  have HA := aside h
  have HG : Hid (∀ W, Below w.heap.size w W → ErrVar W) := aside (fun W hW => hg.below (errVar_lt hg) hW)
  have HN : Hid (∀ W, Calls Tryd.prog 12 #[.slice none 0 0, .slice none 0 0] W (fun e w' => e = .returned (.bool true) ∧ Below W.heap.size W w')) := aside (fun W => ints_same [] none none 0 0 0 W (none_isl W) (none_isl W) (by omega))
  have HFa := aside (fun W (hW : ISl W W.heap.size A n ns) => rfault_any ns A n c want W hW)
  have HCk := aside (fun W (hW : ISl W W.heap.size A n ns) => pickC_any ns A n c want W hW)
  clear hg
  by_cases hq : pickQ ns want = 0
  · rw [hq] at HFa HCk
    rw [show errP 0 = Value.nilIface from rfl] at HCk
    obtain ⟨z1, z2, z3, z4, z5, z6⟩ := pickQ_zero hq
    have HE : Hid (∀ W, Below w.heap.size w W → Calls Tryd.prog 6 #[.nilIface, .int .i64 0] W (fun e w' => e = .returned (.bool true) ∧ Below W.heap.size W w')) := aside (fun W hW => told_right 0 W (HG.out W hW) rfl)
    have hn30 : n ≤ 30 := by have := HLn.out; omega
    have HNs := aside z2
    have HW := aside (And.intro z3 z4)
    have HQ := aside hq
    obtain ⟨o, ho1, ho2⟩ := order_ex (atZ ns) n
    have HO1 := aside ho1
    have HO2 := aside ho2
    have HOk : Hid (∀ x ∈ o, OkZ n x) := aside (fun x hx => rangeZ_mem.1 (ho1.mem_iff.1 hx))
    have HDo : Hid o.Nodup := aside (ho1.nodup_iff.2 (rise_nodup (rangeZ_rise n)))
    have HFi := aside (fun W (hW : ISl W W.heap.size A n ns) => first_ok ns A n c want W hW hq)
    have HGr := aside (fun W (hW : ISl W W.heap.size A n ns) => great_ok ns A n c want W hW hq)
    have HIn := aside (fun W => inorder_any A n c (by omega) W)
    have HGs := aside (fun W (hW : ISl W W.heap.size A n ns) => greatest_any ns A n c hn30 W hW o ho1 ho2)
    have HT1 := aside (fun W O c2 (hW : ISl W W.heap.size A n ns) (hO : ISl W W.heap.size O n (rangeZ n)) => rtill_any ns A n c want (rangeZ n) O n c2 (by omega) (by omega) z2 ⟨z3, z4⟩ (fun x hx => rangeZ_mem.1 hx) (rise_nodup (rangeZ_rise n)) W hW hO)
    have HT2 := aside (fun W O c2 (hW : ISl W W.heap.size A n ns) (hO : ISl W W.heap.size O n o) => rtill_any ns A n c want o O n c2 (by omega) (by omega) z2 ⟨z3, z4⟩ HOk.out HDo.out W hW hO)
    have HX1 := aside (fun q => tkn_of (ns := ns) (want := want) (n := n) (p := q) (o := rangeZ n) HLn.out hq)
    have HX2 := aside (fun q => tkn_of (ns := ns) (want := want) (n := n) (p := q) (o := o) HLn.out hq)
    have HB := aside (Below.refl w.heap.size w)
    clear h hq z1 z2 z3 z4 z5 z6 ho1 ho2
    go_enter Tryd.func3, Tryd.ntmps3
    go_wp2_with fail
    refine (picked_any _).mono ?_
    rintro e w1 ⟨rfl, hb⟩
    replace HB := aside (HB.out.trans (hb.mono HB.out.size))
    replace HA := aside (isl_more (isl_below HA.out hb) hb.size)
    clear hb
    go_wp2_with fail
    refine (HFa.out _ HA.out).mono ?_
    rintro e w' ⟨rfl, hw⟩
    rw [hw]
    clear hw w'
    go_wp2_with fail
    refine (HCk.out _ HA.out).mono ?_
    rintro e w' ⟨rfl, hw⟩
    rw [hw]
    clear hw w'
    go_wp2_with fail
    refine (HE.out _ HB.out).mono ?_
    rintro e w2 ⟨rfl, hb⟩
    replace HB := aside (HB.out.trans (hb.mono HB.out.size))
    replace HA := aside (isl_more (isl_below HA.out hb) hb.size)
    clear hb
    go_wp2_with fail
    refine (HIn.out _).mono ?_
    rintro e w3 ⟨O1, d1, rfl, ho, hb⟩
    have HO := aside (ownZ_isl ho)
    clear ho
    replace HB := aside (HB.out.trans (hb.mono HB.out.size))
    replace HA := aside (isl_more (isl_below HA.out hb) hb.size)
    clear hb
    go_wp2_with fail
    refine (HT1.out _ _ _ HA.out HO.out).mono ?_
    rintro e w4 ⟨F1, f1, pf, rfl, hf, hfe, hb⟩
    have HF := aside hf
    have HFe := aside hfe
    clear hf hfe HO
    replace HB := aside (HB.out.trans (hb.mono HB.out.size))
    replace HA := aside (isl_more (isl_below HA.out hb) hb.size)
    clear hb
    go_wp2_with fail
    refine (HGs.out _ HA.out).mono ?_
    rintro e w5 ⟨O2, d2, rfl, ho, hb⟩
    have HO := aside (ownZ_isl ho)
    clear ho
    replace HB := aside (HB.out.trans (hb.mono HB.out.size))
    replace HA := aside (isl_more (isl_below HA.out hb) hb.size)
    replace HF := aside (isl_more (isl_below HF.out hb) hb.size)
    clear hb
    go_wp2_with fail
    refine (HT2.out _ _ _ HA.out HO.out).mono ?_
    rintro e w6 ⟨G1, g1, pg, rfl, hf, hfe, hb⟩
    have HGG := aside hf
    have HGe := aside hfe
    clear hf hfe HO
    replace HB := aside (HB.out.trans (hb.mono HB.out.size))
    replace HA := aside (isl_more (isl_below HA.out hb) hb.size)
    replace HF := aside (isl_more (isl_below HF.out hb) hb.size)
    clear hb
    have hlf : Hid (pf.length ≤ 1000) := aside (by have := (HX1.out pf HFe.out (List.Perm.refl _)).len; omega)
    have hlg : Hid (pg.length ≤ 1000) := aside (by have := (HX2.out pg HGe.out HO1.out).len; omega)
    go_wp2_with fail
    refine (HFi.out _ HA.out).mono ?_
    rintro e w7 ⟨X1, x1, p1, rfl, hf, hfe, hb⟩
    have hpp : p1 = pf := by rw [hfe, HLn.out, HFe.out]
    rw [hpp] at hf
    rw [hpp]
    have HX := aside hf
    clear hf hfe hpp p1
    replace HB := aside (HB.out.trans (hb.mono HB.out.size))
    replace HA := aside (isl_more (isl_below HA.out hb) hb.size)
    replace HF := aside (isl_more (isl_below HF.out hb) hb.size)
    replace HGG := aside (isl_more (isl_below HGG.out hb) hb.size)
    clear hb
    go_wp2_with fail
    refine (HE.out _ HB.out).mono ?_
    rintro e w8 ⟨rfl, hb⟩
    replace HB := aside (HB.out.trans (hb.mono HB.out.size))
    replace HA := aside (isl_more (isl_below HA.out hb) hb.size)
    replace HF := aside (isl_more (isl_below HF.out hb) hb.size)
    replace HGG := aside (isl_more (isl_below HGG.out hb) hb.size)
    replace HX := aside (isl_more (isl_below HX.out hb) hb.size)
    clear hb
    go_wp2_with fail
    refine (ints_same pf X1 F1 pf.length x1 f1 _ HX.out HF.out hlf.out).mono ?_
    rintro e w9 ⟨rfl, hb⟩
    clear HF HX
    replace HB := aside (HB.out.trans (hb.mono HB.out.size))
    replace HA := aside (isl_more (isl_below HA.out hb) hb.size)
    replace HGG := aside (isl_more (isl_below HGG.out hb) hb.size)
    clear hb
    go_wp2_with fail
    refine (HGr.out _ HA.out).mono ?_
    rintro e w10 ⟨Y1, y1, p2, o2, rfl, hf, hfe, hm, hsr, hb⟩
    have hoo : o2 = o := order_one (hm.trans (by rw [HLn.out]; exact HO1.out.symm)) hsr HO2.out
    have hpp : p2 = pg := by rw [hfe, hoo, HGe.out]
    rw [hpp] at hf
    rw [hpp]
    have HY := aside hf
    clear hf hfe hm hsr hoo hpp p2 o2
    replace HB := aside (HB.out.trans (hb.mono HB.out.size))
    replace HA := aside (isl_more (isl_below HA.out hb) hb.size)
    replace HGG := aside (isl_more (isl_below HGG.out hb) hb.size)
    clear hb
    go_wp2_with fail
    refine (HE.out _ HB.out).mono ?_
    rintro e w11 ⟨rfl, hb⟩
    replace HB := aside (HB.out.trans (hb.mono HB.out.size))
    replace HA := aside (isl_more (isl_below HA.out hb) hb.size)
    replace HGG := aside (isl_more (isl_below HGG.out hb) hb.size)
    replace HY := aside (isl_more (isl_below HY.out hb) hb.size)
    clear hb
    go_wp2_with fail
    refine (ints_same pg Y1 G1 pg.length y1 g1 _ HY.out HGG.out hlg.out).mono ?_
    rintro e w12 ⟨rfl, hb⟩
    clear HGG HY
    replace HB := aside (HB.out.trans (hb.mono HB.out.size))
    replace HA := aside (isl_more (isl_below HA.out hb) hb.size)
    clear hb
    clear HFi HGr HIn HGs HT1 HT2 HX1 HX2 HFa HCk HFe HGe hlf hlg HO1 HO2 HOk HDo
    by_cases hw : 10000 < want
    · have HE2 : Hid (∀ W, Below w.heap.size w W → Calls Tryd.prog 6 #[.iface 24 (.int .i64 2), .int .i64 2] W (fun e w' => e = .returned (.bool true) ∧ Below W.heap.size W w')) := aside (fun W hW => told_right 2 W (HG.out W hW) rfl)
      have he : exactE ns want = 2 := by unfold exactE; rw [if_neg (by simp [HQ.out]), if_pos hw]
      have HEx := aside (fun W (hW : ISl W W.heap.size A n ns) => exact_bad ns A n c want W hW (by rw [he]; decide))
      rw [he] at HEx
      clear he HE
      by_cases h9 : 9 < n
      · have h9z : (9 : Int) < (n : Int) := by omega
        go_wp2_with fail
        refine (HEx.out _ HA.out).mono ?_
        rintro e w13 ⟨rfl, hb⟩
        replace HB := aside (HB.out.trans (hb.mono HB.out.size))
        replace HA := aside (isl_more (isl_below HA.out hb) hb.size)
        clear hb
        go_wp2_with fail
        refine (HE2.out _ HB.out).mono ?_
        rintro e w14 ⟨rfl, hb⟩
        replace HB := aside (HB.out.trans (hb.mono HB.out.size))
        replace HA := aside (isl_more (isl_below HA.out hb) hb.size)
        clear hb
        go_wp2_with fail
        refine (HN.out _).mono ?_
        rintro e w15 ⟨rfl, hb⟩
        replace HB := aside (HB.out.trans (hb.mono HB.out.size))
        clear hb
        go_wp2
        go_ret
        exact ⟨rfl, HB.out⟩
      · have h9z : (n : Int) ≤ 9 := by omega
        go_wp2_with fail
        refine (HEx.out _ HA.out).mono ?_
        rintro e w13 ⟨rfl, hb⟩
        replace HB := aside (HB.out.trans (hb.mono HB.out.size))
        replace HA := aside (isl_more (isl_below HA.out hb) hb.size)
        clear hb
        go_wp2_with fail
        refine (HE2.out _ HB.out).mono ?_
        rintro e w14 ⟨rfl, hb⟩
        replace HB := aside (HB.out.trans (hb.mono HB.out.size))
        replace HA := aside (isl_more (isl_below HA.out hb) hb.size)
        clear hb
        go_wp2_with fail
        refine (HN.out _).mono ?_
        rintro e w15 ⟨rfl, hb⟩
        replace HB := aside (HB.out.trans (hb.mono HB.out.size))
        clear hb
        go_wp2
        go_ret
        exact ⟨rfl, HB.out⟩
    · have hw2 : want ≤ 10000 := by omega
      have he : exactE ns want = 0 := by unfold exactE; rw [if_neg (by simp [HQ.out]), if_neg hw]
      have HEx := aside (fun W (hW : ISl W W.heap.size A n ns) => exact_ok ns A n c want W hW he)
      clear he hw
      by_cases hn9 : 9 < n
      · have hn9z : (9 : Int) < (n : Int) := by omega
        clear hn9 HEx
        go_wp2
        go_ret
        exact ⟨rfl, HB.out⟩
      · have hn9z : (n : Int) ≤ 9 := by omega
        have hn9y : n ≤ 9 := by omega
        have HLe := aside (fun W (hW : ISl W W.heap.size A n ns) => least_ref ns A n c want hn9y W hW HQ.out)
        have hll : Hid ((pickF ns 0 want).length ≤ 1000) := aside (by have := (lst_of HLn.out HQ.out).len; omega)
        clear hn9 hn9y
        go_wp2_with fail
        refine (HLe.out _ HA.out).mono ?_
        rintro e w13 ⟨F1, f1, pl, rfl, hf, hfe, hb⟩
        rw [hfe] at hf
        rw [hfe]
        have HF := aside hf
        clear hf hfe pl
        replace HB := aside (HB.out.trans (hb.mono HB.out.size))
        replace HA := aside (isl_more (isl_below HA.out hb) hb.size)
        clear hb
        go_wp2_with fail
        refine (HEx.out _ HA.out).mono ?_
        rintro e w14 ⟨X1, x1, p1, rfl, hf, hfe, hb⟩
        rw [hfe] at hf
        rw [hfe]
        have HX := aside hf
        clear hf hfe p1
        replace HB := aside (HB.out.trans (hb.mono HB.out.size))
        replace HA := aside (isl_more (isl_below HA.out hb) hb.size)
        replace HF := aside (isl_more (isl_below HF.out hb) hb.size)
        clear hb
        go_wp2_with fail
        refine (HE.out _ HB.out).mono ?_
        rintro e w15 ⟨rfl, hb⟩
        replace HB := aside (HB.out.trans (hb.mono HB.out.size))
        replace HF := aside (isl_more (isl_below HF.out hb) hb.size)
        replace HX := aside (isl_more (isl_below HX.out hb) hb.size)
        clear hb
        go_wp2_with fail
        refine (ints_same (pickF ns 0 want) X1 F1 (pickF ns 0 want).length x1 f1 _ HX.out HF.out hll.out).mono ?_
        rintro e w16 ⟨rfl, hb⟩
        replace HB := aside (HB.out.trans (hb.mono HB.out.size))
        clear hb
        go_wp2
        go_ret
        exact ⟨rfl, HB.out⟩
  · have hck := HCk.out
    rw [errP_no hq] at hck
    have HC2 := aside hck
    have he : exactE ns want = pickQ ns want := by unfold exactE; rw [if_pos hq]
    have HFi := aside (fun W (hW : ISl W W.heap.size A n ns) => first_bad ns A n c want W hW hq)
    have HGr := aside (fun W (hW : ISl W W.heap.size A n ns) => great_bad ns A n c want W hW hq)
    have HEx := aside (fun W (hW : ISl W W.heap.size A n ns) => exact_bad ns A n c want W hW (by rw [he]; exact hq))
    rw [he] at HEx
    have HE : Hid (∀ W, Below w.heap.size w W → Calls Tryd.prog 6 #[.iface 24 (.int .i64 (pickQ ns want)), .int .i64 (pickQ ns want)] W (fun e w' => e = .returned (.bool true) ∧ Below W.heap.size W w')) := aside (fun W hW => told_right _ W (HG.out W hW) (errOf_no hq))
    have HB := aside (Below.refl w.heap.size w)
    have hqz : (pickQ ns want == 0) = false := by simp [hq]
    generalize pickQ ns want = q at HFa HC2 HFi HGr HEx HE hqz
    clear h hq hck he HCk
    go_enter Tryd.func3, Tryd.ntmps3
    go_wp2_with fail
    refine (picked_any _).mono ?_
    rintro e w1 ⟨rfl, hb⟩
    replace HB := aside (HB.out.trans (hb.mono HB.out.size))
    replace HA := aside (isl_more (isl_below HA.out hb) hb.size)
    clear hb
    go_wp2_with fail
    refine (HFa.out _ HA.out).mono ?_
    rintro e w' ⟨rfl, hw⟩
    rw [hw]
    clear hw w'
    go_wp2_with fail
    refine (HC2.out _ HA.out).mono ?_
    rintro e w' ⟨rfl, hw⟩
    rw [hw]
    clear hw w'
    go_wp2_with fail
    refine (HE.out _ HB.out).mono ?_
    rintro e w2 ⟨rfl, hb⟩
    replace HB := aside (HB.out.trans (hb.mono HB.out.size))
    replace HA := aside (isl_more (isl_below HA.out hb) hb.size)
    clear hb
    go_wp2_with fail
    refine (HFi.out _ HA.out).mono ?_
    rintro e w3 ⟨rfl, hb⟩
    replace HB := aside (HB.out.trans (hb.mono HB.out.size))
    replace HA := aside (isl_more (isl_below HA.out hb) hb.size)
    clear hb
    go_wp2_with fail
    refine (HE.out _ HB.out).mono ?_
    rintro e w4 ⟨rfl, hb⟩
    replace HB := aside (HB.out.trans (hb.mono HB.out.size))
    replace HA := aside (isl_more (isl_below HA.out hb) hb.size)
    clear hb
    go_wp2_with fail
    refine (HN.out _).mono ?_
    rintro e w5 ⟨rfl, hb⟩
    replace HB := aside (HB.out.trans (hb.mono HB.out.size))
    replace HA := aside (isl_more (isl_below HA.out hb) hb.size)
    clear hb
    go_wp2_with fail
    refine (HGr.out _ HA.out).mono ?_
    rintro e w6 ⟨rfl, hb⟩
    replace HB := aside (HB.out.trans (hb.mono HB.out.size))
    replace HA := aside (isl_more (isl_below HA.out hb) hb.size)
    clear hb
    go_wp2_with fail
    refine (HE.out _ HB.out).mono ?_
    rintro e w7 ⟨rfl, hb⟩
    replace HB := aside (HB.out.trans (hb.mono HB.out.size))
    replace HA := aside (isl_more (isl_below HA.out hb) hb.size)
    clear hb
    go_wp2_with fail
    refine (HN.out _).mono ?_
    rintro e w8 ⟨rfl, hb⟩
    replace HB := aside (HB.out.trans (hb.mono HB.out.size))
    replace HA := aside (isl_more (isl_below HA.out hb) hb.size)
    clear hb
    by_cases h9 : 9 < n
    · have h9z : (9 : Int) < (n : Int) := by omega
      go_wp2_with fail
      refine (HEx.out _ HA.out).mono ?_
      rintro e w9 ⟨rfl, hb⟩
      replace HB := aside (HB.out.trans (hb.mono HB.out.size))
      replace HA := aside (isl_more (isl_below HA.out hb) hb.size)
      clear hb
      go_wp2_with fail
      refine (HE.out _ HB.out).mono ?_
      rintro e w10 ⟨rfl, hb⟩
      replace HB := aside (HB.out.trans (hb.mono HB.out.size))
      replace HA := aside (isl_more (isl_below HA.out hb) hb.size)
      clear hb
      go_wp2_with fail
      refine (HN.out _).mono ?_
      rintro e w11 ⟨rfl, hb⟩
      replace HB := aside (HB.out.trans (hb.mono HB.out.size))
      replace HA := aside (isl_more (isl_below HA.out hb) hb.size)
      clear hb
      go_wp2
      go_ret
      exact ⟨rfl, HB.out⟩
    · have h9z : (n : Int) ≤ 9 := by omega
      go_wp2_with fail
      refine (HEx.out _ HA.out).mono ?_
      rintro e w9 ⟨rfl, hb⟩
      replace HB := aside (HB.out.trans (hb.mono HB.out.size))
      replace HA := aside (isl_more (isl_below HA.out hb) hb.size)
      clear hb
      go_wp2_with fail
      refine (HE.out _ HB.out).mono ?_
      rintro e w10 ⟨rfl, hb⟩
      replace HB := aside (HB.out.trans (hb.mono HB.out.size))
      replace HA := aside (isl_more (isl_below HA.out hb) hb.size)
      clear hb
      go_wp2_with fail
      refine (HN.out _).mono ?_
      rintro e w11 ⟨rfl, hb⟩
      replace HB := aside (HB.out.trans (hb.mono HB.out.size))
      replace HA := aside (isl_more (isl_below HA.out hb) hb.size)
      clear hb
      go_wp2
      go_ret
      exact ⟨rfl, HB.out⟩
end Go.Proofs.YtgickjghfndaaaaDoor
