/- PickLeast: its walk. Conditions: named in each theorem. -/
import Derived.Test.YtgickjghfndaaaaPickK
import Derived.Test.YtgickjghfndaaaaPickP
import Derived.Test.YtgickjghfndaaaaPickF
namespace Go.Proofs.Ytgickjghfndaaaa
open Go.RowKit Go.ChangeShapes Go.WideShapes Go.ChangeAt

theorem rise_nth {p : List Int} (h : Rise p) {i j : Nat} (hij : i < j) (hj : j < p.length) : nth p i < nth p j := by
  rw [nth_get hj, nth_get (Nat.lt_trans hij hj)]
  exact List.pairwise_iff_getElem.1 h i j _ _ hij
theorem chosen_dup (bs : List Bool) (m k : Nat) : (chosen bs m k).Nodup := (rise_nodup (rangeZ_rise k)).filter _
theorem chosen_ok (bs : List Bool) (m k : Nat) : ∀ x ∈ chosen bs m k, OkZ k x := fun _ hx => rangeZ_mem.1 (List.mem_filter.1 hx).1
set_option maxHeartbeats 40000000 in
set_option maxRecDepth 100000 in
theorem least_any (ns : List Int) (A : Option Addr) (n c : Nat) (want : Int) (bs : List Bool) (I : Option Addr) (m c3 : Nat) (w : World) (h : ISl w w.heap.size A n ns) (hb : FSl encB 1 w w.heap.size I m bs) :
    Calls Try.prog 5 #[.slice A n c, .int .i64 want, .slice I m c3] w (LawPost w) := by
  have HLn := aside (ISl.len h)
  have H := aside h
  have HBs := aside hb
  by_cases hq : exactE ns want = 0
  · have hp0 := (exactE_zero hq).1
    have HEx := aside (fun W (hW : Below w.heap.size w W) => exact_ok ns A n c want W (isl_more (isl_below h hW) hW.size) hq)
    have HFi := aside (fun W (hW : Below w.heap.size w W) => first_ok ns A n c want W (isl_more (isl_below h hW) hW.size) hp0)
    have HGr := aside (fun W (hW : Below w.heap.size w W) => great_ok ns A n c want W (isl_more (isl_below h hW) hW.size) hp0)
    obtain ⟨z1, z2, z3, z4, z5, z6⟩ := pickQ_zero hp0
    have HNs := aside z2
    have HLs := aside (lst_of HLn.out hp0)
    have HTk := aside (fun q o => tkn_of (ns := ns) (want := want) (n := n) (p := q) (o := o) HLn.out hp0)
    have hn30 : n ≤ 30 := by have := HLn.out; omega
    have hwz : 0 ≤ want ∧ want ≤ 1125899906842624 := ⟨z3, z4⟩
    obtain ⟨p, hpe⟩ : ∃ p, p = pickF ns 0 want := ⟨_, rfl⟩
    rw [← hpe] at HLs
    have HPe := aside hpe
    have hpl := HLs.out.len
    clear h hb hq hp0 z1 z2 z3 z4 z5 z6 hpe
    go_enter Try.func5, Try.ntmps5
    go_wp2_with fail
    refine (picked_any w).mono ?_
    rintro e w1 ⟨rfl, hb1⟩
    have HB1 := aside hb1
    clear hb1
    go_wp2_with fail
    refine (HEx.out w1 HB1.out).mono ?_
    rintro e w2 ⟨P, cp, p', rfl, hp, hpe, hb2⟩
    have hpp : p' = p := hpe.trans HPe.out.symm
    rw [hpp] at hp
    rw [hpp]
    have HP := aside hp
    have HB2 := aside (HB1.out.trans (hb2.mono HB1.out.size))
    clear hp hpe hb2 HEx hpp
    by_cases h14 : 14 < n
    · have h14z : (14 : Int) < (n : Int) := by omega
      clear HFi HGr HTk
      go_wp2
      go_ret
      exact ⟨rfl, HB2.out⟩
    have h14z : (n : Int) ≤ 14 := by omega
    clear h14
    go_wp2_with fail
    go_loopw [10, 11, 12] (fun v10 v11 v12 wr => ∃ (i : Nat) (s L : Int), i ≤ p.length ∧ v10 = .int .i64 s ∧ v11 = .int .i64 L ∧ v12 = .int .i64 i ∧ wr = w2 ∧ Hid (s = sumG (atZ ns) (p.take i)) ∧ Hid (i < p.length → L < nth p i)) (fun _ _ v12 _ => p.length - (Go.RowKit.intOf v12).toNat)
    case atStart =>
      exact ⟨0, 0, -1, Nat.zero_le _, rfl, rfl, rfl, rfl, aside rfl, aside (fun hl => by have := (HLs.out.ok _ (nth_mem hl)).1; omega)⟩
    case round =>
      obtain ⟨i, s, L, hi, rfl, rfl, rfl, hw, HS, HL⟩ := hrel
      try subst hw
      by_cases hip : i < p.length
      · have i0 : (i : Int) < (p.length : Int) := by omega
        obtain ⟨b, of, hPe, hbl, cP⟩ := ISl.at_ HP.out hip
        have hx : nth p i ∈ p := nth_mem hip
        have hxk := HLs.out.ok _ hx
        obtain ⟨xi, hxi⟩ : ∃ q : Nat, nth p i = (q : Int) := ⟨(nth p i).toNat, by have := hxk.1; omega⟩
        have hst := sumG_next (g := atZ ns) (p := p) (k := i) hip
        have hb1 := sumG_take HLs.out.pos i
        have hb2 := sumG_take HLs.out.pos (i + 1)
        have hm := HLs.out.most
        have hlt := HL.out hip
        have HL2 : Hid (i + 1 < p.length → (xi : Int) < nth p (i + 1)) := aside (fun hl => by rw [← hxi]; exact rise_nth HLs.out.rise (Nat.lt_succ_self i) hl)
        rw [hxi] at cP hxk hst hlt
        have hAt : atZ ns (xi : Int) = nth ns xi := by unfold atZ; rw [Int.toNat_natCast]
        rw [hAt, ← HS.out] at hst
        rw [← HS.out] at hb1
        have hxn : xi < n := by have := hxk.2; omega
        have hxz : (xi : Int) < (n : Int) := by omega
        obtain ⟨b', of', hAe, hbl', cA⟩ := ISl.at_ (isl_below H.out HB2.out) hxn
        have HST : Hid (s + nth ns xi = sumG (atZ ns) (p.take (i + 1))) := aside hst.symm
        have hwr : IntKind.i64.wrap (s + nth ns xi) = s + nth ns xi := by rw [IntKind.wrap_i64]; omega
        generalize nth ns xi = y at cA hwr HST
        subst hPe hAe
        clear hx hxk hxi hst hb1 hb2 hm hAt hbl hbl' HL HFi HGr HTk hip
        go_wp2
        exact ⟨⟨i + 1, s + y, (xi : Int), by omega, rfl, rfl, by go_num, by trivial, HST, HL2⟩, by simp [Go.RowKit.intOf]; omega⟩
      · obtain rfl : p.length = i := by omega
        have HSp : Hid (s = sumG (atZ ns) p) := aside (by rw [HS.out, List.take_length])
        have hsb : 0 ≤ s ∧ s ≤ 1125899906842624 ∧ want ≤ s := by rw [HSp.out]; exact ⟨HLs.out.most.1, HLs.out.most.2, HLs.out.enough⟩
        have i0 : ((p.length : Int) < (p.length : Int)) = False := by simp
        clear HS HL hip
        go_wp2_with fail
        go_loopw [13, 14, 15] (fun v13 v14 v15 wx => ∃ (i : Nat) (o : Int) (q : Nat), i ≤ n ∧ v13 = .int .i64 o ∧ v14 = .int .i64 q ∧ v15 = .int .i64 i ∧ wx = wr ∧ 0 ≤ o ∧ o ≤ i * 1125899906842624 ∧ q ≤ i ∧ Hid (o = sumG (atZ ns) (chosen bs m i) ∧ q = (chosen bs m i).length)) (fun _ _ v15 _ => n - (Go.RowKit.intOf v15).toNat)
        case atStart => exact ⟨0, 0, 0, Nat.zero_le _, rfl, rfl, rfl, rfl, Int.le_refl _, by omega, Nat.le_refl _, aside ⟨rfl, rfl⟩⟩
        case round =>
          obtain ⟨i, o, q, hi, rfl, rfl, rfl, hw, hs1, hs2, hqi, HS⟩ := hrel
          try subst hw
          by_cases hin : i < n
          · have i1 : (i : Int) < (n : Int) := by omega
            have hst := chosen_next bs m i
            rw [inB_nat] at hst
            have hv := HNs.out _ (nth_mem (zs := ns) (k := i) (by have := HLn.out; omega))
            have hAt : atZ ns (i : Int) = nth ns i := by unfold atZ; rw [Int.toNat_natCast]
            obtain ⟨b', of', hAe, hbl', cA⟩ := ISl.at_ (isl_below H.out HB2.out) hin
            have HNo : Hid ((decide (i < m) && bs.getD i false) = false → o = sumG (atZ ns) (chosen bs m (i + 1)) ∧ q = (chosen bs m (i + 1)).length) := aside (fun hf => by
              rw [hst, hf]
              simpa using HS.out)
            have HYe : Hid ((decide (i < m) && bs.getD i false) = true → o + nth ns i = sumG (atZ ns) (chosen bs m (i + 1)) ∧ q + 1 = (chosen bs m (i + 1)).length) := aside (fun hf => by
              rw [hst, hf, if_pos rfl, sumG_app, List.length_append, ← HS.out.1, ← HS.out.2]
              refine ⟨?_, rfl⟩
              show _ = o + (atZ ns (i : Int) + 0)
              rw [hAt, Int.add_zero])
            have hw1 : IntKind.i64.wrap (o + nth ns i) = o + nth ns i := by rw [IntKind.wrap_i64]; omega
            have hw2 : IntKind.i64.wrap ((q : Int) + 1) = ((q + 1 : Nat) : Int) := by rw [IntKind.wrap_i64]; omega
            generalize nth ns i = y at cA hw1 HYe hv
            subst hAe
            clear hst hAt hbl' HFi HGr HTk hsb i0
            by_cases him : i < m
            · obtain ⟨b, of, hIe, hbl, cI⟩ := FSl.at_ encB_len (by decide) false (FSl.below HBs.out HB2.out) him
              have cI := cI 0 (.bool (bs.getD i false)) rfl
              rw [Nat.mul_one, Nat.add_zero] at cI
              have m0 : (i : Int) < (m : Int) := by omega
              have hd : decide (i < m) = true := decide_eq_true him
              rw [hd, Bool.true_and] at HNo HYe
              subst hIe
              clear hbl hd
              cases hbb : bs.getD i false with
              | true =>
                rw [hbb] at cI
                have HY := aside (HYe.out hbb)
                clear HYe HNo hbb
                go_wp2
                exact ⟨⟨i + 1, o + y, q + 1, by omega, rfl, by go_num, by go_num, by trivial, by omega, by omega, by omega, HY⟩, by simp [Go.RowKit.intOf]; omega⟩
              | false =>
                rw [hbb] at cI
                have HY := aside (HNo.out hbb)
                clear HYe HNo hbb
                go_wp2
                exact ⟨⟨i + 1, o, q, by omega, rfl, rfl, by go_num, by trivial, by omega, by omega, by omega, HY⟩, by simp [Go.RowKit.intOf]; omega⟩
            · have m0 : ((i : Int) < (m : Int)) = False := by simp only [eq_iff_iff, iff_false]; omega
              have HY := aside (HNo.out (by rw [decide_eq_false him]; rfl))
              clear HYe HNo
              go_wp2
              exact ⟨⟨i + 1, o, q, by omega, rfl, rfl, by go_num, by trivial, by omega, by omega, by omega, HY⟩, by simp [Go.RowKit.intOf]; omega⟩
          · obtain rfl : n = i := by omega
            have i1 : ((n : Int) < (n : Int)) = False := by simp
            have hlex : want ≤ o → s < o ∨ (s = o ∧ (p.length : Int) ≤ q) := fun hl => by
              have h1 := HLs.out.least (chosen bs m n) (chosen_dup bs m n) (chosen_ok bs m n) (by rw [← HS.out.1]; exact hl)
              rw [← HS.out.1, ← HS.out.2, ← HSp.out] at h1
              exact h1
            have HLx := aside hlex
            clear hlex hs2 hqi HS hin
            go_upto_region 24 with fail
            go_cut [117] from 94 (fun v117 wx => v117 = .bool false ∧ wx = wr)
            case first =>
              clear HFi HGr HTk
              have hsw : want ≤ s := hsb.2.2
              by_cases how : want ≤ o
              · rcases HLx.out how with hso | ⟨hso, hqp⟩
                · have hne : (o == s) = false := by simp; omega
                  have hns : s ≤ o := by omega
                  clear HLx
                  go_wp2_with fail
                  go_meet
                  exact ⟨by simp; omega, rfl⟩
                · subst hso
                  have hee : (s == s) = true := by simp
                  clear HLx
                  go_wp2_with fail
                  go_meet
                  exact ⟨by simp; omega, rfl⟩
              · have how2 : o < want := by omega
                clear HLx how
                go_wp2_with fail
                go_meet
                exact ⟨by simp; omega, rfl⟩
            case rest =>
            obtain ⟨rfl, rfl⟩ := hcut
            clear HLx
            go_wp2_with fail
            refine (HFi.out wc HB2.out).mono ?_
            rintro e w4 ⟨P4, k4, p4, rfl, hp4, hpe4, hb4⟩
            have HP4 := aside hp4
            have HPe4 := aside hpe4
            have HB4 := aside (HB2.out.trans (hb4.mono HB2.out.size))
            clear hb4 HFi hp4 hpe4
            go_wp2_with fail
            refine (HGr.out w4 HB4.out).mono ?_
            rintro e w5 ⟨P5, k5, p5, o5, rfl, hp5, hpe5, hpm5, hsr5, hb5⟩
            have t4 := HTk.out p4 (rangeZ n) (HLn.out ▸ HPe4.out) (List.Perm.refl _)
            have t5 := HTk.out p5 o5 hpe5 (HLn.out ▸ hpm5)
            have HB5 := aside (HB4.out.trans (hb5.mono HB4.out.size))
            have hA5 : ISl w5 w5.heap.size A n ns := isl_more (isl_below H.out HB5.out) HB5.out.size
            have W4 : Hid (Calls Try.prog 8 #[.slice A n c, .slice P4 p4.length k4] w5 (fun e w' => e = .returned (.int .i64 (sumG (atZ ns) p4)) ∧ w' = w5)) := aside (worth_any ns A n c p4 P4 p4.length k4 w5 hA5 (isl_more (isl_below HP4.out hb5) hb5.size) (by have := t4.len; omega) t4.ok t4.pos t4.most.2)
            have W5 : Hid (Calls Try.prog 8 #[.slice A n c, .slice P5 p5.length k5] w5 (fun e w' => e = .returned (.int .i64 (sumG (atZ ns) p5)) ∧ w' = w5)) := aside (worth_any ns A n c p5 P5 p5.length k5 w5 hA5 hp5 (by have := t5.len; omega) t5.ok t5.pos t5.most.2)
            have g4 : s ≤ sumG (atZ ns) p4 := by rw [HSp.out]; exact lst_tkn HLs.out t4
            have g5 : s ≤ sumG (atZ ns) p5 := by rw [HSp.out]; exact lst_tkn HLs.out t5
            clear hp5 hpe5 hpm5 hsr5 hb5 t4 t5 hA5 HTk HGr
            generalize sumG (atZ ns) p4 = S4 at W4 g4
            generalize sumG (atZ ns) p5 = S5 at W5 g5
            go_wp2_with fail
            refine W4.out.mono ?_
            rintro e w6 ⟨rfl, hw6⟩
            rw [hw6]
            clear hw6
            go_wp2_with fail
            refine W5.out.mono ?_
            rintro e w6 ⟨rfl, hw6⟩
            rw [hw6]
            clear hw6
            go_wp2
            go_ret
            exact ⟨rfl, HB5.out⟩
  · have hGr := fun W (hW : Below w.heap.size w W) => exact_bad ns A n c want W (isl_more (isl_below h hW) hW.size) hq
    have HGr := aside hGr
    clear h hb hq hGr
    go_enter Try.func5, Try.ntmps5
    go_wp2_with fail
    refine (picked_any w).mono ?_
    rintro e w1 ⟨rfl, hb1⟩
    have HB1 := aside hb1
    clear hb1
    go_wp2_with fail
    refine (HGr.out w1 HB1.out).mono ?_
    rintro e w2 ⟨rfl, hb2⟩
    have HB2 := aside (HB1.out.trans (hb2.mono HB1.out.size))
    clear hb2 HGr
    go_wp2
    go_ret
    exact ⟨rfl, HB2.out⟩
end Go.Proofs.Ytgickjghfndaaaa
