/- PickOrder: its walk. Conditions: named in each theorem. -/
import Derived.Test.YtgickjghfndaaaaPickK
import Derived.Test.YtgickjghfndaaaaPickP
namespace Go.Proofs.Ytgickjghfndaaaa
open Go.RowKit Go.ChangeShapes Go.WideShapes Go.ChangeAt

theorem exactE_rev (ns : List Int) (want : Int) : exactE ns.reverse want = exactE ns want := by unfold exactE; rw [pickQ_rev]
theorem exactE_high {ns : List Int} {want : Int} (hp : pickQ ns want = 0) (hw : 10000 < want) : exactE ns want = 2 := by unfold exactE; rw [if_neg (by simp [hp]), if_pos hw]
theorem exactE_ok {ns : List Int} {want : Int} (hp : pickQ ns want = 0) (hw : ¬ 10000 < want) : exactE ns want = 0 := by unfold exactE; rw [if_neg (by simp [hp]), if_neg hw]
theorem exactE_bad {ns : List Int} {want : Int} (hp : pickQ ns want ≠ 0) : exactE ns want = pickQ ns want := by unfold exactE; rw [if_pos hp]
theorem drop_back {ns : List Int} {m : Nat} (h : m < ns.length) : (ns.drop m).reverse = (ns.drop (m + 1)).reverse ++ [nth ns m] := by
  rw [List.drop_eq_getElem_cons h, List.reverse_cons, nth_get h]
theorem one_ints (zs : List Int) : ∀ u ∈ zs.map (Value.int .i64), u.oneCell' = true := fun u hu => by
  obtain ⟨x, _, rfl⟩ := List.mem_map.1 hu
  rfl
set_option maxHeartbeats 40000000 in
set_option maxRecDepth 100000 in
theorem order_any (ns : List Int) (A : Option Addr) (n c : Nat) (want more : Int) (w : World) (h : ISl w w.heap.size A n ns) (hreach : n * 8 ≤ 140737488351232) :
    Calls Try.prog 4 #[.slice A n c, .int .i64 want, .int .i64 more] w (LawPost w) := by
  have HLn := aside (ISl.len h)
  have H := aside h
  clear h
  go_enter Try.func4, Try.ntmps4
  go_wp2_with fail
  refine (picked_any w).mono ?_
  rintro e w1 ⟨rfl, hb1⟩
  have HB1 := aside hb1
  have hz1 := hb1.size
  clear hb1
  go_wp2_with fail
  go_loopw [8, 9] (fun v8 v9 wr => ∃ m : Nat, m ≤ n ∧ v9 = .int .i64 ((m : Int) - 1) ∧ Hid (Below w.heap.size w wr) ∧ Hid (IRow wr w.heap.size v8 (ns.drop m).reverse)) (fun _ v9 _ => ((intOf v9) + 1).toNat)
  case atStart => exact ⟨n, Nat.le_refl _, rfl, HB1, aside (by rw [List.drop_of_length_le (by have := HLn.out; omega)]; exact World.ownsRow_nil _ _ _ _)⟩
  case round =>
    obtain ⟨m, hm, rfl, HB, HR⟩ := hrel
    clear HB1 hz1
    have hz := HB.out.size
    rcases Nat.eq_zero_or_pos m with h0 | hpos
    · subst h0
      have hrow := HR.out
      rw [List.drop_zero] at hrow
      obtain ⟨A4, n4, c4, rfl, i4, j4, l4⟩ := hrow.out
      have hn4 : n = n4 := by have := i4.len; have := HLn.out; simp at *; omega
      subst hn4
      have HLr : Hid (ns.reverse.length = n) := aside (by have := HLn.out; simpa using this)
      have HI4 := aside i4
      have HA := aside (isl_more (isl_below H.out HB.out) HB.out.size)
      clear hrow i4 j4 l4 HR
      have hrev := pickQ_rev ns want
      have hrevE := exactE_rev ns want
      by_cases hp0 : pickQ ns want = 0
      · by_cases hw : 10000 < want
        · have he := exactE_high hp0 hw
          have HX1 := aside (fun W (hW : Below wr.heap.size wr W) => exact_bad ns A n c want W (isl_more (isl_below HA.out hW) hW.size) (by rw [he]; decide))
          have HX2 := aside (fun W (hW : Below wr.heap.size wr W) => exact_bad ns.reverse A4 n c4 want W (isl_more (isl_below HI4.out hW) hW.size) (by rw [hrevE, he]; decide))
          rw [hrevE] at HX2
          rw [he] at HX1 HX2
          have HG1 := aside (fun W (hW : Below wr.heap.size wr W) => great_ok ns A n c want W (isl_more (isl_below HA.out hW) hW.size) hp0)
          have HG2 := aside (fun W (hW : Below wr.heap.size wr W) => great_ok ns.reverse A4 n c4 want W (isl_more (isl_below HI4.out hW) hW.size) (hrev.trans hp0))
          clear hrev hrevE hp0 he hw
          go_wp2_with fail
          refine (HX1.out wr (Below.refl _ _)).mono ?_
          rintro e w2 ⟨rfl, hb2⟩
          have HB2 := aside hb2
          clear hb2 HX1
          go_wp2_with fail
          refine (HX2.out w2 HB2.out).mono ?_
          rintro e w3 ⟨rfl, hb3⟩
          have HB3 := aside (HB2.out.trans (hb3.mono HB2.out.size))
          clear hb3 HX2
          go_wp2_with fail
          refine (HG1.out w3 HB3.out).mono ?_
          rintro e w4 ⟨P3, c3, p3, o3, rfl, -, -, -, -, hb4⟩
          have HB4 := aside (HB3.out.trans (hb4.mono HB3.out.size))
          clear hb4 HG1
          go_wp2_with fail
          refine (HG2.out w4 HB4.out).mono ?_
          rintro e w5 ⟨P5, c5, p5, o5, rfl, -, -, -, -, hb5⟩
          have HB5 := aside (HB4.out.trans (hb5.mono HB4.out.size))
          clear hb5 HG2
          go_wp2_with fail
          go_quiet (fail)
          go_wp2
          go_ret
          exact ⟨rfl, below_drawn (HB.out.trans (HB5.out.mono HB.out.size)) _⟩
        · have he := exactE_ok hp0 hw
          have HX1 := aside (fun W (hW : Below wr.heap.size wr W) => exact_ok ns A n c want W (isl_more (isl_below HA.out hW) hW.size) he)
          have HX2 := aside (fun W (hW : Below wr.heap.size wr W) => exact_ok ns.reverse A4 n c4 want W (isl_more (isl_below HI4.out hW) hW.size) (hrevE.trans he))
          have HG1 := aside (fun W (hW : Below wr.heap.size wr W) => great_ok ns A n c want W (isl_more (isl_below HA.out hW) hW.size) hp0)
          have HG2 := aside (fun W (hW : Below wr.heap.size wr W) => great_ok ns.reverse A4 n c4 want W (isl_more (isl_below HI4.out hW) hW.size) (hrev.trans hp0))
          obtain ⟨z1, z2, z3, z4, z5, z6⟩ := pickQ_zero hp0
          have HNs := aside z2
          have HZ6 := aside z6
          have HL1 := aside (lst_of HLn.out hp0)
          have HL2 := aside (lst_of HLr.out (hrev.trans hp0))
          have HT1 := aside (fun q o => tkn_of (ns := ns) (want := want) (n := n) (p := q) (o := o) HLn.out hp0)
          have HT2 := aside (fun q o => tkn_of (ns := ns.reverse) (want := want) (n := n) (p := q) (o := o) HLr.out (hrev.trans hp0))
          have hs1 := pick_sum (fun x hx => (z2 x hx).1) z6
          have hs2 := pick_sum (ns := ns.reverse) (want := want) (fun x hx => (z2 x (List.mem_reverse.1 hx)).1) (by rw [rev_sum]; exact z6)
          have hbr := best_rev (want := want) (fun x hx => (z2 x hx).1) z6
          have HEq1 : Hid ((pickF ns 0 want).length = (pickF ns.reverse 0 want).length ∧ sumG (atZ ns) (pickF ns 0 want) = sumG (atZ ns.reverse) (pickF ns.reverse 0 want)) := aside ⟨by omega, by omega⟩
          have HS1 := aside hs1
          have HE0 := aside hp0
          have hn30 : n ≤ 30 := by have := HLn.out; omega
          clear hrev hrevE hp0 he hw z1 z2 z3 z4 z5 z6 hs1 hs2 hbr
          go_wp2_with fail
          refine (HX1.out wr (Below.refl _ _)).mono ?_
          rintro e w2 ⟨P1, k1, p1, rfl, hp1, hpe1, hb2⟩
          have HP1 := aside hp1
          have HPe1 := aside hpe1
          have HB2 := aside hb2
          clear hb2 HX1 hp1 hpe1
          go_wp2_with fail
          refine (HX2.out w2 HB2.out).mono ?_
          rintro e w3 ⟨P2, k2, p2, rfl, hp2, hpe2, hb3⟩
          have HP2 := aside hp2
          have HPe2 := aside hpe2
          have HB32 := aside hb3
          have HB3 := aside (HB2.out.trans (hb3.mono HB2.out.size))
          clear hb3 HX2 hp2 hpe2
          go_wp2_with fail
          refine (HG1.out w3 HB3.out).mono ?_
          rintro e w4 ⟨P3, k3, p3, o3, rfl, hp3, hpe3, hpm3, hsr3, hb4⟩
          have HP3 := aside hp3
          have HPe3 := aside (And.intro hpe3 (And.intro hpm3 hsr3))
          have HB43 := aside hb4
          have HB4 := aside (HB3.out.trans (hb4.mono HB3.out.size))
          clear hb4 HG1 hp3 hpe3 hpm3 hsr3
          go_wp2_with fail
          refine (HG2.out w4 HB4.out).mono ?_
          rintro e w5 ⟨P4, k4, p4, o4, rfl, hp4, hpe4, hpm4, hsr4, hb5⟩
          have HB5 := aside (HB4.out.trans (hb5.mono HB4.out.size))
          have hm3 : o3.Perm (rangeZ n) := HLn.out ▸ HPe3.out.2.1
          have hm4 : o4.Perm (rangeZ n) := HLr.out ▸ hpm4
          have hal := great_alike (want := want) HLn.out HLr.out (List.reverse_perm ns).symm hm3 hm4 HPe3.out.2.2 hsr4
          have hss := sorted_sum hal HPe3.out.1 hpe4
          have t3 := HT1.out p3 o3 HPe3.out.1 hm3
          have t4 := HT2.out p4 o4 hpe4 hm4
          have hA5 : ISl w5 w5.heap.size A n ns := isl_more (isl_below HA.out HB5.out) HB5.out.size
          have hI5 : ISl w5 w5.heap.size A4 n ns.reverse := isl_more (isl_below HI4.out HB5.out) HB5.out.size
          have hb35 := HB43.out.trans (hb5.mono HB43.out.size)
          have hb25 := HB32.out.trans (hb35.mono HB32.out.size)
          have l1 := HL1.out
          have l2 := HL2.out
          rw [← HPe1.out] at l1
          rw [← HPe2.out] at l2
          have W1 : Hid (Calls Try.prog 8 #[.slice A n c, .slice P1 p1.length k1] w5 (fun e w' => e = .returned (.int .i64 (sumG (atZ ns) p1)) ∧ w' = w5)) := aside (worth_any ns A n c p1 P1 p1.length k1 w5 hA5 (isl_more (isl_below HP1.out hb25) hb25.size) (by have := l1.len; omega) l1.ok l1.pos l1.most.2)
          have W2 : Hid (Calls Try.prog 8 #[.slice A4 n c4, .slice P2 p2.length k2] w5 (fun e w' => e = .returned (.int .i64 (sumG (atZ ns.reverse) p2)) ∧ w' = w5)) := aside (worth_any ns.reverse A4 n c4 p2 P2 p2.length k2 w5 hI5 (isl_more (isl_below HP2.out hb35) hb35.size) (by have := l2.len; omega) l2.ok l2.pos l2.most.2)
          have W3 : Hid (Calls Try.prog 8 #[.slice A n c, .slice P3 p3.length k3] w5 (fun e w' => e = .returned (.int .i64 (sumG (atZ ns) p3)) ∧ w' = w5)) := aside (worth_any ns A n c p3 P3 p3.length k3 w5 hA5 (isl_more (isl_below HP3.out hb5) hb5.size) (by have := t3.len; omega) t3.ok t3.pos t3.most.2)
          have W4 : Hid (Calls Try.prog 8 #[.slice A4 n c4, .slice P4 p4.length k4] w5 (fun e w' => e = .returned (.int .i64 (sumG (atZ ns.reverse) p4)) ∧ w' = w5)) := aside (worth_any ns.reverse A4 n c4 p4 P4 p4.length k4 w5 hI5 hp4 (by have := t4.len; omega) t4.ok t4.pos t4.most.2)
          have he1 := HEq1.out
          rw [← HPe1.out, ← HPe2.out] at he1
          rw [← he1.2] at W2
          rw [← hss.2] at W4
          have hl1 : ((p1.length : Int) != (p2.length : Int)) = false := by rw [he1.1]; simp
          have hl3 : ((p3.length : Int) != (p4.length : Int)) = false := by rw [hss.1]; simp
          have hl1s := l1.most
          have HS1' : Hid (sumG (atZ ns) p1 = (bestF ns want).s) := aside (by rw [HPe1.out]; exact HS1.out.1)
          have HP15 := aside (isl_more (isl_below HP1.out hb25) hb25.size)
          have HL1' := aside l1
          have hA5' := aside hA5
          clear hb5 HG2 hp4 hpe4 hpm4 hsr4 hm3 hm4 hal hss t3 t4 hA5 hI5 hb35 hb25 l1 l2 he1 HEq1 HPe3 HL1 HL2 HT1 HT2 HS1
          obtain ⟨S1, hS1⟩ : ∃ S, S = sumG (atZ ns) p1 := ⟨_, rfl⟩
          obtain ⟨S3, hS3⟩ : ∃ S, S = sumG (atZ ns) p3 := ⟨_, rfl⟩
          rw [← hS1] at W1 W2 HS1' hl1s
          rw [← hS3] at W3 W4
          have HSS := aside hS1
          clear hS1 hS3
          have e1 : (S1 != S1) = false := by simp
          have e3 : (S3 != S3) = false := by simp
          go_wp2_with fail
          refine W1.out.mono ?_
          rintro e w6 ⟨rfl, hw6⟩
          rw [hw6]
          clear hw6
          go_wp2_with fail
          refine W2.out.mono ?_
          rintro e w6 ⟨rfl, hw6⟩
          rw [hw6]
          clear hw6
          go_wp2_with fail
          refine W3.out.mono ?_
          rintro e w6 ⟨rfl, hw6⟩
          rw [hw6]
          clear hw6
          go_wp2_with fail
          refine W4.out.mono ?_
          rintro e w6 ⟨rfl, hw6⟩
          rw [hw6]
          clear hw6
          clear W1 W2 W3 W4
          have HBa : Hid (Below w5.heap.size w5 (w5.alloc (.cells #[] 3))) := aside ((Below.refl _ _).alloc (Nat.le_refl _) _)
          have HO : Hid ((w5.alloc (.cells #[] 3)).ownsRow w5.heap.size 3 1 (.slice (some ⟨w5.heap.size, 0, none⟩) 0 0) 0 []) := aside (World.ownsRow_made (base := w5.heap.size) w5 #[] 0 (Nat.le_refl _) (by decide) rfl)
          have HSl : Hid (ISl (w5.alloc (.cells #[] 3)) w5.heap.size A n ns) := aside (isl_below hA5'.out HBa.out)
          have H1 := aside (one_ints ns)
          go_wp2_with (first
            | (at_builtin; refine wpList_concat rfl (.tmp 118) (.tmp 119) 22 rfl w5.heap.size (.int .i64 0) 1 8 Try.underlying22 infoZ rfl (by decide) _ 0 [] rfl HO.out w5.heap.size A n c _ rfl HSl.out H1.out (by omega) (by unfold maxLen; omega) (by simp) ?_; intro A6 c6 w6 hc6 hc6' hown6 hb6 hg6; simp only [Nat.zero_add, List.nil_append] at hown6 hc6; have HO6 := aside hown6; have HB6 := aside (HBa.out.trans hb6); have hz6 := HB6.out.size; clear hown6 hb6 hg6 hc6 hc6')
            | (at_builtin; refine wpList_push rfl (.tmp 120) (.tmp 122) 22 rfl w5.heap.size _ 1 8 Try.underlying22 infoZ rfl (by decide) (.slice A6 n c6) n _ rfl rfl rfl rfl HO6.out (by omega) (by unfold maxLen; omega) hz6 ?_; intro A7 c7 w7 hc7 hc7' hown7 hb7 hz7 hg7)
            | fail)
          have HO7 : Hid (OwnZ w7 w5.heap.size (.slice A7 (n + 1) c7) (n + 1) (ns ++ [more])) := aside (by show w7.ownsRow _ _ _ _ _ _; rw [List.map_append]; exact hown7)
          have HB7 := aside (HB6.out.trans hb7)
          have HLa : Hid ((ns ++ [more]).length = n + 1) := aside (by rw [List.length_append, HLn.out]; rfl)
          have HI7 := aside (ownZ_isl HO7.out)
          clear hown7 hb7 hz7 hg7 hc7 hc7' HO6 HB6 hz6 HO HSl H1 HBa
          by_cases hE : exactE (ns ++ [more]) want = 0
          · have hp7 := (exactE_zero hE).1
            obtain ⟨y1, y2, y3, y4, y5, y6⟩ := pickQ_zero hp7
            have hm0 : 0 ≤ more := (y2 more (by simp)).1
            have hL7 := lst_of HLa.out hp7
            have hs7 := (pick_sum (fun x hx => (y2 x hx).1) y6).1
            have hle := best_more (want := want) (fun x hx => (HNs.out x hx).1) hm0 HZ6.out
            have HX7 := aside (exact_ok (ns ++ [more]) A7 (n + 1) c7 want w7 HI7.out hE)
            clear hE hp7 y1 y2 y3 y4 y5 y6
            refine HX7.out.mono ?_
            rintro e w8 ⟨P8, k8, p8, rfl, hp8, hpe8, hb8⟩
            have HB8 := aside (HB7.out.trans (hb8.mono HB7.out.size))
            rw [← hpe8] at hL7 hs7
            have W8 : Hid (Calls Try.prog 8 #[.slice A7 (n + 1) c7, .slice P8 p8.length k8] w8 (fun e w' => e = .returned (.int .i64 (sumG (atZ (ns ++ [more])) p8)) ∧ w' = w8)) := aside (worth_any (ns ++ [more]) A7 (n + 1) c7 p8 P8 p8.length k8 w8 (isl_more (isl_below HI7.out hb8) hb8.size) hp8 (by have := hL7.len; omega) hL7.ok hL7.pos hL7.most.2)
            have W1 : Hid (Calls Try.prog 8 #[.slice A n c, .slice P1 p1.length k1] w8 (fun e w' => e = .returned (.int .i64 (sumG (atZ ns) p1)) ∧ w' = w8)) := aside (worth_any ns A n c p1 P1 p1.length k1 w8 (isl_more (isl_below hA5'.out HB8.out) HB8.out.size) (isl_more (isl_below HP15.out HB8.out) HB8.out.size) (by have := HL1'.out.len; omega) HL1'.out.ok HL1'.out.pos HL1'.out.most.2)
            have h81 : sumG (atZ (ns ++ [more])) p8 ≤ sumG (atZ ns) p1 := by rw [hs7, ← HSS.out, HS1'.out]; exact hle
            clear hp8 hpe8 hb8 hL7 hs7 hle hm0 HX7
            generalize sumG (atZ (ns ++ [more])) p8 = S8 at W8 h81
            generalize sumG (atZ ns) p1 = T1 at W1 h81
            go_wp2_with fail
            refine W8.out.mono ?_
            rintro e w9 ⟨rfl, hw9⟩
            rw [hw9]
            clear hw9
            go_wp2_with fail
            refine W1.out.mono ?_
            rintro e w9 ⟨rfl, hw9⟩
            rw [hw9]
            clear hw9
            go_wp2
            go_ret
            exact ⟨rfl, HB.out.trans ((HB5.out.trans (HB8.out.mono HB5.out.size)).mono HB.out.size)⟩
          · have HX7 := aside (exact_bad (ns ++ [more]) A7 (n + 1) c7 want w7 HI7.out hE)
            clear hE
            refine HX7.out.mono ?_
            rintro e w8 ⟨rfl, hb8⟩
            have HB8 := aside (HB7.out.trans (hb8.mono HB7.out.size))
            clear hb8 HX7
            go_wp2
            go_ret
            exact ⟨rfl, HB.out.trans ((HB5.out.trans (HB8.out.mono HB5.out.size)).mono HB.out.size)⟩
      · have he := exactE_bad hp0
        have hq2 : pickQ ns.reverse want ≠ 0 := by rw [hrev]; exact hp0
        have HX1 := aside (fun W (hW : Below wr.heap.size wr W) => exact_bad ns A n c want W (isl_more (isl_below HA.out hW) hW.size) (by rw [he]; exact hp0))
        have HX2 := aside (fun W (hW : Below wr.heap.size wr W) => exact_bad ns.reverse A4 n c4 want W (isl_more (isl_below HI4.out hW) hW.size) (by rw [hrevE, he]; exact hp0))
        have HG1 := aside (fun W (hW : Below wr.heap.size wr W) => great_bad ns A n c want W (isl_more (isl_below HA.out hW) hW.size) hp0)
        have HG2 := aside (fun W (hW : Below wr.heap.size wr W) => great_bad ns.reverse A4 n c4 want W (isl_more (isl_below HI4.out hW) hW.size) hq2)
        rw [hrevE] at HX2
        rw [hrev] at HG2
        rw [he] at HX1 HX2
        generalize pickQ ns want = q at HX1 HX2 HG1 HG2
        clear hrev hrevE hp0 he hq2
        go_wp2_with fail
        refine (HX1.out wr (Below.refl _ _)).mono ?_
        rintro e w2 ⟨rfl, hb2⟩
        have HB2 := aside hb2
        clear hb2 HX1
        go_wp2_with fail
        refine (HX2.out w2 HB2.out).mono ?_
        rintro e w3 ⟨rfl, hb3⟩
        have HB3 := aside (HB2.out.trans (hb3.mono HB2.out.size))
        clear hb3 HX2
        go_wp2_with fail
        refine (HG1.out w3 HB3.out).mono ?_
        rintro e w4 ⟨rfl, hb4⟩
        have HB4 := aside (HB3.out.trans (hb4.mono HB3.out.size))
        clear hb4 HG1
        go_wp2_with fail
        refine (HG2.out w4 HB4.out).mono ?_
        rintro e w5 ⟨rfl, hb5⟩
        have HB5 := aside (HB4.out.trans (hb5.mono HB4.out.size))
        clear hb5 HG2
        go_wp2_with fail
        go_quiet (fail)
        go_wp2
        go_ret
        exact ⟨rfl, below_drawn (HB.out.trans (HB5.out.mono HB.out.size)) _⟩
    · obtain ⟨j, rfl⟩ : ∃ j, m = j + 1 := ⟨m - 1, by omega⟩
      have hrow := HR.out
      obtain ⟨b, off, hAe, hbl, hc⟩ := (isl_more (isl_below H.out HB.out) HB.out.size).at_ (k := j) (by omega)
      have hd := drop_back (ns := ns) (m := j) (by have := HLn.out; omega)
      obtain ⟨gs, hgs⟩ : ∃ gs, gs = (ns.drop (j + 1)).reverse := ⟨_, rfl⟩
      rw [← hgs] at hrow hd
      have hll2 : gs.length + 1 ≤ n := by rw [hgs]; have := HLn.out; simp; omega
      have Hd := aside hd
      have HRow := aside hrow
      subst hAe
      clear hd hgs hrow HR hbl
      have hj1 : (j : Int) < (n : Int) := by omega
      go_wp2_with (at_builtin; refine wpList_push rfl (.tmp 31) (.tmp 36) 22 rfl w.heap.size _ 1 8 Try.underlying22 infoZ rfl (by decide) _ _ _ rfl rfl rfl rfl HRow.out (by omega) (by unfold maxLen; omega) (by omega) ?_; intro A3 c3 w3 _ _ hown3 hb3 hz3 _)
      refine ⟨⟨j, by omega, by go_num, aside (HB.out.trans hb3), aside ?_⟩, by simp [intOf] <;> omega⟩
      rw [Hd.out]
      exact IRow.push rfl hown3
end Go.Proofs.Ytgickjghfndaaaa
