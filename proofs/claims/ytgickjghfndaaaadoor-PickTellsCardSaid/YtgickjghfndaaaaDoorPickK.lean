/- pick.First and pick.Exact. Conditions: named in each theorem. -/
import Derived.Test.YtgickjghfndaaaaDoorPickJ
namespace Go.Proofs.YtgickjghfndaaaaDoor
open Go.RowKit Go.ChangeShapes Go.WideShapes Go.ChangeAt

/-- What First tells. -/
def FirstD (ns : List Int) (want : Int) (W : World) (e : Ending) (w' : World) : Prop := ∃ A' c' p, e = .returned (.tuple #[.slice A' p.length c', .nilIface]) ∧ ISl w' w'.heap.size A' p.length p ∧ p = (takeT (atZ ns) want (rangeZ ns.length)).mergeSort (fun x y => decide (x ≤ y)) ∧ Below W.heap.size W w'
set_option maxHeartbeats 8000000 in
set_option maxRecDepth 100000 in
theorem first_bad (ns : List Int) (A : Option Addr) (n c : Nat) (want : Int) (w : World) (h : ISl w w.heap.size A n ns) (hq : pickQ ns want ≠ 0) :
    Calls Tryd.prog 11 #[.slice A n c, .int .i64 want] w (fun e w' => e = .returned (.tuple #[.slice none 0 0, .iface 24 (.int .i64 (pickQ ns want))]) ∧ Below w.heap.size w w') := by
  have HCk : Hid (Calls Tryd.prog 7 #[.slice A n c, .int .i64 want] w (fun e w' => e = .returned (.iface 24 (.int .i64 (pickQ ns want))) ∧ w' = w)) := aside (by
    have h2 := pickC_any ns A n c want w h
    rwa [errP_no hq] at h2)
  have HB := aside (Below.refl w.heap.size w)
  generalize pickQ ns want = q at HCk ⊢
  clear h hq
  go_enter Tryd.func11, Tryd.ntmps11
  go_wp2_with (first
    | (go_at_call 7; refine HCk.out.mono ?_; rintro e w' ⟨rfl, hw⟩; rw [hw]; clear hw w')
    | fail)
  (try simp only [Exit.inBlock, Exit.then])
  refine bodyPost_ret (v := .tuple #[.slice none 0 0, .iface 24 (.int .i64 q)]) (by simp only [results, Tryd.results11]; go_simp) rfl ?_
  exact ⟨rfl, HB.out⟩
set_option maxHeartbeats 8000000 in
set_option maxRecDepth 100000 in
theorem first_ok (ns : List Int) (A : Option Addr) (n c : Nat) (want : Int) (w : World) (h : ISl w w.heap.size A n ns) (hq : pickQ ns want = 0) :
    Calls Tryd.prog 11 #[.slice A n c, .int .i64 want] w (FirstD ns want w) := by
  have hln := ISl.len h
  obtain ⟨hz1, hz2, hz3, hz4, hz5, hz6⟩ := pickQ_zero hq
  have hn30 : n ≤ 30 := by omega
  have HCk : Hid (Calls Tryd.prog 7 #[.slice A n c, .int .i64 want] w (fun e w' => e = .returned .nilIface ∧ w' = w)) := aside (by
    have h2 := pickC_any ns A n c want w h
    rwa [hq, show errP 0 = Value.nilIface from rfl] at h2)
  have HLn := aside hln
  have H := aside h
  have HNs := aside hz2
  have HW := aside (And.intro hz3 hz4)
  clear hz1 hz2 hz3 hz4 hz5 hz6 hq h hln
  go_enter Tryd.func11, Tryd.ntmps11
  go_wp2_with (first
    | (go_at_call 7; refine HCk.out.mono ?_; rintro e w' ⟨rfl, hw⟩; rw [hw]; clear hw w')
    | (go_at_call 22; refine (places_any A n c (by omega) _).mono ?_; rintro e w2 ⟨A2, c2, rfl, ho, hb⟩; have HO := aside ho; have HB2 := aside hb; have HTl := aside (till_any ns A n c want (rangeZ n) A2 n c2 (by omega) (by omega) HNs.out HW.out (fun x hx => rangeZ_mem.1 hx) w2 (isl_more (isl_below H.out hb) hb.size) (ownZ_isl ho)); clear ho hb)
    | fail)
  refine HTl.out.mono ?_
  rintro e w4 ⟨A4, c4, p, rfl, hp, hpe, hb4⟩
  have HP := aside hp
  have HPe := aside hpe
  have HB4 := aside (HB2.out.trans (hb4.mono HB2.out.size))
  clear hp hpe hb4 HTl
  go_wp2
  (try simp only [Exit.inBlock, Exit.then])
  refine bodyPost_ret (v := .tuple #[.slice A4 p.length c4, .nilIface]) (by simp only [results, Tryd.results11]; go_simp) rfl ?_
  exact ⟨A4, c4, p, rfl, HP.out, by rw [HLn.out]; exact HPe.out, HB4.out⟩
/-- What is wrong with a sum that is wanted exactly. -/
def exactE (ns : List Int) (want : Int) : Int := if pickQ ns want ≠ 0 then pickQ ns want else if 10000 < want then 2 else 0
theorem exactE_zero {ns : List Int} {want : Int} (h : exactE ns want = 0) : pickQ ns want = 0 ∧ want ≤ 10000 := by
  unfold exactE at h
  split at h
  · rename_i h1; exact absurd h h1
  · rename_i h1
    split at h
    · cases h
    · exact ⟨by omega, by omega⟩
/-- What Exact tells. -/
def ExactD (ns : List Int) (want : Int) (W : World) (e : Ending) (w' : World) : Prop := ∃ A' c' p, e = .returned (.tuple #[.slice A' p.length c', .nilIface]) ∧ ISl w' w'.heap.size A' p.length p ∧ p = pickF ns 0 want ∧ Below W.heap.size W w'
set_option maxHeartbeats 8000000 in
set_option maxRecDepth 100000 in
theorem exact_bad (ns : List Int) (A : Option Addr) (n c : Nat) (want : Int) (w : World) (h : ISl w w.heap.size A n ns) (hq : exactE ns want ≠ 0) :
    Calls Tryd.prog 15 #[.slice A n c, .int .i64 want] w (fun e w' => e = .returned (.tuple #[.slice none 0 0, .iface 24 (.int .i64 (exactE ns want))]) ∧ Below w.heap.size w w') := by
  have hck := pickC_any ns A n c want w h
  have HB := aside (Below.refl w.heap.size w)
  by_cases hp : pickQ ns want = 0
  · have hw : 10000 < want := by
      unfold exactE at hq
      rw [if_neg (by simp [hp])] at hq
      by_cases hw : 10000 < want
      · exact hw
      · rw [if_neg hw] at hq; exact absurd rfl hq
    have e2 : exactE ns want = 2 := by unfold exactE; rw [if_neg (by simp [hp]), if_pos hw]
    rw [hp, show errP 0 = Value.nilIface from rfl] at hck
    rw [e2]
    have HCk := aside hck
    clear h hq hck hp e2
    go_enter Tryd.func15, Tryd.ntmps15
    go_wp2_with (first
      | (go_at_call 7; refine HCk.out.mono ?_; rintro e w' ⟨rfl, hw⟩; rw [hw]; clear hw w')
      | fail)
    (try simp only [Exit.inBlock, Exit.then])
    refine bodyPost_ret (v := .tuple #[.slice none 0 0, .iface 24 (.int .i64 2)]) (by simp only [results, Tryd.results15]; go_simp) rfl ?_
    exact ⟨rfl, HB.out⟩
  · have e2 : exactE ns want = pickQ ns want := by unfold exactE; rw [if_pos hp]
    rw [errP_no hp] at hck
    rw [e2]
    have HCk := aside hck
    clear h hq hck hp e2
    generalize pickQ ns want = q at HCk ⊢
    go_enter Tryd.func15, Tryd.ntmps15
    go_wp2_with (first
      | (go_at_call 7; refine HCk.out.mono ?_; rintro e w' ⟨rfl, hw⟩; rw [hw]; clear hw w')
      | fail)
    (try simp only [Exit.inBlock, Exit.then])
    refine bodyPost_ret (v := .tuple #[.slice none 0 0, .iface 24 (.int .i64 q)]) (by simp only [results, Tryd.results15]; go_simp) rfl ?_
    exact ⟨rfl, HB.out⟩
theorem below_grown {N : Nat} {w w' : World} {b : Nat} (h : w.grownBy w' (some b)) (hN : N ≤ b) (hs : N ≤ w.heap.size) : Below N w w' :=
  ⟨h.os, h.tape, h.output, h.size, fun i hi => h.block i (by omega) (fun e => by injection e with e; omega)⟩
theorem pickF_step {ns done : List Int} {want wi : Int} {i : Nat} (h : pickF ns 0 want = done ++ pickF (ns.drop i) i wi) (hi : i < ns.length) :
    ((bestF (ns.drop i) wi).tk = true → pickF ns 0 want = (done ++ [(i : Int)]) ++ pickF (ns.drop (i + 1)) ((i + 1 : Nat) : Int) (wi - nth ns i)) ∧ ((bestF (ns.drop i) wi).tk = false → pickF ns 0 want = done ++ pickF (ns.drop (i + 1)) ((i + 1 : Nat) : Int) wi) := by
  have e : ns.drop i = nth ns i :: ns.drop (i + 1) := by rw [nth_get hi]; exact List.drop_eq_getElem_cons hi
  have ei : ((i + 1 : Nat) : Int) = (i : Int) + 1 := rfl
  rw [ei]
  refine ⟨fun ht => ?_, fun ht => ?_⟩
  · rw [h]
    conv => lhs; rw [e]; unfold pickF
    rw [← e, if_pos ht]
    simp
  · rw [h]
    conv => lhs; rw [e]; unfold pickF
    rw [← e, if_neg (by simp [ht])]
theorem best_tk {ns : List Int} {want : Int} (h : (bestF ns want).tk = true) : 0 < want := by
  by_cases hw : want ≤ 0
  · rw [bestF_low _ hw] at h; cases h
  · omega
set_option maxHeartbeats 20000000 in
set_option maxRecDepth 100000 in
theorem exact_ok (ns : List Int) (A : Option Addr) (n c : Nat) (want : Int) (w : World) (h : ISl w w.heap.size A n ns) (hq : exactE ns want = 0) :
    Calls Tryd.prog 15 #[.slice A n c, .int .i64 want] w (ExactD ns want w) := by
  have hln := ISl.len h
  obtain ⟨hp, hw10⟩ := exactE_zero hq
  obtain ⟨hz1, hz2, hz3, hz4, hz5, hz6⟩ := pickQ_zero hp
  have hn30 : n ≤ 30 := by omega
  have HCk : Hid (Calls Tryd.prog 7 #[.slice A n c, .int .i64 want] w (fun e w' => e = .returned .nilIface ∧ w' = w)) := aside (by
    have h2 := pickC_any ns A n c want w h
    rwa [hp, show errP 0 = Value.nilIface from rfl] at h2)
  have HLn := aside hln
  have HNs := aside hz2
  have HT := aside hz5
  have HN30 := aside hn30
  obtain ⟨z, hz⟩ : ∃ z, z = w.heap.size := ⟨_, rfl⟩
  obtain ⟨w1, hw1⟩ : ∃ w1, w1 = (w.alloc (.map #[] 0)).alloc (.cells #[.slice A n c, .map (some w.heap.size)] 53) := ⟨_, rfl⟩
  have hbl : Below w.heap.size w w1 := by rw [hw1]; exact ((Below.refl _ _).alloc (Nat.le_refl _) _).alloc (by simp) _
  have hsz : w1.heap.size = w.heap.size + 2 := by rw [hw1]; simp
  have hbk : Blk w1 (w.heap.size + 1) 53 [.slice A n c, .map (some w.heap.size)] := by
    have h := (MapKept.heap_alloc (w.alloc (.map #[] 0)) (.cells #[.slice A n c, .map (some w.heap.size)] 53)).1
    rw [show (w.alloc (.map #[] 0)).heap.size = w.heap.size + 1 by simp] at h
    rw [hw1]
    exact h
  have hme : Memo w1 w.heap.size 0 ns := (memo_made w ns).same (by rw [hw1]; exact Below.heap_alloc _ _ _ (by simp))
  have HCH : Hid (Ch ns A n c (w.heap.size + 1) w.heap.size w.heap.size 0 w1) := aside ⟨hbk.cell rfl, hbk.cell rfl, hbk.lt, by omega, isl_below h hbl, Nat.le_refl _, hme⟩
  have HB1 := aside hbl
  have HZ1 := aside hsz
  have H := aside h
  have HW1 := aside hw1
  have HP0 : Hid (pickF ns 0 want = [] ++ pickF (ns.drop 0) ((0 : Nat) : Int) want) := aside (by simp)
  clear hz1 hz2 hz4 hz5 hz6 hq h hln hbl hsz hbk hme hp hw1 hz
  have hmm := @run_makeMap Tryd.prog
  have hfd : ∀ (s k : Int) (t c : Bool) (w : World), (Instr.field 55 (.agg #[.int .i64 s, .int .i64 k, .bool t, .bool c]) 2).run Tryd.prog w = .ok (.bool t) w := fun _ _ _ _ _ => by kernel_rfl
  go_enter Tryd.func15, Tryd.ntmps15
  go_wp2_with (first
    | (go_at_call 7; refine HCk.out.mono ?_; rintro e w' ⟨rfl, hw⟩; rw [hw]; clear hw w')
    | fail)
  rw [← HW1.out]
  have hz2 : w.heap.size + 2 ≤ w1.heap.size := by rw [HZ1.out]; exact Nat.le_refl _
  have HO1 : Hid (OwnZ w1 (w.heap.size + 2) (.slice none 0 0) 0 []) := aside (ownZ_nil _ _)
  go_loopw [1, 8, 26] (fun v1 v8 v26 wr => ∃ (i : Nat) (done : List Int) (A1 : Option Addr) (c1 : Nat) (wi : Int), i ≤ n ∧ v26 = .int .i64 i ∧ v1 = .int .i64 wi ∧ v8 = .slice A1 done.length c1 ∧ done.length ≤ i ∧ -1125899906842624 ≤ wi ∧ wi ≤ 10000 ∧ w.heap.size + 2 ≤ wr.heap.size ∧ Hid (OwnZ wr (w.heap.size + 2) (.slice A1 done.length c1) done.length done) ∧ Hid (Below w.heap.size w wr) ∧ Hid (Ch ns A n c (w.heap.size + 1) w.heap.size w.heap.size (i * 1073741824) wr) ∧ Hid (pickF ns 0 want = done ++ pickF (ns.drop i) i wi)) (fun _ _ v26 _ => n - (Go.RowKit.intOf v26).toNat)
  case atStart => exact ⟨0, [], none, 0, want, Nat.zero_le _, rfl, rfl, rfl, Nat.zero_le _, by omega, by omega, hz2, HO1, HB1, aside (by rw [Nat.zero_mul]; exact HCH.out), HP0⟩
  case round =>
    obtain ⟨i, done, A1, c1, wi, hi, rfl, rfl, rfl, hdi, hw1, hw2, hz2r, HO, HB, HC, HP⟩ := hrel
    clear HCH HB1 HZ1 HW1 HP0 HO1 hz2
    by_cases hin : i < n
    · have i0 : (i : Int) < (n : Int) := by omega
      have HBe : Hid (Calls Tryd.prog 29 #[.pointer (some ⟨w.heap.size + 1, 0, none⟩), .int .i64 i, .int .i64 wi] wr (BestD ns w.heap.size (i * 1073741824 + cap (n - i)) i wi wr)) := aside (best_any ns A n c (w.heap.size + 1) w.heap.size w.heap.size HN30.out HLn.out HNs.out HT.out (n - i) i (by omega) wi (by omega) (i * 1073741824) (by
        have := cap_30 (m := n - i) (by have := HN30.out; omega)
        have := HN30.out
        omega) wr HC.out)
      have HCap : Hid (i * 1073741824 + cap (n - i) ≤ (i + 1) * 1073741824) := aside (by
        have := cap_30 (m := n - i) (by have := HN30.out; omega)
        omega)
      have hst := pickF_step HP.out (by have := HLn.out; omega)
      have htk := best_tk (ns := ns.drop i) (want := wi)
      obtain ⟨b, of, hAe, hbl, cA⟩ := ISl.at_ (isl_below (h := HC.out.sl) (Below.refl _ _)) hin
      have hx := HNs.out _ (nth_mem (zs := ns) (k := i) (by have := HLn.out; omega))
      unfold BestD at HBe
      generalize bestF (ns.drop i) wi = V at HBe hst htk
      generalize nth ns i = x at cA hst hx
      obtain ⟨s, k, tk, can⟩ := V
      subst hAe
      have hg2 : w.heap.size < w.heap.size + 2 := by omega
      cases tk with
      | true =>
        have HN := aside (hst.1 rfl)
        have hwp := htk rfl
        have hwr : IntKind.i64.wrap (wi - x) = wi - x := by rw [IntKind.wrap_i64]; omega
        have hvv : -1125899906842624 ≤ wi - x ∧ wi - x ≤ 10000 := by omega
        have HVV := aside hvv
        clear hst htk hbl HP hvv hin
        go_wp2_with fail
        refine HBe.out.mono ?_
        rintro e w3 ⟨rfl, hm3, hg3⟩
        unfold cv
        have HC3 := aside (HC.out.turn hg3 (hm3.more HCap.out))
        have HB3 := aside (HB.out.trans (below_grown hg3 (Nat.le_refl _) HB.out.size))
        have HO3 : Hid (OwnZ w3 (w.heap.size + 2) (.slice A1 done.length c1) done.length done) := aside (HO.out.kept hg3 (by
          rcases Classical.em ((Value.slice A1 done.length c1).ownBlock = none) with h | h
          · exact .inl h
          · refine .inr fun e => ?_
            have := own_block_ge HO.out _ e
            omega))
        have hz3 := Nat.le_trans hz2r hg3.size
        clear hm3 hg3 HBe HC HB HO
        go_wp2_with (first
          | (at_builtin; refine wpList_push rfl (.tmp 36) (.tmp 38) 22 rfl (w.heap.size + 2) _ 1 8 Tryd.underlying22 infoZ rfl (by decide) (.slice A1 done.length c1) done.length _ rfl rfl rfl rfl HO3.out (by omega) (by unfold maxLen; omega) hz3 ?_; intro A4 c4 w4 hc4 hc4' hown4 hb4 hz4' hg4)
          | fail)
        have HO4 : Hid (OwnZ w4 (w.heap.size + 2) (.slice A4 (done.length + 1) c4) (done.length + 1) (done ++ [(i : Int)])) := aside (by show w4.ownsRow _ _ _ _ _ _; rw [List.map_append]; exact hown4)
        have HB4 := aside (HB3.out.trans (hb4.mono (Nat.le_add_right _ _)))
        have HC4 := aside (HC3.out.below hb4 ⟨by omega, by omega⟩)
        have hz5 := Nat.le_trans hz3 hb4.size
        clear hown4 hb4 hg4 hz4'
        have hll : (done ++ [(i : Int)]).length = done.length + 1 := by simp
        exact ⟨⟨i + 1, done ++ [(i : Int)], A4, c4, wi - x, by omega, by go_num, rfl, by rw [hll], by omega, HVV.out.1, HVV.out.2, hz5, by rw [hll]; exact HO4, HB4, HC4, HN⟩, by simp [Go.RowKit.intOf]; omega⟩
      | false =>
        have HN := aside (hst.2 rfl)
        clear hst htk hbl HP hin
        go_wp2_with fail
        refine HBe.out.mono ?_
        rintro e w3 ⟨rfl, hm3, hg3⟩
        unfold cv
        have HC3 := aside (HC.out.turn hg3 (hm3.more HCap.out))
        have HB3 := aside (HB.out.trans (below_grown hg3 (Nat.le_refl _) HB.out.size))
        have HO3 : Hid (OwnZ w3 (w.heap.size + 2) (.slice A1 done.length c1) done.length done) := aside (HO.out.kept hg3 (by
          rcases Classical.em ((Value.slice A1 done.length c1).ownBlock = none) with h | h
          · exact .inl h
          · refine .inr fun e => ?_
            have := own_block_ge HO.out _ e
            omega))
        have hz3 := Nat.le_trans hz2r hg3.size
        clear hm3 hg3 HBe HC HB HO
        go_wp2
        exact ⟨⟨i + 1, done, A1, c1, wi, by omega, by go_num, rfl, rfl, by omega, hw1, hw2, hz3, HO3, HB3, HC3, HN⟩, by simp [Go.RowKit.intOf]; omega⟩
    · obtain rfl : n = i := by omega
      have i0 : ((n : Int) < (n : Int)) = False := by simp
      have HPd : Hid (done = pickF ns 0 want) := aside (by
        rw [HP.out, List.drop_of_length_le (by have := HLn.out; omega)]
        unfold pickF
        rw [List.append_nil])
      clear hin HP HC
      go_wp2
      (try simp only [Exit.inBlock, Exit.then])
      refine bodyPost_ret (v := .tuple #[.slice A1 done.length c1, .nilIface]) (by simp only [results, Tryd.results15]; go_simp) rfl ?_
      exact ⟨A1, c1, done, rfl, ownZ_isl HO.out, HPd.out, HB.out⟩
end Go.Proofs.YtgickjghfndaaaaDoor
