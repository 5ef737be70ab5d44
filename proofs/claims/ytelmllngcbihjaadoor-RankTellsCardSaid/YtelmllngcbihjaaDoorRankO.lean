/- RankOrder: the same numbers, from the last to the first, have the same one at each place; with one more that is no less than it, it stays, or is at a place behind. Condition: errors.errorType reads as the program's text lays it (the card ties it). -/
import Derived.Test.YtelmllngcbihjaaDoorRankW
import Derived.Test.YtelmllngcbihjaaDoorErr
namespace Go.Proofs.YtelmllngcbihjaaDoor
open Go.RowKit Go.ChangeShapes Go.WideShapes Go.ChangeAt

theorem PostRank.err {ns : List Int} {k : Int} {w w' : World} {e : Ending} (h : PostRank ns k w e w') :
    ∃ r q, e = .returned (.tuple #[.int .i64 r, errOf q]) ∧ Below w.heap.size w w' ∧
      ((0 ≤ k ∧ k < ns.length ∧ q = 0 ∧ IsRank ns k.toNat r) ∨ (ns = [] ∧ r = 0 ∧ q = 5) ∨ (ns ≠ [] ∧ (k < 0 ∨ (ns.length : Int) ≤ k) ∧ r = 0 ∧ q = 2)) := by
  obtain ⟨r, v, rfl, hb, ⟨h1, h2, rfl, h3⟩ | ⟨h1, rfl, rfl⟩ | ⟨h1, h2, rfl, rfl⟩⟩ := h
  · exact ⟨r, 0, rfl, hb, .inl ⟨h1, h2, rfl, h3⟩⟩
  · exact ⟨0, 5, rfl, hb, .inr (.inl ⟨h1, rfl, rfl⟩)⟩
  · exact ⟨0, 2, rfl, hb, .inr (.inr ⟨h1, h2, rfl, rfl⟩)⟩

theorem drop_back {ns : List Int} {m : Nat} (h : m < ns.length) : (ns.drop m).reverse = (ns.drop (m + 1)).reverse ++ [nth ns m] := by
  rw [List.drop_eq_getElem_cons h, List.reverse_cons, nth_get h]

theorem rank_more_stays {ns : List Int} {k : Nat} {x z d : Int} (hx : IsRank ns k x) (hz : IsRank (ns ++ [d]) k z) (h : x ≤ d) : z = x := by
  refine hz.uniq ⟨?_, ?_, by simp [hx.2.2]⟩
  · unfold less
    rw [List.countP_append]
    have : ([d] : List Int).countP (fun y => decide (y < x)) = 0 := by simp; omega
    have := hx.1
    unfold less at this
    omega
  · unfold upTo
    rw [List.countP_append]
    have := hx.2.1
    unfold upTo at this
    omega
theorem rank_more_behind {ns : List Int} {k : Nat} {x z d : Int} (hx : IsRank ns k x) (hz : IsRank (ns ++ [d]) k z) : z ≤ x := by
  by_cases h : z ≤ x
  · exact h
  · have h1 := upTo_less ns (show x < z by omega)
    have h2 := hz.1
    unfold less at h2 h1
    rw [List.countP_append] at h2
    have := hx.2.1
    omega

set_option maxRecDepth 100000 in
set_option maxHeartbeats 4000000 in
theorem order_any (ns : List Int) (k d : Int) (A : Option Addr) (n cap : Nat) (w : World) (hg : ErrVar w) (hs : ISl w w.heap.size A n ns) (hreach : n * 8 ≤ 140737488351232) :
    Calls Tryd.prog 3 #[.slice A n cap, .int .i64 k, .int .i64 d] w (LawPost w) := by
  have Hlen := aside hs.len
  have Hg := aside hg
  clear hg
  go_enter Tryd.func3, Tryd.ntmps3
  go_wp2_with fail
  refine (ranked_any _).mono ?_
  rintro e w1 ⟨rfl, hb1⟩
  have hs1 : ISl w1 w1.heap.size A n ns := Sl.more (Sl.below hs hb1) hb1.size
  go_wp2_with fail
  refine (rank_any ns k A n cap w1 hs1 (by omega)).mono ?_
  rintro e w2 hr2
  obtain ⟨x, q1, rfl, hb2, hx⟩ := hr2.err
  have hs2 : ISl w2 w2.heap.size A n ns := Sl.more (Sl.below hs1 hb2) hb2.size
  have hB2 := hb1.trans (hb2.mono hb1.size)
  clear hb1 hb2 hs1 hr2
  generalize hv1 : errOf q1 = v1
  have Hv1 := aside hv1
  clear hv1
  have hz2 := hB2.size
  go_wp2_with fail
  go_loopw [10, 11] (fun v1 v2 wr => ∃ m : Nat, m ≤ n ∧ v2 = .int .i64 ((m : Int) - 1) ∧ Below w.heap.size w wr ∧ IRow wr w.heap.size v1 (ns.drop m).reverse) (fun _ v2 _ => ((intOf v2) + 1).toNat)
  case atStart => exact ⟨n, Nat.le_refl _, rfl, hB2, by rw [List.drop_of_length_le (by have := Hlen.out; omega)]; exact World.ownsRow_nil _ _ _ _⟩
  case round =>
    obtain ⟨m, hm, rfl, hb, hrow⟩ := hrel
    have hz := hb.size
    rcases Nat.eq_zero_or_pos m with h0 | hpos
    · subst h0
      rw [List.drop_zero] at hrow
      have hgr : ErrVar wr := Hg.out.below (errVar_lt Hg.out) hb
      have Hgr := aside hgr
      clear hgr
      obtain ⟨A4, n4, c4, rfl, i4, j4, l4⟩ := hrow.out
      have hn4 : n4 = n := by have := i4.len; have := Hlen.out; simp at *; omega
      subst hn4
      go_wp2_with fail
      refine (rank_any ns.reverse k A4 n4 c4 wr i4 (by omega)).mono ?_
      rintro e w3 hr3
      obtain ⟨y, q2, rfl, hb3, hy⟩ := hr3.err
      generalize hv2 : errOf q2 = v2
      have Hv2 := aside hv2
      clear hv2 hr3
      have hz3 := hb3.size
      have hB3 : Below w.heap.size w w3 := hb.trans (hb3.mono hz)
      have same : q1 = q2 ∧ x = y := by
        have hl := Hlen.out
        rcases hx with ⟨h1, h2, rfl, h3⟩ | ⟨h1, rfl, rfl⟩ | ⟨h1, h2, rfl, rfl⟩
        · rcases hy with ⟨_, _, rfl, g3⟩ | ⟨g1, _, _⟩ | ⟨_, g2, _, _⟩
          · exact ⟨rfl, h3.uniq (rank_perm g3 (List.reverse_perm ns))⟩
          · simp at g1; subst g1; simp at h2; omega
          · simp at g2; omega
        · subst h1
          rcases hy with ⟨_, g2, _, _⟩ | ⟨_, rfl, rfl⟩ | ⟨g1, _, _, _⟩
          · simp at g2; omega
          · exact ⟨rfl, rfl⟩
          · exact absurd rfl g1
        · rcases hy with ⟨g1, g2, _, _⟩ | ⟨g1, _, _⟩ | ⟨_, _, rfl, rfl⟩
          · simp at g2; omega
          · simp at g1; exact absurd g1 h1
          · exact ⟨rfl, rfl⟩
      obtain ⟨rfl, rfl⟩ := same
      have hg3 : ErrVar w3 := Hg.out.below (errVar_lt Hg.out) hB3
      go_wp2_with fail
      refine (same_at Hv1.out Hv2.out hg3).mono ?_
      rintro e w4 ⟨rfl, hb4⟩
      have hz4 := hb4.size
      have hB4 : Below w.heap.size w w4 := hB3.trans (hb4.mono (by omega))
      have hq : (q1 == q1) = true := by simp
      rw [hq]
      have hxx : (x != x) = false := by simp
      clear hy hg3 hq
      rcases hx with ⟨h1, h2, rfl, h3⟩ | ⟨h1, rfl, rfl⟩ | ⟨h1, h2, rfl, rfl⟩
      · obtain rfl : v1 = .nilIface := Hv1.out.symm
        have hrow4 : IRow w4 w.heap.size (.slice A4 n4 c4) ns.reverse := own_below (own_below hrow hb3) hb4
        have hll : ns.reverse.length ≤ n4 := by have := Hlen.out; simp; omega
        have Hll : Hid (ns.reverse.length = n4) := by have := Hlen.out; show ns.reverse.length = n4; simp; omega
        obtain ⟨back, hback⟩ : ∃ back, back = ns.reverse := ⟨_, rfl⟩
        rw [← hback] at hrow4 hll Hll
        have Hback := aside hback
        clear hback hrow i4 hb3 hb4
        go_wp2_with (at_builtin; refine wpList_push rfl (.tmp 59) (.tmp 61) 22 rfl w.heap.size _ 1 8 Tryd.underlying22 intInfo rfl (by decide) _ _ _ rfl rfl rfl rfl hrow4 (by omega) (by unfold maxLen; omega) (by omega) ?_)
        intro A5 c5 w5 _ _ hown5 hb5 hz5 _
        have hrow5 := IRow.push rfl hown5
        obtain ⟨A6, n6, c6, he6, i6, j6, l6⟩ := hrow5.out
        have hB5 := hB4.trans hb5
        injection he6 with e1 e2 e3
        subst e1 e2 e3
        go_wp2_with fail
        refine (rank_any (back ++ [d]) k A5 (back.length + 1) c5 w5 i6 (by omega)).mono ?_
        rintro e w6 ⟨z, v6, rfl, hb6, hz6⟩
        have hB6 := hB5.trans (hb6.mono (by have := hB5.size; omega))
        have hxb : IsRank back k.toNat x := by rw [Hback.out]; exact rank_perm h3 (List.reverse_perm ns).symm
        have hl := Hlen.out
        have hl2 := Hll.out
        rcases hz6 with ⟨_, _, rfl, g3⟩ | ⟨g1, _, _⟩ | ⟨_, g2, _, _⟩
        · have r1 := rank_more_behind hxb g3
          clear hl hl2
          by_cases hxd : x ≤ d
          · have r2 := rank_more_stays hxb g3 hxd
            subst r2
            clear r1
            go_wp2
            go_ret
            exact ⟨rfl, hB6⟩
          · go_wp2
            go_ret
            exact ⟨rfl, hB6⟩
        · simp at g1
        · simp at g2; omega
      · obtain rfl : v1 = .iface 30 (.int .i64 5) := Hv1.out.symm
        go_wp2
        go_ret
        exact ⟨rfl, hB4⟩
      · obtain rfl : v1 = .iface 30 (.int .i64 2) := Hv1.out.symm
        go_wp2
        go_ret
        exact ⟨rfl, hB4⟩
    · obtain ⟨j, rfl⟩ : ∃ j, m = j + 1 := ⟨m - 1, by omega⟩
      have hsr : ISl wr wr.heap.size A n ns := Sl.more (Sl.below hs hb) hz
      obtain ⟨b, off, rfl, hbl, hc⟩ := hsr.at_ (k := j) (by omega)
      have hd := drop_back (ns := ns) (m := j) (by have := Hlen.out; omega)
      obtain ⟨gs, hgs⟩ : ∃ gs, gs = (ns.drop (j + 1)).reverse := ⟨_, rfl⟩
      rw [← hgs] at hrow hd
      have hll : gs.length ≤ n := by rw [hgs]; have := Hlen.out; simp; omega
      have hll2 : gs.length + 1 ≤ n := by rw [hgs]; have := Hlen.out; simp; omega
      have Hd := aside hd
      clear hd hgs
      have hj1 : (j : Int) < (n : Int) := by omega
      go_wp2_with (at_builtin; refine wpList_push rfl (.tmp 33) (.tmp 38) 22 rfl w.heap.size _ 1 8 Tryd.underlying22 intInfo rfl (by decide) _ _ _ rfl rfl rfl rfl hrow (by omega) (by unfold maxLen; omega) (by omega) ?_)
      intro A3 c3 w3 _ _ hown3 hb3 hz3 _
      go_wp2
      refine ⟨⟨j, by omega, by go_num, hb.trans hb3, ?_⟩, by simp [intOf] <;> omega⟩
      rw [Hd.out]
      exact IRow.push rfl hown3

/-- What the law's arguments are. -/
theorem rankOrder_walk {H : Type} {enc : TypeId × Value → H} (W : World) (args : Array Value) (ds : List (DataW H)) (ps : List MemPlace) (hg : ErrVar W)
    (h : LawPre enc Tryd.prog Tryd.f3 W args ds ps) : Calls Tryd.prog 3 args W (LawPost W) := by
  obtain ⟨hA, ⟨base, hval⟩, hlt, hsz⟩ := h
  rw [Tryd.params3] at hA hval hsz
  obtain ⟨v0, v1, v2, d0, d1, d2, p0, p1, p2, rfl, rfl, rfl, h0, h1, h2⟩ := trodAll_three hA
  obtain ⟨A, n, c', zs, rfl, hc1, hc2, hs, hwf, hx⟩ := open_intSlice (hval 0 _ v0 rfl rfl) h0 (fun x hx => hlt x (by simp [hx]))
  obtain ⟨k, rfl, rfl, rfl, _⟩ := open_int Tryd.underlying3 (hval 1 _ v1 rfl rfl) h1
  obtain ⟨d, rfl, rfl, rfl, _⟩ := open_int Tryd.underlying3 (hval 2 _ v2 rfl rfl) h2
  exact order_any zs k d A n c' W hg hs (reach_ints hsz (j := 0) rfl rfl Tryd.underlying22 (by kernel_rfl) hx)

set_option maxRecDepth 100000 in
theorem rankOrder_lifted (os : Os) (started : os.Started) (H : Type) (enc : TypeId × Value → H) :
    ReturnsInHanded {} Tryd.checked os 3 .any (fun w args => (Rows.rankOrderSpec.pre enc Tryd.prog Tryd.f3 [] false w args ∧ laidMetH Tryd.prog laidList w) ∧ sizedMet enc Tryd.prog Tryd.f3 (OpenSpec.ofChange Rows.rankOrderSpec) false w args)
      (Rows.rankOrderSpec.post enc Tryd.prog Tryd.f3 false true false false) :=
  door_lifted (n := 3) #[.slice none 0 0, .int .i64 0, .int .i64 0] 8 started (by kernel_rfl) Tryd.func3 (by kernel_rfl) (by kernel_rfl) (by kernel_rfl) (by kernel_rfl) (by kernel_rfl)
    rfl (by kernel_rfl) (by kernel_rfl) (by kernel_rfl) (fun ds h => by match ds, h with | [a, b, c], _ => rfl) rankOrder_walk

theorem RankOrder_row : Rows.RankOrderSaid :=
  OpenClaim.holds_of_wide 3 Tryd.f3 rfl rfl rfl rfl rfl rfl rfl ⟨rfl, rfl, rfl, rfl, rfl⟩ rfl rfl rfl rfl rfl (by kernel_rfl) Tryd.func3 (by kernel_rfl)
    (of_decide_eq_true (by kernel_rfl)) (by unfold Func.isWrapper; rw [if_neg (of_decide_eq_false (by kernel_rfl))]; exact ⟨rfl, rfl⟩)
    (fun os started H enc _ => rankOrder_lifted os started H enc)

theorem rankOrder_noStand : ∀ t ∈ Tryd.f3.params.toList, Tryd.prog.wantsStandIn t = false :=
  List.all_eq_true.1 (show Tryd.f3.params.toList.all (fun t => !Tryd.prog.wantsStandIn t) = true by kernel_rfl) |> fun h t ht => by simpa using h t ht

/-- The statement: the card. -/
theorem RankOrder_holds : Rows.RankOrderCardSaid :=
  Claim7.holds_tied_plain_at .later [] [.handle] true (true, "ab15b4ad66dd0eb8ff0af2bc4957a566a7b51571730ef51aafdca94f14045efb") true
    RankOrder_row (fun _ h => by cases h) (by kernel_rfl) (fun _ h => by cases h) rankOrder_row_tie rfl ⟨rfl, rfl⟩ (by kernel_rfl) rfl
    (fun f fn hf hfn => by
      obtain rfl : f = 3 := Option.some.inj ((show Tryd.prog.funcNamed "moneyer/moneyerlaw6.RankOrder" = some 3 by kernel_rfl).symm.trans hf) |>.symm
      obtain rfl : fn = Tryd.f3 := (Option.some.inj (Tryd.func3.symm.trans hfn)).symm
      exact ⟨by kernel_rfl, fun j t ht => rankOrder_noStand t (by
        have h2 : (Tryd.f3.params.toList)[j]? = some t := by simpa using ht
        exact List.mem_of_getElem? h2)⟩)
    (by kernel_rfl)
#print axioms RankOrder_holds
end Go.Proofs.YtelmllngcbihjaaDoor
