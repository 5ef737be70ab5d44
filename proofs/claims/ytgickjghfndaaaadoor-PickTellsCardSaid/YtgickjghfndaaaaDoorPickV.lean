/- The reference: Money, Total, PickFault, InOrder. Conditions: named in each theorem. -/
import Derived.Test.YtgickjghfndaaaaDoorPickB
namespace Go.Proofs.YtgickjghfndaaaaDoor
open Go.RowKit Go.ChangeShapes Go.WideShapes Go.ChangeAt
set_option maxRecDepth 100000 in
theorem rmoney_any (a : Int) (w : World) : Calls Tryd.prog 16 #[.int .i64 a] w (fun e w' => e = .returned (.bool (decide (moneyE a = 0))) ∧ w' = w) := by
  have hway : (0 ≤ a ∧ a ≤ 1125899906842624 ∧ decide (moneyE a = 0) = true) ∨ (a < 0 ∧ decide (moneyE a = 0) = false) ∨ (0 ≤ a ∧ 1125899906842624 < a ∧ decide (moneyE a = 0) = false) := by
    have h := @moneyE_zero a
    by_cases h0 : a < 0
    · exact .inr (.inl ⟨h0, decide_eq_false (fun e => by have := h.1 e; omega)⟩)
    · by_cases h1 : a ≤ 1125899906842624
      · exact .inl ⟨by omega, h1, decide_eq_true (h.2 ⟨by omega, h1⟩)⟩
      · exact .inr (.inr ⟨by omega, by omega, decide_eq_false (fun e => by have := h.1 e; omega)⟩)
  rcases hway with ⟨h, h', hd⟩ | ⟨h, hd⟩ | ⟨h, h', hd⟩
  all_goals rw [hd]
  all_goals clear hd
  all_goals go_enter Tryd.func16, Tryd.ntmps16
  all_goals go_wp2
  all_goals go_ret
  all_goals exact ⟨by first | rfl | (simp; omega) | simp, rfl⟩

set_option maxHeartbeats 2000000 in
set_option maxRecDepth 100000 in
theorem rtotal_any (ns : List Int) (A : Option Addr) (n c : Nat) (w : World) (h : ISl w w.heap.size A n ns) (hn : n ≤ 1000) (hg : ∀ x ∈ ns, moneyE x = 0) :
    Calls Tryd.prog 17 #[.slice A n c] w (fun e w' => e = .returned (if 1125899906842624 < totZ ns then .tuple #[.int .i64 0, .int .i64 4] else .tuple #[.int .i64 (totZ ns), .int .i64 0]) ∧ w' = w) := by
  have hlen := ISl.len h
  have h0 : ∀ x ∈ ns, 0 ≤ x := fun x hx => (moneyE_zero.1 (hg x hx)).1
  obtain ⟨V, hV⟩ : ∃ V, V = (if 1125899906842624 < totZ ns then Value.tuple #[.int .i64 0, .int .i64 4] else .tuple #[.int .i64 (totZ ns), .int .i64 0]) := ⟨_, rfl⟩
  rw [← hV]
  have HV := aside hV
  have HG := aside hg
  have HL := aside hlen
  have H0 := aside h0
  have H := aside h
  clear hV hg hlen h0 h
  go_enter Tryd.func17, Tryd.ntmps17
  go_wp2
  go_loopw [4, 5] (fun v4 v10 wr => ∃ i : Nat, i ≤ n ∧ v4 = .int .i64 (ns.take i).sum ∧ v10 = .int .i64 i ∧ wr = w ∧ Hid ((ns.take i).sum ≤ 1125899906842624)) (fun _ v10 _ => n - (Go.RowKit.intOf v10).toNat)
  case atStart => exact ⟨0, Nat.zero_le _, rfl, rfl, rfl, aside (by rw [List.take_zero]; decide)⟩
  case round =>
    obtain ⟨i, hi, rfl, rfl, hw, HB⟩ := hrel
    try subst hw
    have hb := HB.out
    have hst := sum_take H0.out i
    by_cases hin : i < n
    · obtain ⟨b, o, hAe, hbl, hc⟩ := ISl.at_ H.out hin
      have hx : nth ns i ∈ ns := nth_mem (by have := HL.out; omega)
      have hnx := sum_next (ns := ns) (k := i) (by have := HL.out; omega)
      have hm := moneyE_zero.1 (HG.out _ hx)
      have HMx := aside (HG.out _ hx)
      have HS1 := aside (sum_take H0.out (i + 1)).2
      have HNX := aside hnx
      obtain ⟨S, hS⟩ : ∃ S, S = (ns.take i).sum := ⟨_, rfl⟩
      rw [← hS] at hb hst HNX ⊢
      generalize nth ns i = x at hc hm HMx HNX
      subst hAe
      have i0 : (i : Int) < (n : Int) := by omega
      have hw1 : IntKind.i64.wrap (S + x) = S + x := by rw [IntKind.wrap_i64]; omega
      have HC := aside (rmoney_any x)
      rw [HMx.out, show decide ((0 : Int) = 0) = true from rfl] at HC
      by_cases hbig : 1125899906842624 < S + x
      · have HVe : Hid (V = .tuple #[.int .i64 0, .int .i64 4]) := aside (by rw [HV.out, if_pos (by have := HS1.out; have := HNX.out; unfold totZ; omega)])
        clear hS hb hst hm hx hnx hbl
        go_wp2_with (first | (go_at_call 16; refine (HC.out _).mono ?_; rintro e w' ⟨rfl, rfl⟩) | fail)
        (try simp only [Exit.inBlock, Exit.then])
        refine bodyPost_ret (v := .tuple #[.int .i64 0, .int .i64 4]) (by simp only [results, Tryd.results17]; go_simp) rfl ?_
        exact ⟨by rw [HVe.out] <;> rfl, rfl⟩
      · have hbg : (1125899906842624 < S + x) = False := eq_false hbig
        have HB2 : Hid ((ns.take (i + 1)).sum ≤ 1125899906842624) := aside (by rw [HNX.out]; omega)
        clear hS hb hst hm hx hnx hbl hbig
        go_wp2_with (first | (go_at_call 16; refine (HC.out _).mono ?_; rintro e w' ⟨rfl, rfl⟩) | fail)
        exact ⟨⟨i + 1, by omega, by rw [HNX.out], by go_num, by trivial, HB2⟩, by simp [Go.RowKit.intOf]; omega⟩
    · obtain rfl : n = i := by omega
      have HVe : Hid (V = .tuple #[.int .i64 (totZ ns), .int .i64 0]) := aside (by
        rw [HV.out, if_neg]
        unfold totZ
        have := HB.out
        rw [← HL.out, List.take_length] at this
        omega)
      have hT : Hid ((ns.take n).sum = totZ ns) := aside (by rw [← HL.out, List.take_length]; rfl)
      have i0 : ((n : Int) < (n : Int)) = False := by simp
      clear hb hst
      go_wp2
      (try simp only [Exit.inBlock, Exit.then])
      refine bodyPost_ret (v := .tuple #[.int .i64 (ns.take n).sum, .int .i64 0]) (by simp only [results, Tryd.results17]; go_simp) rfl ?_
      exact ⟨by rw [HVe.out, ← hT.out] <;> rfl, rfl⟩
set_option maxHeartbeats 2000000 in
set_option maxRecDepth 100000 in
theorem rfault_any (ns : List Int) (A : Option Addr) (n c : Nat) (want : Int) (w : World) (h : ISl w w.heap.size A n ns) :
    Calls Tryd.prog 5 #[.slice A n c, .int .i64 want] w (fun e w' => e = .returned (.int .i64 (pickQ ns want)) ∧ w' = w) := by
  have hlen := ISl.len h
  obtain ⟨Q, hQ⟩ : ∃ Q, Q = pickQ ns want := ⟨_, rfl⟩
  rw [← hQ]
  unfold pickQ at hQ
  rw [hlen] at hQ
  have HQ := aside hQ
  have HL := aside hlen
  have H := aside h
  clear hQ hlen h
  by_cases hbig : 30 < n
  · have hz : (30 : Int) < (n : Int) := by omega
    have HQq : Hid (Q = 4) := aside (HQ.out.trans (if_pos hbig))
    clear hbig
    go_enter Tryd.func5, Tryd.ntmps5
    go_wp2
    go_ret
    exact ⟨by rw [HQq.out] <;> rfl, rfl⟩
  · have hz : ((30 : Int) < (n : Int)) = False := by simp only [eq_iff_iff, iff_false]; omega
    have hn30 : n ≤ 30 := by omega
    have HQ1 := aside (HQ.out.trans (if_neg hbig))
    clear hbig HQ
    go_enter Tryd.func5, Tryd.ntmps5
    go_wp2
    clear hz
    go_loopw [5] (fun v17 wr => ∃ i : Nat, i ≤ n ∧ v17 = .int .i64 i ∧ wr = w ∧ Hid (∀ k, k < i → moneyE (nth ns k) = 0)) (fun v17 _ => n - (Go.RowKit.intOf v17).toNat)
    case atStart => exact ⟨0, Nat.zero_le _, rfl, rfl, aside (fun k hk => absurd hk (Nat.not_lt_zero k))⟩
    case round =>
      obtain ⟨i, hi, rfl, hw, HB⟩ := hrel
      try subst hw
      by_cases hin : i < n
      · obtain ⟨b, o, hAe, hbl, hc⟩ := ISl.at_ H.out hin
        have hx : nth ns i ∈ ns := nth_mem (by have := HL.out; omega)
        have HX := aside hx
        obtain ⟨x, hxe⟩ : ∃ x, x = nth ns i := ⟨_, rfl⟩
        rw [← hxe] at hc
        have HXE := aside hxe
        subst hAe
        have i0 : (i : Int) < (n : Int) := by omega
        by_cases hm : moneyE x = 0
        · have HC := aside (rmoney_any x)
          rw [hm, show decide ((0 : Int) = 0) = true from rfl] at HC
          have HB2 : Hid (∀ k, k < i + 1 → moneyE (nth ns k) = 0) := aside (fun k hk => by
            rcases Nat.lt_succ_iff_lt_or_eq.1 hk with h | rfl
            · exact HB.out k h
            · rw [← HXE.out]; exact hm)
          clear hx hxe hbl hm
          go_wp2_with (first | (go_at_call 16; refine (HC.out _).mono ?_; rintro e w' ⟨rfl, rfl⟩) | fail)
          exact ⟨⟨i + 1, by omega, by go_num, by trivial, HB2⟩, by simp [Go.RowKit.intOf]; omega⟩
        · have hm2 : moneyE x = 2 := by
            unfold moneyE at hm ⊢
            split
            · rfl
            · rename_i h1
              rw [if_neg h1] at hm
              exact absurd rfl hm
          have HC := aside (rmoney_any x)
          rw [hm2, show decide ((2 : Int) = 0) = false from rfl] at HC
          have HQq : Hid (Q = 2) := aside (HQ1.out.trans (if_pos ⟨x, by rw [HXE.out]; exact HX.out, hm⟩))
          clear hx hxe hbl hm hm2
          go_wp2_with (first | (go_at_call 16; refine (HC.out _).mono ?_; rintro e w' ⟨rfl, rfl⟩) | fail)
          go_ret
          exact ⟨by rw [HQq.out] <;> rfl, rfl⟩
      · obtain rfl : n = i := by omega
        have hall : ∀ x ∈ ns, moneyE x = 0 := fun x hx => by
          obtain ⟨k, hk, rfl⟩ := List.getElem_of_mem hx
          have := HB.out k (by have := HL.out; omega)
          rwa [nth_get hk] at this
        have HAll := aside hall
        have HQ2 := aside (HQ1.out.trans (if_neg (fun h => by obtain ⟨x, hx, hn⟩ := h; exact hn (hall x hx))))
        have i0 : ((n : Int) < (n : Int)) = False := by simp
        clear hall HQ1 HB
        by_cases hm : moneyE want = 0
        · have HQ3 := aside (HQ2.out.trans (if_neg (by simpa using hm)))
          have HC := aside (rmoney_any want)
          rw [hm, show decide ((0 : Int) = 0) = true from rfl] at HC
          have HS := rtotal_any ns A n c _ H.out (by omega) HAll.out
          clear hm
          by_cases ht : 1125899906842624 < totZ ns
          · rw [if_pos ht] at HS
            have HSm := aside HS
            have HQq : Hid (Q = 4) := aside (HQ3.out.trans (if_pos ht))
            clear HS ht
            go_wp2_with (first
              | (go_at_call 16; refine (HC.out _).mono ?_; rintro e w' ⟨rfl, rfl⟩)
              | (go_at_call 17; refine HSm.out.mono ?_; rintro e w' ⟨rfl, rfl⟩)
              | fail)
            go_ret
            exact ⟨by rw [HQq.out] <;> rfl, rfl⟩
          · rw [if_neg ht] at HS
            have HSm := aside HS
            have HQ4 := aside (HQ3.out.trans (if_neg ht))
            clear HS ht
            generalize totZ ns = T at HSm HQ4
            by_cases hl : T < want
            · have HQq : Hid (Q = 9) := aside (HQ4.out.trans (if_pos hl))
              go_wp2_with (first
                | (go_at_call 16; refine (HC.out _).mono ?_; rintro e w' ⟨rfl, rfl⟩)
                | (go_at_call 17; refine HSm.out.mono ?_; rintro e w' ⟨rfl, rfl⟩)
                | fail)
              go_ret
              exact ⟨by rw [HQq.out] <;> rfl, rfl⟩
            · have HQq : Hid (Q = 0) := aside (HQ4.out.trans (if_neg hl))
              have hl' : (T < want) = False := eq_false hl
              clear hl
              go_wp2_with (first
                | (go_at_call 16; refine (HC.out _).mono ?_; rintro e w' ⟨rfl, rfl⟩)
                | (go_at_call 17; refine HSm.out.mono ?_; rintro e w' ⟨rfl, rfl⟩)
                | fail)
              go_ret
              exact ⟨by rw [HQq.out] <;> rfl, rfl⟩
        · have hm2 : moneyE want = 2 := by
            unfold moneyE at hm ⊢
            split
            · rfl
            · rename_i h1
              rw [if_neg h1] at hm
              exact absurd rfl hm
          have HC := aside (rmoney_any want)
          rw [hm2, show decide ((2 : Int) = 0) = false from rfl] at HC
          have HQq : Hid (Q = 2) := aside (HQ2.out.trans (if_pos hm))
          clear hm hm2
          go_wp2_with (first | (go_at_call 16; refine (HC.out _).mono ?_; rintro e w' ⟨rfl, rfl⟩) | fail)
          go_ret
          exact ⟨by rw [HQq.out] <;> rfl, rfl⟩
set_option maxHeartbeats 4000000 in
set_option maxRecDepth 100000 in
theorem inorder_any (A : Option Addr) (n c : Nat) (hn : n ≤ 1000) (w : World) :
    Calls Tryd.prog 9 #[.slice A n c] w (fun e w' => ∃ A' c', e = .returned (.slice A' n c') ∧ OwnZ w' w.heap.size (.slice A' n c') n (rangeZ n) ∧ Below w.heap.size w w') := by
  have HO : Hid (OwnZ w w.heap.size (.slice none 0 0) 0 (rangeZ 0)) := aside (ownZ_nil _ _)
  have HB := aside (Below.refl w.heap.size w)
  go_enter Tryd.func9, Tryd.ntmps9
  go_wp2
  go_loopw [3, 4] (fun v3 v7 wr => ∃ (i : Nat) (A1 : Option Addr) (c1 : Nat), i ≤ n ∧ v7 = .int .i64 i ∧ v3 = .slice A1 i c1 ∧ Hid (OwnZ wr w.heap.size (.slice A1 i c1) i (rangeZ i)) ∧ Hid (Below w.heap.size w wr)) (fun _ v7 _ => n - (Go.RowKit.intOf v7).toNat)
  case atStart => exact ⟨0, none, 0, Nat.zero_le _, rfl, rfl, HO, HB⟩
  case round =>
    clear HO HB
    obtain ⟨i, A1, c1, hi, rfl, rfl, HO, HB⟩ := hrel
    by_cases hin : i < n
    · have i0 : (i : Int) < (n : Int) := by omega
      have hbz := HB.out.size
      go_wp2_with (first
        | (at_builtin; refine wpList_push rfl (.tmp 11) (.tmp 13) 22 rfl w.heap.size _ 1 8 Tryd.underlying22 infoZ rfl (by decide) (.slice A1 i c1) i _ rfl rfl rfl rfl HO.out (by omega) (by unfold maxLen; omega) hbz ?_; intro A3 c3 w3 hc3 hc3' hown3 hb3 hz3' hg3)
        | fail)
      have HO3 : Hid (OwnZ w3 w.heap.size (.slice A3 (i + 1) c3) (i + 1) (rangeZ (i + 1))) := aside (by rw [rangeZ_succ]; show w3.ownsRow _ _ _ _ _ _; rw [List.map_append]; exact hown3)
      have H3 := aside (HB.out.trans hb3)
      clear hown3 hb3 hg3
      exact ⟨⟨i + 1, A3, c3, by omega, by go_num, rfl, HO3, H3⟩, by simp [Go.RowKit.intOf]; omega⟩
    · obtain rfl : n = i := by omega
      have i0 : ((n : Int) < (n : Int)) = False := by simp
      go_wp2
      go_ret
      exact ⟨A1, c1, rfl, HO.out, HB.out⟩
end Go.Proofs.YtgickjghfndaaaaDoor
