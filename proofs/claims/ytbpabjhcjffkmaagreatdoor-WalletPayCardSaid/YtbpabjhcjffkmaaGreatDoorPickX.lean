/- The reference: Money, Total, PickFault, InOrder. Conditions: named in each theorem. The reference: Greatest. Conditions: named in each theorem. The reference: Till. Conditions: named in each theorem. -/
import Derived.Test.YtbpabjhcjffkmaaGreatDoorPickB
import Derived.Test.YtbpabjhcjffkmaaGreatDoorPickU
import Derived.Deep.OwnRows
import Derived.Deep.CutRange
import Derived.Deep.AppendLies
import Derived.ChangeSame
/- The reference: Money, Total, PickFault, InOrder. Conditions: named in each theorem. -/
namespace Go.Proofs.YtbpabjhcjffkmaaGreatDoor.Pk
open Go.RowKit Go.ChangeShapes Go.WideShapes Go.ChangeAt
set_option maxRecDepth 100000 in
theorem rmoney_any (a : Int) (w : World) : Calls Tryz.prog 12 #[.int .i64 a] w (fun e w' => e = .returned (.bool (decide (moneyE a = 0))) ∧ w' = w) := by
 have hway : (0 ≤ a ∧ a ≤ 1125899906842624 ∧ decide (moneyE a = 0) = true) ∨ (a < 0 ∧ decide (moneyE a = 0) = false) ∨ (0 ≤ a ∧ 1125899906842624 < a ∧ decide (moneyE a = 0) = false) := by
  have h := @moneyE_zero a
  by_cases h0 : a < 0
  ·exact .inr (.inl ⟨h0, decide_eq_false (fun e => by have := h.1 e; omega)⟩)
  ·by_cases h1 : a ≤ 1125899906842624
   ·exact .inl ⟨by omega, h1, decide_eq_true (h.2 ⟨by omega, h1⟩)⟩
   ·exact .inr (.inr ⟨by omega, by omega, decide_eq_false (fun e => by have := h.1 e; omega)⟩)
 rcases hway with ⟨h, h', hd⟩ | ⟨h, hd⟩ | ⟨h, h', hd⟩
 all_goals rw [hd]
 all_goals clear hd
 all_goals go_enter Tryz.func12, Tryz.ntmps12
 all_goals go_wp2
 all_goals go_ret
 all_goals exact ⟨by first | rfl | (simp; omega) | simp, rfl⟩
set_option maxHeartbeats 2000000 in
set_option maxRecDepth 100000 in
theorem rtotal_any (ns : List Int) (A : Option Addr) (n c : Nat) (w : World) (h : ISl w w.heap.size A n ns) (hn : n ≤ 1000) (hg : ∀ x ∈ ns, moneyE x = 0) :
  Calls Tryz.prog 14 #[.slice A n c] w (fun e w' => e = .returned (if 1125899906842624 < totZ ns then .tuple #[.int .i64 0, .int .i64 4] else .tuple #[.int .i64 (totZ ns), .int .i64 0]) ∧ w' = w) := by
 have hlen := ISl.len h
 have h0 : ∀ x ∈ ns, 0 ≤ x := fun x hx => (moneyE_zero.1 (hg x hx)).1
 obtain ⟨V, hV⟩ : ∃ V, V = (if 1125899906842624 < totZ ns then Value.tuple #[.int .i64 0, .int .i64 4] else .tuple #[.int .i64 (totZ ns), .int .i64 0]) := ⟨_, rfl⟩
 rw [← hV]
 have HV := aside hV
 have HG := aside hg
 have HL := aside hlen
 have H0 := aside h0
 have H := aside h
 clear hV hg hlen h0 h
 go_enter Tryz.func14, Tryz.ntmps14
 go_wp2
 go_loopw [4, 5] (fun v4 v10 wr => ∃ i : Nat, i ≤ n ∧ v4 = .int .i64 (ns.take i).sum ∧ v10 = .int .i64 i ∧ wr = w ∧ Hid ((ns.take i).sum ≤ 1125899906842624)) (fun _ v10 _ => n - (Go.RowKit.intOf v10).toNat)
 case atStart => exact ⟨0, Nat.zero_le _, rfl, rfl, rfl, aside (by rw [List.take_zero]; decide)⟩
 case round =>
  obtain ⟨i, hi, rfl, rfl, hw, HB⟩ := hrel
  try subst hw
  have hb := HB.out
  have hst := sum_take H0.out i
  by_cases hin : i < n
  ·obtain ⟨b, o, hAe, hbl, hc⟩ := ISl.at_ H.out hin
   have hx : nth ns i ∈ ns := nth_mem (by have := HL.out; omega)
   have hnx := sum_next (ns := ns) (k := i) (by have := HL.out; omega)
   have hm := moneyE_zero.1 (HG.out _ hx)
   have HMx := aside (HG.out _ hx)
   have HS1 := aside (sum_take H0.out (i + 1)).2
   have HNX := aside hnx
   obtain ⟨S, hS⟩ : ∃ S, S = (ns.take i).sum := ⟨_, rfl⟩
   rw [← hS] at hb hst HNX ⊢
   generalize nth ns i = x at hc hm HMx HNX
   subst hAe
   have i0 : (i : Int) < (n : Int) := by omega
   have hw1 : IntKind.i64.wrap (S + x) = S + x := by rw [IntKind.wrap_i64]; omega
   have HC := aside (rmoney_any x)
   rw [HMx.out, show decide ((0 : Int) = 0) = true from rfl] at HC
   by_cases hbig : 1125899906842624 < S + x
   ·have HVe : Hid (V = .tuple #[.int .i64 0, .int .i64 4]) := aside (by rw [HV.out, if_pos (by have := HS1.out; have := HNX.out; unfold totZ; omega)])
    clear hS hb hst hm hx hnx hbl
    go_wp2_with (first | (go_at_call 12; refine (HC.out _).mono ?_; rintro e w' ⟨rfl, rfl⟩) | fail)
    (try simp only [Exit.inBlock, Exit.then])
    refine bodyPost_ret (v := .tuple #[.int .i64 0, .int .i64 4]) (by simp only [results, Tryz.results14]; go_simp) rfl ?_
    exact ⟨by rw [HVe.out] <;> rfl, rfl⟩
   ·have hbg : (1125899906842624 < S + x) = False := eq_false hbig
    have HB2 : Hid ((ns.take (i + 1)).sum ≤ 1125899906842624) := aside (by rw [HNX.out]; omega)
    clear hS hb hst hm hx hnx hbl hbig
    go_wp2_with (first | (go_at_call 12; refine (HC.out _).mono ?_; rintro e w' ⟨rfl, rfl⟩) | fail)
    exact ⟨⟨i + 1, by omega, by rw [HNX.out], by go_num, by trivial, HB2⟩, by simp [Go.RowKit.intOf]; omega⟩
  ·obtain rfl : n = i := by omega
   have HVe : Hid (V = .tuple #[.int .i64 (totZ ns), .int .i64 0]) := aside (by
    rw [HV.out, if_neg]
    unfold totZ
    have := HB.out
    rw [← HL.out, List.take_length] at this
    omega)
   have hT : Hid ((ns.take n).sum = totZ ns) := aside (by rw [← HL.out, List.take_length]; rfl)
   have i0 : ((n : Int) < (n : Int)) = False := by simp
   clear hb hst
   go_wp2
   (try simp only [Exit.inBlock, Exit.then])
   refine bodyPost_ret (v := .tuple #[.int .i64 (ns.take n).sum, .int .i64 0]) (by simp only [results, Tryz.results14]; go_simp) rfl ?_
   exact ⟨by rw [HVe.out, ← hT.out] <;> rfl, rfl⟩
set_option maxHeartbeats 2000000 in
set_option maxRecDepth 100000 in
theorem rfault_any (ns : List Int) (A : Option Addr) (n c : Nat) (want : Int) (w : World) (h : ISl w w.heap.size A n ns) :
  Calls Tryz.prog 17 #[.slice A n c, .int .i64 want] w (fun e w' => e = .returned (.int .i64 (pickQ ns want)) ∧ w' = w) := by
 have hlen := ISl.len h
 obtain ⟨Q, hQ⟩ : ∃ Q, Q = pickQ ns want := ⟨_, rfl⟩
 rw [← hQ]
 unfold pickQ at hQ
 rw [hlen] at hQ
 have HQ := aside hQ
 have HL := aside hlen
 have H := aside h
 clear hQ hlen h
 by_cases hbig : 30 < n
 ·have hz : (30 : Int) < (n : Int) := by omega
  have HQq : Hid (Q = 4) := aside (HQ.out.trans (if_pos hbig))
  clear hbig
  go_enter Tryz.func17, Tryz.ntmps17
  go_wp2
  go_ret
  exact ⟨by rw [HQq.out] <;> rfl, rfl⟩
 ·have hz : ((30 : Int) < (n : Int)) = False := by simp only [eq_iff_iff, iff_false]; omega
  have hn30 : n ≤ 30 := by omega
  have HQ1 := aside (HQ.out.trans (if_neg hbig))
  clear hbig HQ
  go_enter Tryz.func17, Tryz.ntmps17
  go_wp2
  clear hz
  go_loopw [5] (fun v17 wr => ∃ i : Nat, i ≤ n ∧ v17 = .int .i64 i ∧ wr = w ∧ Hid (∀ k, k < i → moneyE (nth ns k) = 0)) (fun v17 _ => n - (Go.RowKit.intOf v17).toNat)
  case atStart => exact ⟨0, Nat.zero_le _, rfl, rfl, aside (fun k hk => absurd hk (Nat.not_lt_zero k))⟩
  case round =>
   obtain ⟨i, hi, rfl, hw, HB⟩ := hrel
   try subst hw
   by_cases hin : i < n
   ·obtain ⟨b, o, hAe, hbl, hc⟩ := ISl.at_ H.out hin
    have hx : nth ns i ∈ ns := nth_mem (by have := HL.out; omega)
    have HX := aside hx
    obtain ⟨x, hxe⟩ : ∃ x, x = nth ns i := ⟨_, rfl⟩
    rw [← hxe] at hc
    have HXE := aside hxe
    subst hAe
    have i0 : (i : Int) < (n : Int) := by omega
    by_cases hm : moneyE x = 0
    ·have HC := aside (rmoney_any x)
     rw [hm, show decide ((0 : Int) = 0) = true from rfl] at HC
     have HB2 : Hid (∀ k, k < i + 1 → moneyE (nth ns k) = 0) := aside (fun k hk => by
      rcases Nat.lt_succ_iff_lt_or_eq.1 hk with h | rfl
      ·exact HB.out k h
      ·rw [← HXE.out]; exact hm)
     clear hx hxe hbl hm
     go_wp2_with (first | (go_at_call 12; refine (HC.out _).mono ?_; rintro e w' ⟨rfl, rfl⟩) | fail)
     exact ⟨⟨i + 1, by omega, by go_num, by trivial, HB2⟩, by simp [Go.RowKit.intOf]; omega⟩
    ·have hm2 : moneyE x = 2 := by
      unfold moneyE at hm ⊢
      split
      ·rfl
      ·rename_i h1
       rw [if_neg h1] at hm
       exact absurd rfl hm
     have HC := aside (rmoney_any x)
     rw [hm2, show decide ((2 : Int) = 0) = false from rfl] at HC
     have HQq : Hid (Q = 2) := aside (HQ1.out.trans (if_pos ⟨x, by rw [HXE.out]; exact HX.out, hm⟩))
     clear hx hxe hbl hm hm2
     go_wp2_with (first | (go_at_call 12; refine (HC.out _).mono ?_; rintro e w' ⟨rfl, rfl⟩) | fail)
     go_ret
     exact ⟨by rw [HQq.out] <;> rfl, rfl⟩
   ·obtain rfl : n = i := by omega
    have hall : ∀ x ∈ ns, moneyE x = 0 := fun x hx => by
     obtain ⟨k, hk, rfl⟩ := List.getElem_of_mem hx
     have := HB.out k (by have := HL.out; omega)
     rwa [nth_get hk] at this
    have HAll := aside hall
    have HQ2 := aside (HQ1.out.trans (if_neg (fun h => by obtain ⟨x, hx, hn⟩ := h; exact hn (hall x hx))))
    have i0 : ((n : Int) < (n : Int)) = False := by simp
    clear hall HQ1 HB
    by_cases hm : moneyE want = 0
    ·have HQ3 := aside (HQ2.out.trans (if_neg (by simpa using hm)))
     have HC := aside (rmoney_any want)
     rw [hm, show decide ((0 : Int) = 0) = true from rfl] at HC
     have HS := rtotal_any ns A n c _ H.out (by omega) HAll.out
     clear hm
     by_cases ht : 1125899906842624 < totZ ns
     ·rw [if_pos ht] at HS
      have HSm := aside HS
      have HQq : Hid (Q = 4) := aside (HQ3.out.trans (if_pos ht))
      clear HS ht
      go_wp2_with (first
       | (go_at_call 12; refine (HC.out _).mono ?_; rintro e w' ⟨rfl, rfl⟩)
       | (go_at_call 14; refine HSm.out.mono ?_; rintro e w' ⟨rfl, rfl⟩)
       | fail)
      go_ret
      exact ⟨by rw [HQq.out] <;> rfl, rfl⟩
     ·rw [if_neg ht] at HS
      have HSm := aside HS
      have HQ4 := aside (HQ3.out.trans (if_neg ht))
      clear HS ht
      generalize totZ ns = T at HSm HQ4
      by_cases hl : T < want
      ·have HQq : Hid (Q = 9) := aside (HQ4.out.trans (if_pos hl))
       go_wp2_with (first
        | (go_at_call 12; refine (HC.out _).mono ?_; rintro e w' ⟨rfl, rfl⟩)
        | (go_at_call 14; refine HSm.out.mono ?_; rintro e w' ⟨rfl, rfl⟩)
        | fail)
       go_ret
       exact ⟨by rw [HQq.out] <;> rfl, rfl⟩
      ·have HQq : Hid (Q = 0) := aside (HQ4.out.trans (if_neg hl))
       have hl' : (T < want) = False := eq_false hl
       clear hl
       go_wp2_with (first
        | (go_at_call 12; refine (HC.out _).mono ?_; rintro e w' ⟨rfl, rfl⟩)
        | (go_at_call 14; refine HSm.out.mono ?_; rintro e w' ⟨rfl, rfl⟩)
        | fail)
       go_ret
       exact ⟨by rw [HQq.out] <;> rfl, rfl⟩
    ·have hm2 : moneyE want = 2 := by
      unfold moneyE at hm ⊢
      split
      ·rfl
      ·rename_i h1
       rw [if_neg h1] at hm
       exact absurd rfl hm
     have HC := aside (rmoney_any want)
     rw [hm2, show decide ((2 : Int) = 0) = false from rfl] at HC
     have HQq : Hid (Q = 2) := aside (HQ2.out.trans (if_pos hm))
     clear hm hm2
     go_wp2_with (first | (go_at_call 12; refine (HC.out _).mono ?_; rintro e w' ⟨rfl, rfl⟩) | fail)
     go_ret
     exact ⟨by rw [HQq.out] <;> rfl, rfl⟩
end Go.Proofs.YtbpabjhcjffkmaaGreatDoor.Pk

/- The reference: Greatest. Conditions: named in each theorem. -/
namespace Go.Proofs.YtbpabjhcjffkmaaGreatDoor.Pk
open Go.RowKit Go.ChangeShapes Go.WideShapes Go.ChangeAt

set_option maxHeartbeats 20000000 in
set_option maxRecDepth 100000 in
theorem greatest_any (ns : List Int) (A : Option Addr) (n c : Nat) (hn : n ≤ 30) (w : World) (h : ISl w w.heap.size A n ns) (o : List Int) (hp : o.Perm (rangeZ n)) (hs : o.Pairwise (LtG (atZ ns))) :
  Calls Tryz.prog 19 #[.slice A n c] w (fun e w' => ∃ A' c', e = .returned (.slice A' n c') ∧ OwnZ w' w.heap.size (.slice A' n c') n o ∧ Below w.heap.size w w') := by
 have HP := aside hp
 have HS := aside hs
 have H := aside h
 have HLo : Hid (o.length = n) := aside (by rw [hp.length_eq, rangeZ_len])
 have HO : Hid (OwnZ w w.heap.size (.slice none 0 0) 0 (o.take 0)) := aside (ownZ_nil _ _)
 have HB := aside (Below.refl w.heap.size w)
 clear hp hs h
 go_enter Tryz.func19, Tryz.ntmps19
 go_wp2
 go_loopw [3, 4] (fun v3 v4 wr => ∃ (k : Nat) (A1 : Option Addr) (c1 : Nat), k ≤ n ∧ v4 = .int .i64 k ∧ v3 = .slice A1 k c1 ∧ Hid (OwnZ wr w.heap.size (.slice A1 k c1) k (o.take k)) ∧ Hid (Below w.heap.size w wr)) (fun _ v4 _ => n - (Go.RowKit.intOf v4).toNat)
 case atStart => exact ⟨0, none, 0, Nat.zero_le _, rfl, rfl, HO, HB⟩
 case round =>
  clear HO HB
  obtain ⟨k, A1, c1, hk, rfl, rfl, HO, HB⟩ := hrel
  by_cases hkn : k < n
  ·have k0 : (k : Int) < (n : Int) := by omega
   have HLk : Hid ((o.take k).length = k) := aside (by rw [List.length_take]; have := HLo.out; omega)
   have HO0 : Hid (OwnZ wr w.heap.size (.slice A1 (roundZ o k 0).length c1) (roundZ o k 0).length (roundZ o k 0)) := aside (by rw [round_start HP.out hkn, HLk.out]; exact HO.out)
   have HL0 : Hid ((roundZ o k 0).length = k) := aside (by rw [round_start HP.out hkn, HLk.out])
   have hl0 : (roundZ o k 0).length ≤ k + 1 := by rw [HL0.out]; omega
   have hv3 : Value.slice A1 k c1 = .slice A1 (roundZ o k 0).length c1 := by rw [HL0.out]
   go_wp2_with fail
   go_loopw [3, 5] (fun v3 v5 wx => ∃ (i : Nat) (L : List Int) (A2 : Option Addr) (c2 : Nat), i ≤ n ∧ v5 = .int .i64 i ∧ v3 = .slice A2 L.length c2 ∧ L.length ≤ k + 1 ∧ Hid (L = roundZ o k i) ∧ Hid (OwnZ wx w.heap.size (.slice A2 L.length c2) L.length L) ∧ Hid (Below w.heap.size w wx)) (fun _ v5 _ => n - (Go.RowKit.intOf v5).toNat)
   case atStart => exact ⟨0, roundZ o k 0, A1, c1, Nat.zero_le _, rfl, hv3, hl0, aside rfl, HO0, HB⟩
   case round =>
    clear HO HB HLk HO0 HL0 hl0 hv3
    obtain ⟨i, L, A2, c2, hi, rfl, rfl, hll, HL, HO, HB⟩ := hrel
    by_cases hin : i < n
    ·have i0 : (i : Int) < (n : Int) := by omega
     go_wp2_with fail
     go_loopw [6, 7] (fun v6 v7 wz => ∃ (j q a : Nat), j ≤ n ∧ v7 = .int .i64 j ∧ v6 = .int .i64 a ∧ a ≤ j ∧ wz = wr.drewN q ∧ Hid (a = aheadZ (atZ ns) i j)) (fun _ v7 _ => n - (Go.RowKit.intOf v7).toNat)
     case atStart => exact ⟨0, 0, 0, Nat.zero_le _, rfl, rfl, Nat.le_refl _, rfl, aside rfl⟩
     case round =>
      obtain ⟨j, q, a, hj, rfl, rfl, haj, hw, HA⟩ := hrel
      subst hw
      by_cases hjn : j < n
      ·have j0 : (j : Int) < (n : Int) := by omega
       obtain ⟨b, of, hAe, hbl, ci⟩ := ISl.at_ (isl_below H.out HB.out) hin
       obtain ⟨b', of', hAe', hbl', cj⟩ := ISl.at_ (isl_below H.out HB.out) hjn
       rw [hAe] at hAe'
       injection hAe' with e
       injection e with e1 e2
       subst e1 e2
       have hlt : LtG (atZ ns) (j : Int) (i : Int) ↔ (nth ns i < nth ns j ∨ (nth ns j = nth ns i ∧ j < i)) := by
        unfold LtG atZ
        rw [Int.toNat_natCast, Int.toNat_natCast]
        omega
       have hst := ahead_succ (atZ ns) (i : Int) j
       rw [← HA.out] at hst
       have HYe : Hid ((nth ns i < nth ns j ∨ (nth ns j = nth ns i ∧ j < i)) → a + 1 = aheadZ (atZ ns) i (j + 1)) := aside (fun hh => by rw [hst, if_pos (hlt.2 hh)])
       have HNo : Hid (¬ (nth ns i < nth ns j ∨ (nth ns j = nth ns i ∧ j < i)) → a = aheadZ (atZ ns) i (j + 1)) := aside (fun hh => by rw [hst, if_neg (fun hx => hh (hlt.1 hx))]; rfl)
       generalize nth ns i = x at ci HYe HNo
       generalize nth ns j = y at cj HYe HNo
       subst hAe
       clear hlt hst hbl hbl' HA
       by_cases h1 : x < y
       ·have HY := aside (HYe.out (.inl h1))
        clear HYe HNo
        go_wp2_with fail
        go_quiet (fail)
        go_wp2
        exact ⟨⟨j + 1, _, a + 1, by omega, by go_num, by go_num, by omega, rfl, HY⟩, by simp [Go.RowKit.intOf]; omega⟩
       ·by_cases h2 : y = x
        ·subst h2
         have hee : (y == y) = true := by simp
         by_cases h3 : j < i
         ·have h3z : (j : Int) < (i : Int) := by omega
          have HY := aside (HYe.out (.inr ⟨rfl, h3⟩))
          clear HYe HNo
          go_wp2_with fail
          go_quiet (fail)
          go_wp2
          exact ⟨⟨j + 1, _, a + 1, by omega, by go_num, by go_num, by omega, rfl, HY⟩, by simp [Go.RowKit.intOf]; omega⟩
         ·have h3z : ((j : Int) < (i : Int)) = False := by simp only [eq_iff_iff, iff_false]; omega
          have HY := aside (HNo.out (by omega))
          clear HYe HNo
          go_wp2_with fail
          go_quiet (fail)
          go_wp2
          exact ⟨⟨j + 1, _, a, by omega, by go_num, rfl, by omega, rfl, HY⟩, by simp [Go.RowKit.intOf]; omega⟩
        ·have hee : (y == x) = false := by simp [h2]
         have h1z : (x < y) = False := eq_false h1
         have HY := aside (HNo.out (by omega))
         clear HYe HNo h1
         go_wp2_with fail
         go_quiet (fail)
         go_wp2
         exact ⟨⟨j + 1, _, a, by omega, by go_num, rfl, by omega, rfl, HY⟩, by simp [Go.RowKit.intOf]; omega⟩
      ·obtain rfl : n = j := by omega
       have j0 : ((n : Int) < (n : Int)) = False := by simp
       have HB2 : Hid (Below w.heap.size w (wr.drewN q)) := aside (below_drawn HB.out _)
       have HO2 : Hid (OwnZ (wr.drewN q) w.heap.size (.slice A2 L.length c2) L.length L) := aside (own_below HO.out (below_drawn (Below.refl _ _) _))
       have hbz := HB2.out.size
       have hrk := rank_iff HP.out HS.out hkn hin
       rw [← HA.out] at hrk
       generalize wr.drewN q = w2 at HB2 HO2 hbz
       clear HB HO HA
       by_cases hak : a = k
       ·have hee : ((a : Int) == (k : Int)) = true := by simp [hak]
        have HL2 : Hid (L ++ [(i : Int)] = roundZ o k (i + 1)) := aside (by rw [round_yes (hrk.1 hak), HL.out])
        have hle : (L ++ [(i : Int)]).length ≤ k + 1 := by rw [HL2.out]; exact round_len _ _ _
        have hll2 : (L ++ [(i : Int)]).length = L.length + 1 := by simp
        clear hrk hak
        go_wp2_with (first
         | (at_builtin; refine wpList_push rfl (.tmp 56) (.tmp 58) 50 rfl w.heap.size _ 1 8 Tryz.underlying50 infoZ rfl (by decide) (.slice A2 L.length c2) L.length _ rfl rfl rfl rfl HO2.out (by omega) (by unfold maxLen; omega) hbz ?_; intro A3 c3 w3 hc3 hc3' hown3 hb3 hz3' hg3)
         | fail)
        have HO3 : Hid (OwnZ w3 w.heap.size (.slice A3 (L.length + 1) c3) (L.length + 1) (L ++ [(i : Int)])) := aside (by show w3.ownsRow _ _ _ _ _ _; rw [List.map_append]; exact hown3)
        have H3 := aside (HB2.out.trans hb3)
        clear hown3 hb3 hg3
        exact ⟨⟨i + 1, L ++ [(i : Int)], A3, c3, by omega, by go_num, by rw [hll2], hle, HL2, by rw [hll2]; exact HO3, H3⟩, by simp [Go.RowKit.intOf]; omega⟩
       ·have hee : ((a : Int) == (k : Int)) = false := by simp; omega
        have HL2 : Hid (L = roundZ o k (i + 1)) := aside (by rw [round_no (fun e => hak (hrk.2 e)), HL.out])
        clear hrk hak
        go_wp2
        exact ⟨⟨i + 1, L, A2, c2, by omega, by go_num, rfl, hll, HL2, HO2, HB2⟩, by simp [Go.RowKit.intOf]; omega⟩
    ·obtain rfl : n = i := by omega
     have i0 : ((n : Int) < (n : Int)) = False := by simp
     have hLk : L = o.take (k + 1) := by rw [HL.out, round_done HP.out hkn]
     have hLl : L.length = k + 1 := by rw [hLk, List.length_take]; have := HLo.out; omega
     have HO2 : Hid (OwnZ wr w.heap.size (.slice A2 (k + 1) c2) (k + 1) (o.take (k + 1))) := aside (by have := HO.out; rw [hLl, hLk] at this; exact this)
     have hv : Value.slice A2 L.length c2 = .slice A2 (k + 1) c2 := by rw [hLl]
     clear HL HO hLk hLl hin
     go_wp2
     exact ⟨⟨k + 1, A2, c2, by omega, by go_num, hv, HO2, HB⟩, by simp [Go.RowKit.intOf]; omega⟩
  ·obtain rfl : n = k := by omega
   have i0 : ((n : Int) < (n : Int)) = False := by simp
   have HO2 : Hid (OwnZ wr w.heap.size (.slice A1 n c1) n o) := aside (by
    have h := HO.out
    rwa [show o.take n = o by rw [← HLo.out, List.take_length]] at h)
   clear HO hkn
   go_wp2
   go_ret
   exact ⟨A1, c1, rfl, HO2.out, HB.out⟩
end Go.Proofs.YtbpabjhcjffkmaaGreatDoor.Pk

/- The reference: Till. Conditions: named in each theorem. -/
namespace Go.Proofs.YtbpabjhcjffkmaaGreatDoor.Pk
open Go.RowKit Go.ChangeShapes Go.WideShapes Go.ChangeAt

/-- Which of so many places are chosen. -/
def marks (n : Nat) (T : List Int) : List Bool := (rangeZ n).map (fun x => decide (x ∈ T))
theorem marks_len (n : Nat) (T : List Int) : (marks n T).length = n := by unfold marks; rw [List.length_map, rangeZ_len]
theorem range_at {n k : Nat} (h : k < n) : (rangeZ n)[k]? = some (k : Int) := by
 unfold rangeZ
 rw [List.getElem?_map, List.getElem?_range h]
 rfl
theorem marks_at {n k : Nat} (T : List Int) (h : k < n) : (marks n T)[k]? = some (decide ((k : Int) ∈ T)) := by
 unfold marks
 rw [List.getElem?_map, range_at h]
 rfl
theorem marks_nil (n : Nat) : marks n [] = List.replicate n false := by
 refine List.eq_replicate_iff.2 ⟨marks_len n [], fun b hb => ?_⟩
 unfold marks at hb
 obtain ⟨x, _, rfl⟩ := List.mem_map.1 hb
 simp
theorem marks_set {n k : Nat} (T : List Int) (h : k < n) : (marks n T).set k true = marks n (T ++ [(k : Int)]) := by
 refine List.ext_getElem? fun j => ?_
 by_cases hj : j < n
 ·rw [marks_at _ hj, List.getElem?_set, marks_len]
  by_cases hkj : k = j
  ·subst hkj
   rw [if_pos rfl, if_pos h]
   simp
  ·rw [if_neg hkj, marks_at _ hj]
   have : ((j : Int) ∈ T ++ [(k : Int)]) ↔ ((j : Int) ∈ T) := by
    rw [List.mem_append]
    simp
    intro e
    omega
   simp only [this]
 ·rw [List.getElem?_eq_none (by rw [List.length_set, marks_len]; omega), List.getElem?_eq_none (by rw [marks_len]; omega)]
theorem madeB (n : Nat) : madeCells #[Value.bool false] n = ((marks n []).map Value.bool).toArray := by
 rw [marks_nil]
 refine Array.ext (by simp [size_madeCells]) fun i h1 h2 => ?_
 simp [madeCells, Nat.mod_one]
theorem infoB : (Tryz.prog.info? 4).map (fun i => (i.zero, i.size, i.bytes)) = some (some (.bool false), 1, 1) := by kernel_rfl
/-- A row of marks, all at once. -/
def Mk (w : World) (g n : Nat) (T : List Int) : Prop := w.heap[g]? = some (.cells ((marks n T).map Value.bool).toArray 4 (0, 0))
theorem Mk.lt {w : World} {g n : Nat} {T : List Int} (h : Mk w g n T) : g < w.heap.size := (Array.getElem?_eq_some_iff.1 h).1
theorem Mk.cell {w : World} {g n : Nat} {T : List Int} (h : Mk w g n T) {k : Nat} (hk : k < n) : w.cell? ⟨g, k, none⟩ = some (.bool (decide ((k : Int) ∈ T))) := by
 unfold Mk at h
 have h2 : ((marks n T).map Value.bool)[k]? = some (.bool (decide ((k : Int) ∈ T))) := by rw [List.getElem?_map, marks_at T hk]; rfl
 simp only [World.cell?, h]
 simpa using h2
theorem Mk.fz {w : World} {g n : Nat} {T : List Int} (h : Mk w g n T) (o : Nat) : w.frozen? ⟨g, o, none⟩ = false := by
 unfold Mk at h
 simp [World.frozen?, h]
theorem Mk.set {w : World} {g n : Nat} {T : List Int} (h : Mk w g n T) {k : Nat} (hk : k < n) : Mk (w.setCell ⟨g, k, none⟩ (.bool true)) g n (T ++ [(k : Int)]) := by
 unfold Mk at *
 rw [heap_setCell_same w g k _ 4 _ h, ← marks_set T hk]
 simp only [List.setIfInBounds_toArray, List.map_set]
theorem Mk.below {w w' : World} {g n N : Nat} {T : List Int} (h : Mk w g n T) (hb : Below N w w') (hN : g < N) : Mk w' g n T := (hb.block g hN).trans h
/-- The marked ones, of the first so many. -/
def markL (T : List Int) (i : Nat) : List Int := (rangeZ i).filter (fun x => decide (x ∈ T))
theorem markL_yes {T : List Int} {i : Nat} (h : (i : Int) ∈ T) : markL T (i + 1) = markL T i ++ [(i : Int)] := by
 unfold markL
 rw [rangeZ_succ, List.filter_append, List.filter_cons_of_pos (by simpa using h)]
 rfl
theorem markL_no {T : List Int} {i : Nat} (h : (i : Int) ∉ T) : markL T (i + 1) = markL T i := by
 unfold markL
 rw [rangeZ_succ, List.filter_append, List.filter_cons_of_neg (by simpa using h)]
 simp
set_option maxHeartbeats 20000000 in
set_option maxRecDepth 100000 in
theorem rtill_any (ns : List Int) (A : Option Addr) (n c : Nat) (want : Int) (o : List Int) (O : Option Addr) (m c2 : Nat) (hn : n ≤ 1000) (hm : m ≤ 1000) (hns : ∀ x ∈ ns, 0 ≤ x ∧ x ≤ 1125899906842624) (hw : 0 ≤ want ∧ want ≤ 1125899906842624) (hok : ∀ x ∈ o, OkZ n x) (hd : o.Nodup) (w : World) (h : ISl w w.heap.size A n ns) (ho : ISl w w.heap.size O m o) :
  Calls Tryz.prog 18 #[.slice A n c, .int .i64 want, .slice O m c2] w (fun e w' => ∃ A' c' p, e = .returned (.slice A' p.length c') ∧ ISl w' w'.heap.size A' p.length p ∧ p = (takeT (atZ ns) want o).mergeSort (fun x y => decide (x ≤ y)) ∧ Below w.heap.size w w') := by
 have hlo := ISl.len ho
 have hln := ISl.len h
 have HLo := aside hlo
 have HLn := aside hln
 have H := aside h
 have HOo := aside ho
 have HNs := aside hns
 have HOk := aside hok
 have HD := aside hd
 have hmk0 := run_make_row' (P := Tryz.prog) 89 4 (.bool false) 1 Tryz.underlying89 infoB rfl .i64 .i64 n (by omega) (by omega)
 rw [madeB] at hmk0
 have hmk := hmk0
 clear hmk0
 have HM0 : Hid (Mk (w.alloc (.cells ((marks n []).map Value.bool).toArray 4)) w.heap.size n []) := aside (MapKept.heap_alloc w _).1
 have HB0 : Hid (Below w.heap.size w (w.alloc (.cells ((marks n []).map Value.bool).toArray 4))) := aside ((Below.refl _ _).alloc (Nat.le_refl _) _)
 have HZ0 : Hid (w.heap.size + 1 ≤ (w.alloc (.cells ((marks n []).map Value.bool).toArray 4)).heap.size) := aside (by simp)
 have HT : Hid (takeT (atZ ns) want o = o.take 0 ++ takeT (atZ ns) want (o.drop 0)) := aside (by simp)
 have hwb : -1125899906842624 ≤ want ∧ want ≤ 1125899906842624 := by omega
 clear h ho hlo hln hns hok hw hd
 go_enter Tryz.func18, Tryz.ntmps18
 go_wp2_with fail
 generalize (w.alloc (.cells ((marks n []).map Value.bool).toArray 4)) = w1 at HM0 HB0 HZ0 ⊢
 go_loopw [1, 8] (fun v1 v8 wr => ∃ (j : Nat) (wi : Int), j ≤ m ∧ v8 = .int .i64 j ∧ v1 = .int .i64 wi ∧ -1125899906842624 ≤ wi ∧ wi ≤ 1125899906842624 ∧ Hid (Mk wr w.heap.size n (o.take j)) ∧ Hid (Below w.heap.size w wr) ∧ Hid (takeT (atZ ns) want o = o.take j ++ takeT (atZ ns) wi (o.drop j)) ∧ Hid (w.heap.size + 1 ≤ wr.heap.size)) (fun _ v8 _ => m - (Go.RowKit.intOf v8).toNat)
 case atStart => exact ⟨0, want, Nat.zero_le _, rfl, rfl, hwb.1, hwb.2, HM0, HB0, HT, HZ0⟩
 case round =>
  clear HM0 HB0 HZ0 HT hwb hmk
  obtain ⟨j, wi, hj, rfl, rfl, hw1, hw2, HM, HB, HT, HZ⟩ := hrel
  obtain ⟨go, hgo⟩ : ∃ go, go = decide (j < m ∧ 0 < wi) := ⟨_, rfl⟩
  go_upto_region 3 with fail
  go_cut [21] from 14 to 21 (fun v21 wx => v21 = .bool go ∧ wx = wr)
  case first =>
   by_cases hjm : j < m
   ·have j0 : (j : Int) < (m : Int) := by omega
    by_cases hwz : 0 < wi
    ·have hg : go = true := by rw [hgo]; exact decide_eq_true ⟨hjm, hwz⟩
     go_wp2_with fail
     go_meet
     exact ⟨by rw [hg] <;> simp [hwz], rfl⟩
    ·have hg : go = false := by rw [hgo]; exact decide_eq_false (fun hh => hwz hh.2)
     have hwz2 : wi ≤ 0 := by omega
     go_wp2_with fail
     go_meet
     exact ⟨by rw [hg] <;> simp [hwz2], rfl⟩
   ·have j0 : ((j : Int) < (m : Int)) = False := by simp only [eq_iff_iff, iff_false]; omega
    have hg : go = false := by rw [hgo]; exact decide_eq_false (fun hh => hjm hh.1)
    go_wp2_with fail
    go_meet
    exact ⟨by rw [hg] <;> simp, rfl⟩
  case rest =>
  obtain ⟨rfl, rfl⟩ := hcut
  cases go with
  | true =>
   obtain ⟨hjm, hwz⟩ := of_decide_eq_true hgo.symm
   have j0 : (j : Int) < (m : Int) := by omega
   obtain ⟨b, of, hOe, hbl, cO⟩ := ISl.at_ (isl_below HOo.out HB.out) hjm
   have hx : nth o j ∈ o := nth_mem (by have := HLo.out; omega)
   have hxk := HOk.out _ hx
   obtain ⟨xi, hxi⟩ : ∃ k : Nat, nth o j = (k : Int) := ⟨(nth o j).toNat, by have := hxk.1; omega⟩
   rw [hxi] at cO hxk
   have hxn : xi < n := by have := hxk.2; omega
   have hxz : (xi : Int) < (n : Int) := by omega
   obtain ⟨b', of', hAe, hbl', cA⟩ := ISl.at_ (isl_below H.out HB.out) hxn
   have hv := HNs.out _ (nth_mem (zs := ns) (k := xi) (by have := HLn.out; omega))
   have hAt : atZ ns (nth o j) = nth ns xi := by rw [hxi]; unfold atZ; rw [Int.toNat_natCast]
   have HTn := aside (takeT_step HT.out (by have := HLo.out; omega) (by omega))
   rw [hAt] at HTn
   have hwr : IntKind.i64.wrap (wi - nth ns xi) = wi - nth ns xi := by rw [IntKind.wrap_i64]; omega
   have hvv : -1125899906842624 ≤ wi - nth ns xi ∧ wi - nth ns xi ≤ 1125899906842624 := by omega
   have HVV := aside hvv
   have hmc := HM.out.cell hxn
   have hmf := HM.out.fz xi
   have HMn : Hid (Mk (wc.setCell ⟨w.heap.size, xi, none⟩ (.bool true)) w.heap.size n (o.take (j + 1))) := aside (by
    have h := HM.out.set hxn
    rwa [← hxi, show o.take j ++ [nth o j] = o.take (j + 1) by rw [List.take_add_one, List.getElem?_eq_getElem (by have := HLo.out; omega), nth_get (by have := HLo.out; omega)]; rfl] at h)
   have HBn : Hid (Below w.heap.size w (wc.setCell ⟨w.heap.size, xi, none⟩ (.bool true))) := aside (HB.out.setCell (p := ⟨w.heap.size, xi, none⟩) (Nat.le_refl _) _)
   have HZn : Hid (w.heap.size + 1 ≤ (wc.setCell ⟨w.heap.size, xi, none⟩ (.bool true)).heap.size) := aside (by simpa using HZ.out)
   have cO2 : (wc.setCell ⟨w.heap.size, xi, none⟩ (.bool true)).cell? ⟨b, of + j, none⟩ = some (.int .i64 xi) := by
    obtain ⟨b2, of2, e2, _, c2'⟩ := ISl.at_ (isl_below HOo.out HBn.out) hjm
    rw [hOe] at e2
    injection e2 with e2
    injection e2 with e3 e4
    rw [e3, e4, ← hxi]
    exact c2'
   have cA2 : (wc.setCell ⟨w.heap.size, xi, none⟩ (.bool true)).cell? ⟨b', of' + xi, none⟩ = some (.int .i64 (nth ns xi)) := by
    obtain ⟨b2, of2, e2, _, c2'⟩ := ISl.at_ (isl_below H.out HBn.out) hxn
    rw [hAe] at e2
    injection e2 with e2
    injection e2 with e3 e4
    rw [e3, e4]
    exact c2'
   generalize nth ns xi = y at cA cA2 hwr HTn HVV hv
   subst hOe hAe
   clear hx hxk hxi hbl hbl' hv hAt hvv HT HM HB HZ hgo
   go_wp2_with fail
   exact ⟨⟨j + 1, wi - y, by omega, by go_num, rfl, HVV.out.1, HVV.out.2, HMn, HBn, HTn, HZn⟩, by simp [Go.RowKit.intOf]; omega⟩
  | false =>
   have hgo2 : ¬ (j < m ∧ 0 < wi) := of_decide_eq_false hgo.symm
   have HTe : Hid (takeT (atZ ns) want o = o.take j) := aside (by
    rw [HT.out]
    by_cases hwz : wi ≤ 0
    ·rw [takeT_low _ hwz, List.append_nil]
    ·rw [List.drop_eq_nil_of_le (by have := HLo.out; omega)]
     unfold takeT
     rw [List.append_nil])
   have HDj : Hid ((o.take j).Nodup) := aside (HD.out.sublist (List.take_sublist _ _))
   have HOj : Hid (∀ x ∈ o.take j, OkZ n x) := aside (fun x hx => HOk.out x (List.mem_of_mem_take hx))
   clear hgo hgo2 HT
   obtain ⟨T, hT⟩ : ∃ T, T = o.take j := ⟨_, rfl⟩
   rw [← hT] at HM HTe HDj HOj
   clear hT
   have hz1 := HZ.out
   have HO0 : Hid (OwnZ wc (w.heap.size + 1) (.slice none 0 0) (markL T 0).length (markL T 0)) := aside (ownZ_nil _ _)
   go_wp2_with fail
   go_loopw [9, 10] (fun v9 v10 wx => ∃ (i : Nat) (L : List Int) (A1 : Option Addr) (c1 : Nat), i ≤ n ∧ v10 = .int .i64 i ∧ v9 = .slice A1 L.length c1 ∧ L.length ≤ i ∧ w.heap.size + 1 ≤ wx.heap.size ∧ Hid (L = markL T i) ∧ Hid (OwnZ wx (w.heap.size + 1) (.slice A1 L.length c1) L.length L) ∧ Hid (Mk wx w.heap.size n T) ∧ Hid (Below w.heap.size w wx)) (fun _ v10 _ => n - (Go.RowKit.intOf v10).toNat)
   case atStart => exact ⟨0, [], none, 0, Nat.zero_le _, rfl, rfl, Nat.le_refl _, hz1, aside rfl, HO0, HM, HB⟩
   case round =>
    clear HM HB HZ hz1 HO0
    obtain ⟨i, L, A1, c1, hi, rfl, rfl, hll, hz1, HL, HO, HM, HB⟩ := hrel
    by_cases hin : i < n
    ·have i0 : (i : Int) < (n : Int) := by omega
     have hmc := HM.out.cell hin
     by_cases hT : (i : Int) ∈ T
     ·rw [decide_eq_true hT] at hmc
      have HL2 : Hid (L ++ [(i : Int)] = markL T (i + 1)) := aside (by rw [markL_yes hT, HL.out])
      have hll2 : (L ++ [(i : Int)]).length = L.length + 1 := by simp
      clear hT hin
      go_wp2_with (first
       | (at_builtin; refine wpList_push rfl (.tmp 49) (.tmp 51) 50 rfl (w.heap.size + 1) _ 1 8 Tryz.underlying50 infoZ rfl (by decide) (.slice A1 L.length c1) L.length _ rfl rfl rfl rfl HO.out (by omega) (by unfold maxLen; omega) hz1 ?_; intro A3 c3 w3 hc3 hc3' hown3 hb3 hz3' hg3)
       | fail)
      have HO3 : Hid (OwnZ w3 (w.heap.size + 1) (.slice A3 (L.length + 1) c3) (L.length + 1) (L ++ [(i : Int)])) := aside (by show w3.ownsRow _ _ _ _ _ _; rw [List.map_append]; exact hown3)
      have H3 := aside (HB.out.trans (hb3.mono (Nat.le_succ _)))
      have HM3 := aside (HM.out.below hb3 (Nat.lt_succ_self _))
      have hz3 := Nat.le_trans hz1 hb3.size
      clear hown3 hb3 hg3 hz3'
      exact ⟨⟨i + 1, L ++ [(i : Int)], A3, c3, by omega, by go_num, by rw [hll2], by omega, hz3, HL2, by rw [hll2]; exact HO3, HM3, H3⟩, by simp [Go.RowKit.intOf]; omega⟩
     ·rw [decide_eq_false hT] at hmc
      have HL2 : Hid (L = markL T (i + 1)) := aside (by rw [markL_no hT, HL.out])
      clear hT hin
      go_wp2
      exact ⟨⟨i + 1, L, A1, c1, by omega, by go_num, rfl, by omega, hz1, HL2, HO, HM, HB⟩, by simp [Go.RowKit.intOf]; omega⟩
    ·obtain rfl : n = i := by omega
     have i0 : ((n : Int) < (n : Int)) = False := by simp
     have HLe : Hid (L = (takeT (atZ ns) want o).mergeSort (fun x y => decide (x ≤ y))) := aside (by rw [HL.out, HTe.out]; exact filter_sorted HDj.out HOj.out)
     clear HL HM
     go_wp2
     go_ret
     exact ⟨A1, c1, L, rfl, ownZ_isl HO.out, HLe.out, HB.out⟩
end Go.Proofs.YtbpabjhcjffkmaaGreatDoor.Pk
