/- Comparing, money, whether there is enough: cmp.Compare, the closure of Great, money.Check, money.Sum, pick.Check. Conditions: named in each theorem. -/
import Derived.Test.YtgickjghfndaaaaDoorSrtE
namespace Go.Proofs.YtgickjghfndaaaaDoor
open Go.RowKit Go.ChangeShapes Go.WideShapes Go.ChangeAt

theorem cnan_any (x : Int) (w : World) : Calls Tryd.prog 33 #[.int .i64 x] w (fun e w' => e = .returned (.bool false) ∧ w' = w) := by
  go_enter Tryd.func33, Tryd.ntmps33
  go_wp2
  go_ret
  exact ⟨by simp, rfl⟩
theorem cmp_any (x y : Int) (w : World) : Calls Tryd.prog 25 #[.int .i64 x, .int .i64 y] w (fun e w' => e = .returned (.int .i64 (cmpI x y)) ∧ w' = w) := by
  unfold cmpI
  by_cases h1 : x < y
  · rw [if_pos h1]
    go_enter Tryd.func25, Tryd.ntmps25
    go_wp2_with (go_at_call 33; refine (cnan_any _ _).mono ?_; rintro e w' ⟨rfl, rfl⟩)
    go_ret
    exact ⟨rfl, rfl⟩
  · rw [if_neg h1]
    by_cases h2 : y < x
    · rw [if_pos h2]
      go_enter Tryd.func25, Tryd.ntmps25
      go_wp2_with (go_at_call 33; refine (cnan_any _ _).mono ?_; rintro e w' ⟨rfl, rfl⟩)
      go_ret
      exact ⟨rfl, rfl⟩
    · rw [if_neg h2]
      go_enter Tryd.func25, Tryd.ntmps25
      go_wp2_with (go_at_call 33; refine (cnan_any _ _).mono ?_; rintro e w' ⟨rfl, rfl⟩)
      go_ret
      exact ⟨rfl, rfl⟩
def errP (k : Int) : Value := if k = 0 then .nilIface else .iface 24 (.int .i64 k)
theorem errP_no {k : Int} (h : k ≠ 0) : errP k = .iface 24 (.int .i64 k) := by unfold errP; rw [if_neg h]
def moneyE (a : Int) : Int := if a < 0 ∨ 1125899906842624 < a then 2 else 0
def amtE (a : Int) : Int := if a < 0 ∨ 1125899906842624 < a ∨ a = 0 then 2 else 0
theorem moneyE_zero {a : Int} : moneyE a = 0 ↔ 0 ≤ a ∧ a ≤ 1125899906842624 := by unfold moneyE; split <;> omega
theorem amtE_zero {a : Int} : amtE a = 0 ↔ 0 < a ∧ a ≤ 1125899906842624 := by unfold amtE; split <;> omega
theorem money_any (a : Int) (w : World) : Calls Tryd.prog 19 #[.int .i64 a] w (fun e w' => e = .returned (errP (moneyE a)) ∧ w' = w) := by
  by_cases e1 : a < 0
  · have h : moneyE a = 2 := by unfold moneyE; rw [if_pos (.inl e1)]
    rw [h]
    clear h
    go_enter Tryd.func19, Tryd.ntmps19
    go_wp2
    go_ret
    exact ⟨rfl, rfl⟩
  · have e3 : (a < 0) = False := eq_false e1
    by_cases e2 : (1125899906842624 : Int) < a
    · have h : moneyE a = 2 := by unfold moneyE; rw [if_pos (.inr e2)]
      rw [h]
      clear h e1
      go_enter Tryd.func19, Tryd.ntmps19
      go_wp2
      go_ret
      exact ⟨rfl, rfl⟩
    · have h : moneyE a = 0 := by unfold moneyE; rw [if_neg (by omega)]
      have e4 : ((1125899906842624 : Int) < a) = False := eq_false e2
      rw [h]
      clear h e1 e2
      go_enter Tryd.func19, Tryd.ntmps19
      go_wp2
      go_ret
      exact ⟨rfl, rfl⟩


/-- What is wrong with amounts of which so much is wanted. -/
def totZ (ns : List Int) : Int := ns.sum
def pickQ (ns : List Int) (want : Int) : Int :=
  if 30 < ns.length then 4 else if ∃ x ∈ ns, moneyE x ≠ 0 then 2 else if moneyE want ≠ 0 then 2 else if 1125899906842624 < totZ ns then 4 else if totZ ns < want then 9 else 0
theorem sum_take {ns : List Int} (h : ∀ x ∈ ns, 0 ≤ x) (k : Nat) : 0 ≤ (ns.take k).sum ∧ (ns.take k).sum ≤ ns.sum := by
  have e : ns.sum = (ns.take k).sum + (ns.drop k).sum := by rw [← List.sum_append, List.take_append_drop]
  have h1 : ∀ (l : List Int), (∀ x ∈ l, 0 ≤ x) → 0 ≤ l.sum := by
    intro l
    induction l with
    | nil => intro _; exact Int.le_refl _
    | cons x r ih =>
      intro hl
      rw [List.sum_cons]
      have := hl x (by simp)
      have := ih fun y hy => hl y (by simp [hy])
      omega
  have := h1 (ns.take k) fun x hx => h x (List.mem_of_mem_take hx)
  have := h1 (ns.drop k) fun x hx => h x (List.mem_of_mem_drop hx)
  omega
theorem sum_next {ns : List Int} {k : Nat} (h : k < ns.length) : (ns.take (k + 1)).sum = (ns.take k).sum + nth ns k := by
  rw [List.take_add_one, List.getElem?_eq_getElem h, List.sum_append, nth_get h]
  simp
theorem isl_below {w w' : World} {B n : Nat} {A : Option Addr} {zs : List Int} (h : ISl w B A n zs) (hb : Below B w w') : ISl w' B A n zs := Sl.below h hb
theorem isl_more {w : World} {B B' n : Nat} {A : Option Addr} {zs : List Int} (h : ISl w B A n zs) (hB : B ≤ B') : ISl w B' A n zs := Sl.more h hB
set_option maxHeartbeats 2000000 in
set_option maxRecDepth 100000 in
theorem sumM_any (ns : List Int) (A : Option Addr) (n c : Nat) (w : World) (h : ISl w w.heap.size A n ns) (hn : n ≤ 1000) (hg : ∀ x ∈ ns, moneyE x = 0) :
    Calls Tryd.prog 20 #[.slice A n c] w (fun e w' => e = .returned (if 1125899906842624 < totZ ns then .tuple #[.int .i64 0, .iface 24 (.int .i64 4)] else .tuple #[.int .i64 (totZ ns), .nilIface]) ∧ w' = w) := by
  have hlen := ISl.len h
  have h0 : ∀ x ∈ ns, 0 ≤ x := fun x hx => (moneyE_zero.1 (hg x hx)).1
  obtain ⟨V, hV⟩ : ∃ V, V = (if 1125899906842624 < totZ ns then Value.tuple #[.int .i64 0, .iface 24 (.int .i64 4)] else .tuple #[.int .i64 (totZ ns), .nilIface]) := ⟨_, rfl⟩
  rw [← hV]
  have HV := aside hV
  have HG := aside hg
  have HL := aside hlen
  have H0 := aside h0
  have H := aside h
  clear hV hg hlen h0 h
  go_enter Tryd.func20, Tryd.ntmps20
  go_wp2
  go_loopw [4, 10] (fun v4 v10 wr => ∃ i : Nat, i ≤ n ∧ v4 = .int .i64 (ns.take i).sum ∧ v10 = .int .i64 i ∧ wr = w ∧ Hid ((ns.take i).sum ≤ 1125899906842624)) (fun _ v10 _ => n - (Go.RowKit.intOf v10).toNat)
  case atStart => exact ⟨0, Nat.zero_le _, rfl, rfl, rfl, aside (by rw [List.take_zero]; decide)⟩
  case round =>
    obtain ⟨i, hi, rfl, rfl, hw, HB⟩ := hrel
    try subst hw
    have hb := HB.out
    have hst := sum_take H0.out i
    by_cases hin : i < n
    · obtain ⟨b, o, hAe, hbl, hc⟩ := ISl.at_ H.out hin
      have hx : nth ns i ∈ ns := nth_mem (by have := HL.out; omega)
      have hnx := sum_next (ns := ns) (k := i) (by have := HL.out; omega)
      have hm := moneyE_zero.1 (HG.out _ hx)
      have HMx := aside (HG.out _ hx)
      have HS1 := aside (sum_take H0.out (i + 1)).2
      have HNX := aside hnx
      obtain ⟨S, hS⟩ : ∃ S, S = (ns.take i).sum := ⟨_, rfl⟩
      rw [← hS] at hb hst HNX ⊢
      generalize nth ns i = x at hc hm HMx HNX
      subst hAe
      have i0 : (i : Int) < (n : Int) := by omega
      have hw1 : IntKind.i64.wrap (S + x) = S + x := by rw [IntKind.wrap_i64]; omega
      have HC := aside (money_any x)
      rw [HMx.out, show errP 0 = Value.nilIface from rfl] at HC
      by_cases hbig : 1125899906842624 < S + x
      · have HVe : Hid (V = .tuple #[.int .i64 0, .iface 24 (.int .i64 4)]) := aside (by rw [HV.out, if_pos (by have := HS1.out; have := HNX.out; unfold totZ; omega)])
        clear hS hb hst hm hx hnx hbl
        go_wp2_with (first | (go_at_call 19; refine (HC.out _).mono ?_; rintro e w' ⟨rfl, rfl⟩) | fail)
        (try simp only [Exit.inBlock, Exit.then])
        refine bodyPost_ret (v := .tuple #[.int .i64 0, .iface 24 (.int .i64 4)]) (by simp only [results, Tryd.results20]; go_simp) rfl ?_
        exact ⟨by rw [HVe.out] <;> rfl, rfl⟩
      · have hbg : (1125899906842624 < S + x) = False := eq_false hbig
        have HB2 : Hid ((ns.take (i + 1)).sum ≤ 1125899906842624) := aside (by rw [HNX.out]; omega)
        clear hS hb hst hm hx hnx hbl hbig
        go_wp2_with (first | (go_at_call 19; refine (HC.out _).mono ?_; rintro e w' ⟨rfl, rfl⟩) | fail)
        exact ⟨⟨i + 1, by omega, by rw [HNX.out], by go_num, by trivial, HB2⟩, by simp [Go.RowKit.intOf]; omega⟩
    · obtain rfl : n = i := by omega
      have HVe : Hid (V = .tuple #[.int .i64 (totZ ns), .nilIface]) := aside (by
        rw [HV.out, if_neg]
        unfold totZ
        have := HB.out
        rw [← HL.out, List.take_length] at this
        omega)
      have hT : Hid ((ns.take n).sum = totZ ns) := aside (by rw [← HL.out, List.take_length]; rfl)
      have i0 : ((n : Int) < (n : Int)) = False := by simp
      clear hb hst
      go_wp2
      (try simp only [Exit.inBlock, Exit.then])
      refine bodyPost_ret (v := .tuple #[.int .i64 (ns.take n).sum, .nilIface]) (by simp only [results, Tryd.results20]; go_simp) rfl ?_
      exact ⟨by rw [HVe.out, ← hT.out] <;> rfl, rfl⟩
theorem errP_two : errP 2 = .iface 24 (.int .i64 2) := rfl
set_option maxHeartbeats 2000000 in
set_option maxRecDepth 100000 in
theorem pickC_any (ns : List Int) (A : Option Addr) (n c : Nat) (want : Int) (w : World) (h : ISl w w.heap.size A n ns) :
    Calls Tryd.prog 7 #[.slice A n c, .int .i64 want] w (fun e w' => e = .returned (errP (pickQ ns want)) ∧ w' = w) := by
  have hlen := ISl.len h
  obtain ⟨Q, hQ⟩ : ∃ Q, Q = pickQ ns want := ⟨_, rfl⟩
  rw [← hQ]
  unfold pickQ at hQ
  rw [hlen] at hQ
  have HQ := aside hQ
  have HL := aside hlen
  have H := aside h
  clear hQ hlen h
  by_cases hbig : 30 < n
  · have hz : (30 : Int) < (n : Int) := by omega
    have HQq : Hid (Q = 4) := aside (HQ.out.trans (if_pos hbig))
    clear hbig
    go_enter Tryd.func7, Tryd.ntmps7
    go_wp2
    go_ret
    exact ⟨by rw [HQq.out] <;> rfl, rfl⟩
  · have hz : ((30 : Int) < (n : Int)) = False := by simp only [eq_iff_iff, iff_false]; omega
    have hn30 : n ≤ 30 := by omega
    have HQ1 := aside (HQ.out.trans (if_neg hbig))
    clear hbig HQ
    go_enter Tryd.func7, Tryd.ntmps7
    go_wp2
    clear hz
    go_loopw [17] (fun v17 wr => ∃ i : Nat, i ≤ n ∧ v17 = .int .i64 i ∧ wr = w ∧ Hid (∀ k, k < i → moneyE (nth ns k) = 0)) (fun v17 _ => n - (Go.RowKit.intOf v17).toNat)
    case atStart => exact ⟨0, Nat.zero_le _, rfl, rfl, aside (fun k hk => absurd hk (Nat.not_lt_zero k))⟩
    case round =>
      obtain ⟨i, hi, rfl, hw, HB⟩ := hrel
      try subst hw
      by_cases hin : i < n
      · obtain ⟨b, o, hAe, hbl, hc⟩ := ISl.at_ H.out hin
        have hx : nth ns i ∈ ns := nth_mem (by have := HL.out; omega)
        have HX := aside hx
        obtain ⟨x, hxe⟩ : ∃ x, x = nth ns i := ⟨_, rfl⟩
        rw [← hxe] at hc
        have HXE := aside hxe
        subst hAe
        have i0 : (i : Int) < (n : Int) := by omega
        by_cases hm : moneyE x = 0
        · have HC := aside (money_any x)
          rw [hm, show errP 0 = Value.nilIface from rfl] at HC
          have HB2 : Hid (∀ k, k < i + 1 → moneyE (nth ns k) = 0) := aside (fun k hk => by
            rcases Nat.lt_succ_iff_lt_or_eq.1 hk with h | rfl
            · exact HB.out k h
            · rw [← HXE.out]; exact hm)
          clear hx hxe hbl hm
          go_wp2_with (first | (go_at_call 19; refine (HC.out _).mono ?_; rintro e w' ⟨rfl, rfl⟩) | fail)
          exact ⟨⟨i + 1, by omega, by go_num, by trivial, HB2⟩, by simp [Go.RowKit.intOf]; omega⟩
        · have hm2 : moneyE x = 2 := by
            unfold moneyE at hm ⊢
            split
            · rfl
            · rename_i h1
              rw [if_neg h1] at hm
              exact absurd rfl hm
          have HC := aside (money_any x)
          rw [hm2, errP_two] at HC
          have HQq : Hid (Q = 2) := aside (HQ1.out.trans (if_pos ⟨x, by rw [HXE.out]; exact HX.out, hm⟩))
          clear hx hxe hbl hm hm2
          go_wp2_with (first | (go_at_call 19; refine (HC.out _).mono ?_; rintro e w' ⟨rfl, rfl⟩) | fail)
          go_ret
          exact ⟨by rw [HQq.out] <;> rfl, rfl⟩
      · obtain rfl : n = i := by omega
        have hall : ∀ x ∈ ns, moneyE x = 0 := fun x hx => by
          obtain ⟨k, hk, rfl⟩ := List.getElem_of_mem hx
          have := HB.out k (by have := HL.out; omega)
          rwa [nth_get hk] at this
        have HAll := aside hall
        have HQ2 := aside (HQ1.out.trans (if_neg (fun h => by obtain ⟨x, hx, hn⟩ := h; exact hn (hall x hx))))
        have i0 : ((n : Int) < (n : Int)) = False := by simp
        clear hall HQ1 HB
        by_cases hm : moneyE want = 0
        · have HQ3 := aside (HQ2.out.trans (if_neg (by simpa using hm)))
          have HC := aside (money_any want)
          rw [hm, show errP 0 = Value.nilIface from rfl] at HC
          have HS := sumM_any ns A n c _ H.out (by omega) HAll.out
          clear hm
          by_cases ht : 1125899906842624 < totZ ns
          · rw [if_pos ht] at HS
            have HSm := aside HS
            have HQq : Hid (Q = 4) := aside (HQ3.out.trans (if_pos ht))
            clear HS ht
            go_wp2_with (first
              | (go_at_call 19; refine (HC.out _).mono ?_; rintro e w' ⟨rfl, rfl⟩)
              | (go_at_call 20; refine HSm.out.mono ?_; rintro e w' ⟨rfl, rfl⟩)
              | fail)
            go_ret
            exact ⟨by rw [HQq.out] <;> rfl, rfl⟩
          · rw [if_neg ht] at HS
            have HSm := aside HS
            have HQ4 := aside (HQ3.out.trans (if_neg ht))
            clear HS ht
            generalize totZ ns = T at HSm HQ4
            by_cases hl : T < want
            · have HQq : Hid (Q = 9) := aside (HQ4.out.trans (if_pos hl))
              go_wp2_with (first
                | (go_at_call 19; refine (HC.out _).mono ?_; rintro e w' ⟨rfl, rfl⟩)
                | (go_at_call 20; refine HSm.out.mono ?_; rintro e w' ⟨rfl, rfl⟩)
                | fail)
              go_ret
              exact ⟨by rw [HQq.out] <;> rfl, rfl⟩
            · have HQq : Hid (Q = 0) := aside (HQ4.out.trans (if_neg hl))
              have hl' : (T < want) = False := eq_false hl
              clear hl
              go_wp2_with (first
                | (go_at_call 19; refine (HC.out _).mono ?_; rintro e w' ⟨rfl, rfl⟩)
                | (go_at_call 20; refine HSm.out.mono ?_; rintro e w' ⟨rfl, rfl⟩)
                | fail)
              go_ret
              exact ⟨by rw [HQq.out] <;> rfl, rfl⟩
        · have hm2 : moneyE want = 2 := by
            unfold moneyE at hm ⊢
            split
            · rfl
            · rename_i h1
              rw [if_neg h1] at hm
              exact absurd rfl hm
          have HC := aside (money_any want)
          rw [hm2, errP_two] at HC
          have HQq : Hid (Q = 2) := aside (HQ2.out.trans (if_pos hm))
          clear hm hm2
          go_wp2_with (first | (go_at_call 19; refine (HC.out _).mono ?_; rintro e w' ⟨rfl, rfl⟩) | fail)
          go_ret
          exact ⟨by rw [HQq.out] <;> rfl, rfl⟩
/-- Where nothing is wrong. -/
theorem pickQ_zero {ns : List Int} {want : Int} (h : pickQ ns want = 0) : ns.length ≤ 30 ∧ (∀ x ∈ ns, 0 ≤ x ∧ x ≤ 1125899906842624) ∧ 0 ≤ want ∧ want ≤ 1125899906842624 ∧ totZ ns ≤ 1125899906842624 ∧ want ≤ totZ ns := by
  unfold pickQ at h
  by_cases h1 : 30 < ns.length
  · rw [if_pos h1] at h; cases h
  rw [if_neg h1] at h
  by_cases h2 : ∃ x ∈ ns, moneyE x ≠ 0
  · rw [if_pos h2] at h; cases h
  rw [if_neg h2] at h
  by_cases h3 : moneyE want ≠ 0
  · rw [if_pos h3] at h; cases h
  rw [if_neg h3] at h
  by_cases h4 : 1125899906842624 < totZ ns
  · rw [if_pos h4] at h; cases h
  rw [if_neg h4] at h
  by_cases h5 : totZ ns < want
  · rw [if_pos h5] at h; cases h
  have hw := moneyE_zero.1 (Classical.not_not.1 h3)
  exact ⟨by omega, fun x hx => moneyE_zero.1 (Classical.not_not.1 (fun hn => h2 ⟨x, hx, hn⟩)), hw.1, hw.2, by omega, by omega⟩
end Go.Proofs.YtgickjghfndaaaaDoor
