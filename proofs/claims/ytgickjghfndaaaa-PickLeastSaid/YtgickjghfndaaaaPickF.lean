/- PickFew: its walk. Conditions: named in each theorem. -/
import Derived.Test.YtgickjghfndaaaaPickE
namespace Go.Proofs.Ytgickjghfndaaaa
open Go.RowKit Go.ChangeShapes Go.WideShapes Go.ChangeAt

def encB (b : Bool) : List Value := [.bool b]
theorem encB_len (b : Bool) : (encB b).length = 1 := rfl
/-- What is chosen, of the first so many places. -/
def inB (bs : List Bool) (m : Nat) (x : Int) : Bool := decide (x.toNat < m) && bs.getD x.toNat false
def chosen (bs : List Bool) (m k : Nat) : List Int := (rangeZ k).filter (inB bs m)
theorem chosen_next (bs : List Bool) (m k : Nat) : chosen bs m (k + 1) = chosen bs m k ++ (if inB bs m k then [(k : Int)] else []) := by
  unfold chosen
  rw [rangeZ_succ, List.filter_append]
  congr 1
  cases h : inB bs m k with
  | true => rw [List.filter_cons_of_pos h]; rfl
  | false => rw [List.filter_cons_of_neg (by rw [h]; decide)]; rfl
theorem inB_nat (bs : List Bool) (m k : Nat) : inB bs m (k : Int) = (decide (k < m) && bs.getD k false) := by unfold inB; rw [Int.toNat_natCast]
set_option maxHeartbeats 16000000 in
set_option maxRecDepth 100000 in
theorem few_any (ns : List Int) (A : Option Addr) (n c : Nat) (want : Int) (bs : List Bool) (I : Option Addr) (m c3 : Nat) (k : Int) (w : World) (h : ISl w w.heap.size A n ns) (hb : FSl encB 1 w w.heap.size I m bs) :
    Calls Try.prog 3 #[.slice A n c, .int .i64 want, .slice I m c3, .int .i64 k] w (LawPost w) := by
  have HLn := aside (ISl.len h)
  have H := aside h
  have HBs := aside hb
  by_cases hq : pickQ ns want = 0
  · have hGr := fun W (hW : Below w.heap.size w W) => great_ok ns A n c want W (isl_more (isl_below h hW) hW.size) hq
    have HGr := aside hGr
    obtain ⟨z1, z2, z3, z4, z5, z6⟩ := pickQ_zero hq
    have HNs := aside z2
    have HFew := aside (fun p o => few_of (ns := ns) (want := want) (n := n) (p := p) (o := o) HLn.out hq)
    have hn30 : n ≤ 30 := by have := HLn.out; omega
    have hwz : 0 ≤ want ∧ want ≤ 1125899906842624 := ⟨z3, z4⟩
    clear h hb hq hGr z1 z2 z3 z4 z5 z6
    go_enter Try.func3, Try.ntmps3
    go_wp2_with fail
    refine (picked_any w).mono ?_
    rintro e w1 ⟨rfl, hb1⟩
    have HB1 := aside hb1
    clear hb1
    go_wp2_with fail
    refine (HGr.out w1 HB1.out).mono ?_
    rintro e w2 ⟨P, cp, p, o, rfl, hp, hpe, hpm, hps, hb2⟩
    have HF := aside (HFew.out p o hpe (HLn.out ▸ hpm) hps)
    have HP := aside hp
    have HB2 := aside (HB1.out.trans (hb2.mono HB1.out.size))
    have HW : Hid (Calls Try.prog 8 #[.slice A n c, .slice P p.length cp] w2 (fun e w' => e = .returned (.int .i64 (sumG (atZ ns) p)) ∧ w' = w2)) := aside (worth_any ns A n c p P p.length cp w2 (isl_more (isl_below H.out HB2.out) HB2.out.size) hp (by have := HF.out.len; omega) HF.out.ok HF.out.pos HF.out.most.2)
    have hpl := HF.out.len
    clear hp hpe hpm hps hb2 HGr HFew
    obtain ⟨Wt, hWt⟩ : ∃ Wt, Wt = sumG (atZ ns) p := ⟨_, rfl⟩
    rw [← hWt] at HW
    have hWb : 0 ≤ Wt ∧ Wt ≤ 1125899906842624 ∧ want ≤ Wt := by rw [hWt]; exact ⟨HF.out.most.1, HF.out.most.2, HF.out.enough⟩
    have HWt := aside hWt
    clear hWt
    go_wp2_with fail
    go_loopw [12, 13, 14] (fun v12 v13 v14 wr => ∃ (i : Nat) (s : Int) (q : Nat), i ≤ n ∧ v12 = .int .i64 s ∧ v13 = .int .i64 q ∧ v14 = .int .i64 i ∧ wr = w2 ∧ 0 ≤ s ∧ s ≤ i * 1125899906842624 ∧ q ≤ i ∧ Hid (s = sumG (atZ ns) (chosen bs m i) ∧ q = (chosen bs m i).length)) (fun _ _ v14 _ => n - (Go.RowKit.intOf v14).toNat)
    case atStart => exact ⟨0, 0, 0, Nat.zero_le _, rfl, rfl, rfl, rfl, Int.le_refl _, by omega, Nat.le_refl _, aside ⟨rfl, rfl⟩⟩
    case round =>
      obtain ⟨i, s, q, hi, rfl, rfl, rfl, hw, hs1, hs2, hqi, HS⟩ := hrel
      try subst hw
      by_cases hin : i < n
      · have i0 : (i : Int) < (n : Int) := by omega
        have hst := chosen_next bs m i
        rw [inB_nat] at hst
        have hv := HNs.out _ (nth_mem (zs := ns) (k := i) (by have := HLn.out; omega))
        have hAt : atZ ns (i : Int) = nth ns i := by unfold atZ; rw [Int.toNat_natCast]
        obtain ⟨b', of', hAe, hbl', cA⟩ := ISl.at_ (isl_below H.out HB2.out) hin
        have HNo : Hid ((decide (i < m) && bs.getD i false) = false → s = sumG (atZ ns) (chosen bs m (i + 1)) ∧ q = (chosen bs m (i + 1)).length) := aside (fun hf => by
          rw [hst, hf]
          simpa using HS.out)
        have HYe : Hid ((decide (i < m) && bs.getD i false) = true → s + nth ns i = sumG (atZ ns) (chosen bs m (i + 1)) ∧ q + 1 = (chosen bs m (i + 1)).length) := aside (fun hf => by
          rw [hst, hf, if_pos rfl, sumG_app, List.length_append, ← HS.out.1, ← HS.out.2]
          refine ⟨?_, rfl⟩
          show _ = s + (atZ ns (i : Int) + 0)
          rw [hAt, Int.add_zero])
        have hw1 : IntKind.i64.wrap (s + nth ns i) = s + nth ns i := by rw [IntKind.wrap_i64]; omega
        have hw2 : IntKind.i64.wrap ((q : Int) + 1) = ((q + 1 : Nat) : Int) := by rw [IntKind.wrap_i64]; omega
        generalize nth ns i = y at cA hw1 HYe hv
        subst hAe
        clear hst hAt hbl'
        by_cases him : i < m
        · obtain ⟨b, of, hIe, hbl, cI⟩ := FSl.at_ encB_len (by decide) false (FSl.below HBs.out HB2.out) him
          have cI := cI 0 (.bool (bs.getD i false)) rfl
          rw [Nat.mul_one, Nat.add_zero] at cI
          have m0 : (i : Int) < (m : Int) := by omega
          have hd : decide (i < m) = true := decide_eq_true him
          rw [hd, Bool.true_and] at HNo HYe
          subst hIe
          clear hbl hd
          cases hbb : bs.getD i false with
          | true =>
            rw [hbb] at cI
            have HY := aside (HYe.out hbb)
            clear HYe HNo hbb
            go_wp2
            exact ⟨⟨i + 1, s + y, q + 1, by omega, rfl, by go_num, by go_num, by trivial, by omega, by omega, by omega, HY⟩, by simp [Go.RowKit.intOf]; omega⟩
          | false =>
            rw [hbb] at cI
            have HY := aside (HNo.out hbb)
            clear HYe HNo hbb
            go_wp2
            exact ⟨⟨i + 1, s, q, by omega, rfl, rfl, by go_num, by trivial, by omega, by omega, by omega, HY⟩, by simp [Go.RowKit.intOf]; omega⟩
        · have m0 : ((i : Int) < (m : Int)) = False := by simp only [eq_iff_iff, iff_false]; omega
          have HY := aside (HNo.out (by rw [decide_eq_false him]; rfl))
          clear HYe HNo
          go_wp2
          exact ⟨⟨i + 1, s, q, by omega, rfl, rfl, by go_num, by trivial, by omega, by omega, by omega, HY⟩, by simp [Go.RowKit.intOf]; omega⟩
      · obtain rfl : n = i := by omega
        have i0 : ((n : Int) < (n : Int)) = False := by simp
        have hfew : q < p.length → s < want := fun hl => by
          have h1 := HF.out.few (inB bs m) (by rw [HS.out.2] at hl; exact hl)
          rw [HS.out.1]
          exact h1
        have HFw := aside hfew
        have hWw : (Wt < want) = False := by simp only [eq_iff_iff, iff_false]; omega
        have HWW := aside hWw
        clear hfew hs2 hqi HS
        by_cases hc : q < p.length
        · have hcz : (q : Int) < (p.length : Int) := by omega
          have hsz : s < want := HFw.out hc
          clear hc
          go_wp2_with (first | (go_at_call 8; refine HW.out.mono ?_; rintro e w' ⟨rfl, hw'⟩; rw [hw']; clear hw' w') | fail)
          go_loopw [15, 16] (fun v15 v16 wq => ∃ (j : Nat) (y : Int), j ≤ p.length ∧ v15 = .int .i64 y ∧ v16 = .int .i64 j ∧ wq = wr ∧ 0 ≤ y ∧ y ≤ 1125899906842624 ∧ Hid (y = Wt ∨ ∃ x ∈ p, y = atZ ns x)) (fun _ v16 _ => p.length - (Go.RowKit.intOf v16).toNat)
          case atStart => exact ⟨0, Wt, Nat.zero_le _, rfl, rfl, rfl, hWb.1, hWb.2.1, aside (.inl rfl)⟩
          case round =>
            obtain ⟨j, y, hj, rfl, rfl, hw, hy1, hy2, HY⟩ := hrel
            try subst hw
            by_cases hjp : j < p.length
            · have j0 : (j : Int) < (p.length : Int) := by omega
              obtain ⟨b, of, hPe, hbl, cP⟩ := ISl.at_ HP.out hjp
              have hx : nth p j ∈ p := nth_mem hjp
              have hxk := HF.out.ok _ hx
              obtain ⟨xi, hxi⟩ : ∃ q : Nat, nth p j = (q : Int) := ⟨(nth p j).toNat, by have := hxk.1; omega⟩
              rw [hxi] at cP hxk hx
              have hxn : xi < n := by have := hxk.2; omega
              have hxz : (xi : Int) < (n : Int) := by omega
              obtain ⟨b', of', hAe, hbl', cA⟩ := ISl.at_ (isl_below H.out HB2.out) hxn
              have hv := HNs.out _ (nth_mem (zs := ns) (k := xi) (by have := HLn.out; omega))
              have HN : Hid (nth ns xi = Wt ∨ ∃ x ∈ p, nth ns xi = atZ ns x) := aside (.inr ⟨(xi : Int), hx, by unfold atZ; rw [Int.toNat_natCast]⟩)
              generalize nth ns xi = u at cA hv HN
              subst hPe hAe
              clear hx hxk hxi hbl hbl'
              by_cases hyu : y ≤ u
              · have hmn : min y u = y := by omega
                go_wp2
                exact ⟨⟨j + 1, y, by omega, by first | rfl | (congr 1), by go_num, by trivial, hy1, hy2, HY⟩, by simp [Go.RowKit.intOf]; omega⟩
              · have hmn : min y u = u := by omega
                go_wp2
                exact ⟨⟨j + 1, u, by omega, by first | rfl | (congr 1), by go_num, by trivial, hv.1, hv.2, HN⟩, by simp [Go.RowKit.intOf]; omega⟩
            · have j0 : ¬ (j : Int) < (p.length : Int) := by omega
              by_cases hp0 : p = []
              · have hl0 : (p.length : Int) = 0 := by rw [hp0]; rfl
                have hl1 : ((p.length : Int) == 0) = true := by rw [hl0]; rfl
                clear hl0
                go_wp2_with (first | (go_at_call 8; refine HW.out.mono ?_; rintro e w' ⟨rfl, hw'⟩; rw [hw']; clear hw' w') | fail)
                go_ret
                exact ⟨by first | rfl | simp [*], HB2.out⟩
              · have hlp : 0 < p.length := List.length_pos_iff.2 hp0
                have hl1 : ((p.length : Int) == 0) = false := by simp; exact hp0
                have hlast : Wt - y < want := by
                  rw [HWt.out]
                  refine HF.out.less hp0 y ?_
                  rcases HY.out with h | ⟨x, hx, h⟩
                  · obtain ⟨x, hx⟩ : ∃ x, x ∈ p := ⟨nth p 0, nth_mem hlp⟩
                    exact ⟨x, hx, by rw [h, HWt.out]; exact sumG_mem HF.out.pos hx⟩
                  · exact ⟨x, hx, by rw [h]; exact Int.le_refl _⟩
                have hww : IntKind.i64.wrap (Wt - y) = Wt - y := by rw [IntKind.wrap_i64]; omega
                clear hp0 hlp
                go_wp2_with (first | (go_at_call 8; refine HW.out.mono ?_; rintro e w' ⟨rfl, hw'⟩; rw [hw']; clear hw' w') | fail)
                go_ret
                exact ⟨by first | rfl | simp [*], HB2.out⟩
        · have hcz : ((q : Int) < (p.length : Int)) = False := by simp only [eq_iff_iff, iff_false]; omega
          clear hc
          go_wp2_with (first | (go_at_call 8; refine HW.out.mono ?_; rintro e w' ⟨rfl, hw'⟩; rw [hw']; clear hw' w') | fail)
          go_loopw [15, 16] (fun v15 v16 wq => ∃ (j : Nat) (y : Int), j ≤ p.length ∧ v15 = .int .i64 y ∧ v16 = .int .i64 j ∧ wq = wr ∧ 0 ≤ y ∧ y ≤ 1125899906842624 ∧ Hid (y = Wt ∨ ∃ x ∈ p, y = atZ ns x)) (fun _ v16 _ => p.length - (Go.RowKit.intOf v16).toNat)
          case atStart => exact ⟨0, Wt, Nat.zero_le _, rfl, rfl, rfl, hWb.1, hWb.2.1, aside (.inl rfl)⟩
          case round =>
            obtain ⟨j, y, hj, rfl, rfl, hw, hy1, hy2, HY⟩ := hrel
            try subst hw
            by_cases hjp : j < p.length
            · have j0 : (j : Int) < (p.length : Int) := by omega
              obtain ⟨b, of, hPe, hbl, cP⟩ := ISl.at_ HP.out hjp
              have hx : nth p j ∈ p := nth_mem hjp
              have hxk := HF.out.ok _ hx
              obtain ⟨xi, hxi⟩ : ∃ q : Nat, nth p j = (q : Int) := ⟨(nth p j).toNat, by have := hxk.1; omega⟩
              rw [hxi] at cP hxk hx
              have hxn : xi < n := by have := hxk.2; omega
              have hxz : (xi : Int) < (n : Int) := by omega
              obtain ⟨b', of', hAe, hbl', cA⟩ := ISl.at_ (isl_below H.out HB2.out) hxn
              have hv := HNs.out _ (nth_mem (zs := ns) (k := xi) (by have := HLn.out; omega))
              have HN : Hid (nth ns xi = Wt ∨ ∃ x ∈ p, nth ns xi = atZ ns x) := aside (.inr ⟨(xi : Int), hx, by unfold atZ; rw [Int.toNat_natCast]⟩)
              generalize nth ns xi = u at cA hv HN
              subst hPe hAe
              clear hx hxk hxi hbl hbl'
              by_cases hyu : y ≤ u
              · have hmn : min y u = y := by omega
                go_wp2
                exact ⟨⟨j + 1, y, by omega, by first | rfl | (congr 1), by go_num, by trivial, hy1, hy2, HY⟩, by simp [Go.RowKit.intOf]; omega⟩
              · have hmn : min y u = u := by omega
                go_wp2
                exact ⟨⟨j + 1, u, by omega, by first | rfl | (congr 1), by go_num, by trivial, hv.1, hv.2, HN⟩, by simp [Go.RowKit.intOf]; omega⟩
            · have j0 : ¬ (j : Int) < (p.length : Int) := by omega
              by_cases hp0 : p = []
              · have hl0 : (p.length : Int) = 0 := by rw [hp0]; rfl
                have hl1 : ((p.length : Int) == 0) = true := by rw [hl0]; rfl
                clear hl0
                go_wp2_with (first | (go_at_call 8; refine HW.out.mono ?_; rintro e w' ⟨rfl, hw'⟩; rw [hw']; clear hw' w') | fail)
                go_ret
                exact ⟨by first | rfl | simp [*], HB2.out⟩
              · have hlp : 0 < p.length := List.length_pos_iff.2 hp0
                have hl1 : ((p.length : Int) == 0) = false := by simp; exact hp0
                have hlast : Wt - y < want := by
                  rw [HWt.out]
                  refine HF.out.less hp0 y ?_
                  rcases HY.out with h | ⟨x, hx, h⟩
                  · obtain ⟨x, hx⟩ : ∃ x, x ∈ p := ⟨nth p 0, nth_mem hlp⟩
                    exact ⟨x, hx, by rw [h, HWt.out]; exact sumG_mem HF.out.pos hx⟩
                  · exact ⟨x, hx, by rw [h]; exact Int.le_refl _⟩
                have hww : IntKind.i64.wrap (Wt - y) = Wt - y := by rw [IntKind.wrap_i64]; omega
                clear hp0 hlp
                go_wp2_with (first | (go_at_call 8; refine HW.out.mono ?_; rintro e w' ⟨rfl, hw'⟩; rw [hw']; clear hw' w') | fail)
                go_ret
                exact ⟨by first | rfl | simp [*], HB2.out⟩
  · have hGr := fun W (hW : Below w.heap.size w W) => great_bad ns A n c want W (isl_more (isl_below h hW) hW.size) hq
    have HGr := aside hGr
    clear h hb hq hGr
    go_enter Try.func3, Try.ntmps3
    go_wp2_with fail
    refine (picked_any w).mono ?_
    rintro e w1 ⟨rfl, hb1⟩
    have HB1 := aside hb1
    clear hb1
    go_wp2_with fail
    refine (HGr.out w1 HB1.out).mono ?_
    rintro e w2 ⟨rfl, hb2⟩
    have HB2 := aside (HB1.out.trans (hb2.mono HB1.out.size))
    clear hb2 HGr
    go_wp2
    go_ret
    exact ⟨rfl, HB2.out⟩
end Go.Proofs.Ytgickjghfndaaaa
