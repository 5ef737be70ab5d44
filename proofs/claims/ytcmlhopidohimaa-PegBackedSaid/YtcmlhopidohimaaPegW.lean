/- PegBacked: its walk. Conditions: named in each theorem. -/
import Derived.Test.YtcmlhopidohimaaPegV
import Derived.Outline
namespace Go.Proofs.Ytcmlhopidohimaa
open Go.RowKit Go.ChangeShapes Go.WideShapes Go.ChangeAt

theorem amt_at {ps : List (Int × Int)} (h : Asc keyP ps) {k : Nat} (hk : k < ps.length) : amtS (ps.getD k (0, 0)).1 ps = (ps.getD k (0, 0)).2 := by
  have hm : ps.getD k (0, 0) ∈ ps := getD_mem (0, 0) hk
  generalize ps.getD k (0, 0) = y at hm
  obtain ⟨a, b, rfl⟩ := List.append_of_mem hm
  unfold Asc at h
  rw [List.pairwise_append] at h
  obtain ⟨-, h2, h3⟩ := h
  have h4 := List.pairwise_cons.1 h2
  unfold amtS
  have e1 : a.filter (fun z => decide (keyP z = y.1)) = [] := List.filter_eq_nil_iff.2 fun z hz => by
    have h5 : keyP z < keyP y := h3 z hz y (by simp)
    unfold keyP at h5
    have h6 : z.1 ≠ y.1 := by omega
    simp [keyP, h6]
  have e2 : b.filter (fun z => decide (keyP z = y.1)) = [] := List.filter_eq_nil_iff.2 fun z hz => by
    have h5 : keyP y < keyP z := h4.1 z hz
    unfold keyP at h5
    have h6 : z.1 ≠ y.1 := by omega
    simp [keyP, h6]
  rw [List.filter_append, e1, List.filter_cons_of_pos (by simp [keyP]), e2]
  simp
/-- What all have so far. -/
def sumTo (ps : List (Int × Int)) (k : Nat) : Int := ((ps.take k).map (·.2)).sum
def owTo (rs : List (Int × Int × Bool)) (k : Nat) : Int := ((rs.take k).map owes).sum
theorem sumTo_step {ps : List (Int × Int)} {k : Nat} (hk : k < ps.length) : sumTo ps (k + 1) = sumTo ps k + (ps.getD k (0, 0)).2 := by
  unfold sumTo
  rw [List.take_add_one, List.getD_eq_getElem?_getD, List.getElem?_eq_getElem hk, List.map_append, List.sum_append]
  simp only [Option.toList_some, List.map_cons, List.map_nil, List.sum_cons, List.sum_nil, Option.getD_some]
  omega
theorem owTo_step {rs : List (Int × Int × Bool)} {k : Nat} (hk : k < rs.length) : owTo rs (k + 1) = owTo rs k + owes (rs.getD k (0, 0, false)) := by
  unfold owTo
  rw [List.take_add_one, List.getD_eq_getElem?_getD, List.getElem?_eq_getElem hk, List.map_append, List.sum_append]
  simp only [Option.toList_some, List.map_cons, List.map_nil, List.sum_cons, List.sum_nil, Option.getD_some]
  omega
theorem Fit.sums {l : Int} {ps : List (Int × Int)} {is : List Int} {rs : List (Int × Int × Bool)} (h : Fit l ps is rs) (k : Nat) : 0 ≤ sumTo ps k ∧ sumTo ps k ≤ 60 * 1125899906842624 ∧ 0 ≤ owTo rs k ∧ owTo rs k ≤ 60 * 1125899906842624 := by
  have e1 : sumTo ps k ≤ ((ps.take k).map (·.2)).length * 1125899906842624 := sum_le_60 fun y hy => by
    obtain ⟨x, hx, rfl⟩ := List.mem_map.1 hy
    exact (h.pos x (List.mem_of_mem_take hx)).2
  have e2 : owTo rs k ≤ ((rs.take k).map owes).length * 1125899906842624 := sum_le_60 fun y hy => by
    obtain ⟨x, hx, rfl⟩ := List.mem_map.1 hy
    have := h.am x (List.mem_of_mem_take hx)
    unfold owes
    split <;> omega
  have e3 : 0 ≤ sumTo ps k := sum_nonneg fun y hy => by
    obtain ⟨x, hx, rfl⟩ := List.mem_map.1 hy
    have := h.pos x (List.mem_of_mem_take hx)
    omega
  have e4 : 0 ≤ owTo rs k := sum_nonneg fun y hy => by
    obtain ⟨x, hx, rfl⟩ := List.mem_map.1 hy
    have := h.am x (List.mem_of_mem_take hx)
    unfold owes
    split <;> omega
  rw [List.length_map, List.length_take] at e1 e2
  have := h.lp
  have := h.lr
  omega
/-- What a walk may ask of a peg's rows, wherever it stands. -/
structure PegRows (B : Nat) (W : World) (s : PegS) (X : Option Addr) (x : Nat) (Z : Option Addr) (a : Nat) : Prop where
  p : FSl encP 2 W B X x s.2.1
  r : FSl encR 3 W B Z a s.2.2.2
theorem PegAt.rows {N : Nat} {W : World} {l : Int} {s : PegS} {X : Option Addr} {x y : Nat} {Y : Option Addr} {z u : Nat} {Z : Option Addr} {a t : Nat} (h : PegAt N W (.agg #[.int .i64 l, .slice X x y, .slice Y z u, .slice Z a t]) s) : PegRows W.heap.size W s X x Z a := by
  obtain ⟨A1', n1', c1', A2', n2', c2', A3', n3', c3', e, h1, h2, h3, -⟩ := h
  unfold pegV at e
  simp at e
  obtain ⟨rfl, ⟨rfl, rfl, rfl⟩, ⟨rfl, rfl, rfl⟩, ⟨rfl, rfl, rfl⟩⟩ := e
  exact ⟨h1, h3⟩
set_option maxHeartbeats 40000000 in
set_option maxRecDepth 100000 in
theorem backed_any (w : World) (A0 : Option Addr) (n0 c0 : Nat) (zs0 : List Int) (A1 : Option Addr) (n1 c1 : Nat) (zs1 : List Int) (A2 : Option Addr) (n2 c2 : Nat) (zs2 : List Int) (A3 : Option Addr) (n3 c3 : Nat) (zs3 : List Int)
    (h0 : ISl w w.heap.size A0 n0 zs0) (h1 : ISl w w.heap.size A1 n1 zs1) (h2 : ISl w w.heap.size A2 n2 zs2) (h3 : ISl w w.heap.size A3 n3 zs3) :
    Calls Try.prog 4 #[.slice A0 n0 c0, .slice A1 n1 c1, .slice A2 n2 c2, .slice A3 n3 c3] w (LawPost w) := by
  have H0 := aside h0
  have H1 := aside h1
  have H2 := aside h2
  have H3 := aside h3
  clear h0 h1 h2 h3
  by_cases hn : n0 ≤ 40
  · have HN := aside hn
    have hn' : ¬ ((40 : Int) < (n0 : Int)) := by omega
    clear hn
    go_enter Try.func4, Try.ntmps4
    go_wp2_with (first
      | (go_at_call 5; refine (pegged_any _).mono ?_; rintro e w1 ⟨rfl, hb⟩; have HB1 := aside hb; clear hb)
      | (go_at_call 10; (refine (done_any emptyS zeroPeg good_empty w1 (zero_at 0 w1) A0 n0 c0 zs0 A1 n1 c1 zs1 A2 n2 c2 zs2 A3 n3 c3 zs3 (Sl.more (Sl.below H0.out HB1.out) HB1.out.size) (Sl.more (Sl.below H1.out HB1.out) HB1.out.size) (Sl.more (Sl.below H2.out HB1.out) HB1.out.size) (Sl.more (Sl.below H3.out HB1.out) HB1.out.size) HN.out).mono ?_; rintro e w2 ⟨v', s, rfl, hg, hp, hb⟩; have HB2 := aside (HB1.out.trans (hb.mono HB1.out.size)); have HG := aside hg; have HP := aside hp; have hagg := hp.agg; obtain ⟨X, x, y, Y, z, u, Z, a, t, rfl⟩ := hagg; obtain ⟨l, hl⟩ : ∃ l, l = s.1 := ⟨_, rfl⟩; rw [← hl] at HP ⊢; have HL := aside hl; clear hb hp hg hl))
      | fail)
    have HF : Hid (checkS s = 0) := aside (pegQ_zero.2 HG.out.1)
    have HFit : Hid (Fit s.1 s.2.1 s.2.2.1 s.2.2.2) := aside HG.out.1
    have AT0 := aside (AtP.first w2 (.int .i64 l) (.slice X x y) (.slice Y z u) (.slice Z a t))
    change Code.wp _ _ _ _ (w2.alloc (.cells #[.int .i64 l, .slice X x y, .slice Y z u, .slice Z a t] 26))
    generalize w2.alloc (.cells #[.int .i64 l, .slice X x y, .slice Y z u, .slice Z a t] 26) = w3 at AT0 ⊢
    have HHas : Hid (∀ k m W, amtS k s.2.1 = m → Below w2.heap.size w2 W → Calls Try.prog 9 #[.agg #[.int .i64 l, .slice X x y, .slice Y z u, .slice Z a t], .int .i64 k] W (fun e w' => e = .returned (.tuple #[.int .i64 m, .nilIface]) ∧ Below W.heap.size W w')) := aside (fun k m W hm hW => by
      have h := has_any s _ k W (HP.out.below hW)
      unfold hasV at h
      rw [HF.out, if_pos rfl, hm] at h
      exact h)
    have HCk : Hid (∀ W, Below w2.heap.size w2 W → Calls Try.prog 11 #[.agg #[.int .i64 l, .slice X x y, .slice Y z u, .slice Z a t]] W (fun e w' => e = .returned .nilIface ∧ Below W.heap.size W w')) := aside (fun W hW => by
      have h := check_at s _ W (HP.out.below hW)
      rw [HF.out] at h
      exact h)
    have HRW : Hid (∀ W, Below w2.heap.size w2 W → PegRows W.heap.size W s X x Z a) := aside (fun W hW => (HP.out.below hW).rows)
    obtain ⟨-, hx, -, ha⟩ := HP.out.lens
    obtain ⟨s0, ps, is, rs⟩ := s
    dsimp only at hx ha HL HFit
    have HX := aside hx
    have HA := aside ha
    have HX60 : Hid (x ≤ 60 ∧ a ≤ 60) := aside (by have := HFit.out.lp; have := HFit.out.lr; omega)
    clear hx ha HN H0 H1 H2 H3
    go_wp2_with fail
    go_loopw [11, 12] (fun v11 v12 wr => ∃ i : Nat, i ≤ x ∧ v11 = .int .i64 (sumTo ps i) ∧ v12 = .int .i64 i ∧ Hid (AtP w2 wr (.int .i64 l) (.slice X x y) (.slice Y z u) (.slice Z a t))) (fun _ v12 _ => x - (Go.RowKit.intOf v12).toNat)
    case atStart => exact ⟨0, by omega, rfl, rfl, AT0⟩
    case round =>
      clear AT0
      obtain ⟨i, hi, rfl, rfl, AT⟩ := hrel
      have p3 := AT.out.cells
      obtain ⟨⟨e0, e1, e2, e3⟩, -⟩ := p3
      by_cases k0 : i < x
      · obtain ⟨b, o, hXe, hb, hc⟩ := FSl.at_ encP_len (by decide) (0, 0) (HRW.out _ AT.out.below).p k0
        dsimp only at hc
        have hst := sumTo_step (ps := ps) (k := i) (by have := HX.out; omega)
        have ham := amt_at HFit.out.ap (k := i) (by have := HX.out; omega)
        have hps := HFit.out.pos _ (getD_mem (0, 0) (show i < ps.length by have := HX.out; omega))
        obtain ⟨⟨k, m⟩, hy⟩ : ∃ q : Int × Int, q = ps.getD i (0, 0) := ⟨_, rfl⟩
        rw [← hy] at hc hst ham hps
        have c0 := hc 0 (.int .i64 k) rfl
        have c1 := hc 1 (.int .i64 m) rfl
        dsimp only at hst ham hps
        have hsb := HFit.out.sums i
        have HST := aside hst
        have hx60 := HX60.out
        have hw : IntKind.i64.wrap (sumTo ps i + m) = sumTo ps i + m := by rw [IntKind.wrap_i64]; omega
        have hw1 : IntKind.i64.wrap ((i : Int) + 1) = (i : Int) + 1 := by rw [IntKind.wrap_i64]; omega
        have hm1 : ¬ m < 1 := by omega
        subst hXe
        have HLT := aside hb
        have i0 : (i : Int) < (x : Int) := by omega
        have HC0 := aside c0
        have HC1 := aside c1
        have HAM := aside ham
        rw [Nat.add_zero] at c0
        clear hc hst hps hsb hy ham c1
        go_wp2_with fail
        have HSB : Hid (∀ W', Below wr.heap.size wr W' → (W'.cell? ⟨w2.heap.size, 0, none⟩ = some (.int .i64 l) ∧ W'.cell? ⟨w2.heap.size, 1, none⟩ = some (.slice (some ⟨b, o, none⟩) x y) ∧ W'.cell? ⟨w2.heap.size, 2, none⟩ = some (.slice Y z u) ∧ W'.cell? ⟨w2.heap.size, 3, none⟩ = some (.slice Z a t)) ∧ W'.cell? ⟨b, o + i * 2, none⟩ = some (.int .i64 k)) := aside (fun W' hbl => ⟨(AT.out.step hbl).cells.1, (hbl.cell (p := ⟨b, o + i * 2, none⟩) HLT.out).trans (by have := HC0.out; rwa [Nat.add_zero] at this)⟩)
        have HS0 := HSB.out wr.drew (below_drew1 (Below.refl _ _))
        go_region_held3 (fun w' => (w'.cell? ⟨w2.heap.size, 0, none⟩ = some (.int .i64 l) ∧ w'.cell? ⟨w2.heap.size, 1, none⟩ = some (.slice (some ⟨b, o, none⟩) x y) ∧ w'.cell? ⟨w2.heap.size, 2, none⟩ = some (.slice Y z u) ∧ w'.cell? ⟨w2.heap.size, 3, none⟩ = some (.slice Z a t)) ∧ w'.cell? ⟨b, o + i * 2, none⟩ = some (.int .i64 k))
          (with_reducible (first | exact HS0 | exact HS2))
          (first | (go_at_call 9; refine ((HHas.out k m _ HAM.out (below_drew1 AT.out.below)).mono ?_); rintro e w4 ⟨rfl, hb2⟩; have hbw := below_drew0 hb2; have AT4 := aside (AT.out.step hbw); have c4 := (hbw.cell (p := ⟨b, o + i * 2 + 1, none⟩) HLT.out).trans HC1.out; have HS2 := HSB.out w4 hbw; skip))
        have p4 := AT4.out.cells
        obtain ⟨⟨g0, g1, g2, g3⟩, -⟩ := p4
        clear HS0 HS2 e0 e2 e3 e1 c0 hbw hb2
        go_wp2
        refine ⟨⟨i + 1, k0, ?_, rfl, AT4⟩, ?_⟩
        · rw [HST.out]
        · show x - ((i : Int) + 1).toNat < x - (i : Int).toNat
          omega
      · have hix : i = x := by omega
        subst hix
        have hnx : ¬ ((i : Int) < (i : Int)) := by omega
        clear k0 hi hnx
        go_wp2_with fail
        go_loopw [11, 15] (fun v11 v15 wq => ∃ j : Nat, j ≤ a ∧ v11 = .int .i64 (sumTo ps i + owTo rs j) ∧ v15 = .int .i64 j ∧ wq = wr) (fun _ v15 _ => a - (Go.RowKit.intOf v15).toNat)
        case atStart => exact ⟨0, by omega, by rw [show owTo rs 0 = 0 from rfl, Int.add_zero], rfl, rfl⟩
        case round =>
          obtain ⟨j, hj, rfl, rfl, hwq⟩ := hrel
          try subst hwq
          by_cases j0 : j < a
          · obtain ⟨b, o, hZe, hb, hc⟩ := FSl.at_ encR_len (by decide) (0, 0, false) (HRW.out _ AT.out.below).r j0
            dsimp only at hc
            have hst := owTo_step (rs := rs) (k := j) (by have := HA.out; omega)
            have hps := HFit.out.am _ (getD_mem (0, 0, false) (show j < rs.length by have := HA.out; omega))
            obtain ⟨⟨k, m, pd⟩, hy⟩ : ∃ q : Int × Int × Bool, q = rs.getD j (0, 0, false) := ⟨_, rfl⟩
            rw [← hy] at hc hst hps
            have c1 := hc 1 (.int .i64 m) rfl
            have c2 := hc 2 (.bool pd) rfl
            dsimp only at hps
            have hs1 := (HFit.out.sums i).1
            have hs2 := (HFit.out.sums i).2.1
            have hs3 := (HFit.out.sums j).2.2
            have hx60 := HX60.out
            have hw : IntKind.i64.wrap (sumTo ps i + owTo rs j + m) = sumTo ps i + owTo rs j + m := by rw [IntKind.wrap_i64]; omega
            have hw1 : IntKind.i64.wrap ((j : Int) + 1) = (j : Int) + 1 := by rw [IntKind.wrap_i64]; omega
            subst hZe
            have i0 : (j : Int) < (a : Int) := by omega
            clear hc hps hs1 hs2 hs3 hy hx60
            cases pd
            · rw [show owes (k, m, false) = m from rfl] at hst
              have HST := aside hst
              clear hst
              go_wp2
              refine ⟨⟨j + 1, j0, ?_, rfl, by trivial⟩, ?_⟩
              · rw [HST.out, Int.add_assoc]
              · show a - ((j : Int) + 1).toNat < a - (j : Int).toNat
                omega
            · rw [show owes (k, m, true) = 0 from rfl, Int.add_zero] at hst
              have HST := aside hst
              clear hst hw
              go_wp2
              refine ⟨⟨j + 1, j0, ?_, rfl, by trivial⟩, ?_⟩
              · rw [HST.out]
              · show a - ((j : Int) + 1).toNat < a - (j : Int).toNat
                omega
          · have hja : j = a := by omega
            subst hja
            have hnx : ¬ ((j : Int) < (j : Int)) := by omega
            have hsum : sumTo ps i + owTo rs j = l := by
              have h1 := HFit.out.sum
              have h2 := HX.out
              have h3 := HA.out
              have h4 := HL.out
              subst h2 h3
              unfold sumTo owTo
              rw [List.take_length, List.take_length]
              exact h1.trans h4.symm
            rw [hsum]
            clear hsum j0 hj
            go_wp2_with (first
              | (go_at_call 11; refine (HCk.out _ AT.out.below).mono ?_; rintro e w5 ⟨rfl, hb5⟩; have HB5 := aside hb5; clear hb5)
              | fail)
            go_ret
            exact ⟨rfl, (HB2.out.trans (AT.out.below.mono HB2.out.size)).trans (HB5.out.mono (Nat.le_trans HB2.out.size AT.out.below.size))⟩
  · have hn' : (40 : Int) < (n0 : Int) := by omega
    clear hn
    go_enter Try.func4, Try.ntmps4
    go_wp2_with (first
      | (go_at_call 5; refine (pegged_any _).mono ?_; rintro e w1 ⟨rfl, hb⟩; have HB1 := aside hb; clear hb)
      | fail)
    go_ret
    exact ⟨rfl, HB1.out⟩
end Go.Proofs.Ytcmlhopidohimaa
