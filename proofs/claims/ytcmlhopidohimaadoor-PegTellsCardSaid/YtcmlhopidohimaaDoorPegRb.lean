/- The reference's check of a peg: PegFault, begun. Conditions: named in each theorem. -/
import Derived.Test.YtcmlhopidohimaaDoorPegRa
import Derived.Deep.RegionHeld3
import Derived.Deep.CutRange
namespace Go.Proofs.YtcmlhopidohimaaDoor
open Go.RowKit Go.ChangeShapes Go.WideShapes Go.ChangeAt

theorem drew_at {w W : World} {v0 v1 v2 v3 : Value} (h : AtP w W v0 v1 v2 v3) : AtP w W.drew v0 v1 v2 v3 := ⟨below_drew1 h.below, h.box⟩

theorem amtE_of_money {m : Int} (h : moneyE m ≠ 0) : amtE m = 2 := by
  have h1 := mt moneyE_zero.2 h
  unfold amtE
  rw [if_pos (by omega)]
theorem moneyE_two {m : Int} (h : moneyE m ≠ 0) : moneyE m = 2 := by
  unfold moneyE at h ⊢
  split
  · rfl
  · rename_i h1
    rw [if_neg h1] at h
    exact absurd rfl h
theorem sumP_bd {ps : List (Int × Int)} : ∀ {i : Nat}, firstE (pileE ps) i = 0 → i ≤ ps.length → 0 ≤ sumP ps i ∧ sumP ps i ≤ i * 1125899906842624 := by
  intro i
  induction i with
  | zero => intro _ _; exact ⟨Int.le_refl _, Int.le_refl _⟩
  | succ i ih =>
    intro h hi
    have hz := firstE_zero.1 h
    obtain ⟨h1, h2⟩ := ih (firstE_zero.2 fun k hk => hz k (by omega)) (by omega)
    have h3 := hz i (by omega)
    have h4 : amtE (ps.getD i (0, 0)).2 = 0 := by
      unfold pileE at h3
      by_cases hr : risE keyP (0, 0) ps i = 0
      · rwa [if_neg (by simp [hr])] at h3
      · rw [if_pos hr] at h3; cases h3
    have h5 := amtE_zero.1 h4
    rw [sumP_next ps (by omega), Int.natCast_succ, Int.add_mul]
    omega
theorem sumR_bd {rs : List (Int × Int × Bool)} : ∀ {i : Nat}, firstE (retE rs) i = 0 → i ≤ rs.length → 0 ≤ sumR rs i ∧ sumR rs i ≤ i * 1125899906842624 := by
  intro i
  induction i with
  | zero => intro _ _; exact ⟨Int.le_refl _, Int.le_refl _⟩
  | succ i ih =>
    intro h hi
    have hz := firstE_zero.1 h
    obtain ⟨h1, h2⟩ := ih (firstE_zero.2 fun k hk => hz k (by omega)) (by omega)
    have h3 := hz i (by omega)
    have h4 : moneyE (rs.getD i (0, 0, false)).2.1 = 0 := by
      unfold retE at h3
      by_cases hr : risE keyR (0, 0, false) rs i = 0
      · rwa [if_neg (by simp [hr])] at h3
      · rw [if_pos hr] at h3; cases h3
    have h5 := moneyE_zero.1 h4
    have h6 : 0 ≤ owes (rs.getD i (0, 0, false)) ∧ owes (rs.getD i (0, 0, false)) ≤ 1125899906842624 := by
      unfold owes
      split <;> omega
    rw [sumR_next rs (by omega), Int.natCast_succ, Int.add_mul]
    omega

set_option maxHeartbeats 40000000 in
set_option maxRecDepth 100000 in
theorem fault_any (s : PegS) (v : Value) {N : Nat} (w : World) (h : PegAt N w v s) :
    Calls Tryd.prog 5 #[v] w (fun e w' => e = .returned (.int .i64 (checkS s)) ∧ Below w.heap.size w w') := by
  obtain ⟨l, A1, n1, c1, A2, n2, c2, A3, n3, c3, rfl, hl, hl1, hl2, hl3, h1, h2, h3⟩ := peg_open h
  obtain ⟨l0, ps, is, rs⟩ := s
  dsimp only at hl hl1 hl2 hl3 h1 h2 h3 ⊢
  have AT0 := aside (AtP.first w (.int .i64 l) (.slice A1 n1 c1) (.slice A2 n2 c2) (.slice A3 n3 c3))
  have HL : Hid (n1 = ps.length ∧ n2 = is.length ∧ n3 = rs.length) := aside ⟨hl1, hl2, hl3⟩
  have HP := aside h1
  have HI2 := aside h2
  have HR := aside h3
  obtain ⟨Q, hQ⟩ : ∃ Q, Q = checkS (l0, ps, is, rs) := ⟨_, rfl⟩
  rw [← hQ]
  have hq0 : Q = if 60 < n1 ∨ 60 < n2 ∨ 60 < n3 then 4 else if firstE (pileE ps) n1 ≠ 0 then firstE (pileE ps) n1 else if firstE (risE keyI 0 is) n2 ≠ 0 then 6 else if firstE (retE rs) n3 ≠ 0 then firstE (retE rs) n3 else if sumP ps n1 + sumR rs n3 ≠ l then 9 else 0 := by
    rw [hQ, hl1, hl2, hl3, hl]
    rfl
  have HQ := aside hq0
  clear h h1 h2 h3 hl hl1 hl2 hl3 hQ hq0
  by_cases big : 60 < n1 ∨ 60 < n2 ∨ 60 < n3
  · have hq := HQ.out
    rw [if_pos big] at hq
    subst hq
    have ATx := AT0
    by_cases b1 : 60 < n1
    · have b1' : (60 : Int) < (n1 : Int) := by omega
      clear big HQ
      go_enter Tryd.func5, Tryd.ntmps5
      go_wp2
      go_ret
      exact ⟨rfl, AT0.out.below⟩
    · have b1' : ((60 : Int) < (n1 : Int)) = False := by simp only [eq_iff_iff, iff_false]; omega
      by_cases b2 : 60 < n2
      · have b2' : (60 : Int) < (n2 : Int) := by omega
        clear big HQ
        go_enter Tryd.func5, Tryd.ntmps5
        go_wp2
        go_ret
        exact ⟨rfl, AT0.out.below⟩
      · have b2' : ((60 : Int) < (n2 : Int)) = False := by simp only [eq_iff_iff, iff_false]; omega
        have b3' : (60 : Int) < (n3 : Int) := by omega
        clear big HQ
        go_enter Tryd.func5, Tryd.ntmps5
        go_wp2
        go_ret
        exact ⟨rfl, AT0.out.below⟩
  · have HQ1 : Hid (Q = if firstE (pileE ps) n1 ≠ 0 then firstE (pileE ps) n1 else if firstE (risE keyI 0 is) n2 ≠ 0 then 6 else if firstE (retE rs) n3 ≠ 0 then firstE (retE rs) n3 else if sumP ps n1 + sumR rs n3 ≠ l then 9 else 0) := aside (HQ.out.trans (if_neg big))
    have HEarly : Hid (∀ i, i < n1 → firstE (pileE ps) i = 0 → ∀ q, pileE ps i = q → q ≠ 0 → Q = q) := aside (fun i hi h0 q hq hn => by
      have h5 := firstE_at hi h0 (by rw [hq]; exact hn)
      rw [HQ1.out, h5, hq, if_pos hn])
    have b1' : ((60 : Int) < (n1 : Int)) = False := by simp only [eq_iff_iff, iff_false]; omega
    have b2' : ((60 : Int) < (n2 : Int)) = False := by simp only [eq_iff_iff, iff_false]; omega
    have b3' : ((60 : Int) < (n3 : Int)) = False := by simp only [eq_iff_iff, iff_false]; omega
    have b1n : n1 ≤ 60 := by omega
    have b3n : n3 ≤ 60 := by omega
    have b2n : n2 ≤ 60 := by omega
    clear big HQ
    go_enter Tryd.func5, Tryd.ntmps5
    go_wp2
    change Code.wp _ _ _ _ (w.alloc (.cells #[.int .i64 l, .slice A1 n1 c1, .slice A2 n2 c2, .slice A3 n3 c3] 26))
    generalize w.alloc (.cells #[.int .i64 l, .slice A1 n1 c1, .slice A2 n2 c2, .slice A3 n3 c3] 26) = wb at AT0 ⊢
    clear b1' b2' b3'
    go_loopw [3, 4] (fun v3 v4 wr => ∃ i : Nat, i ≤ n1 ∧ v3 = .int .i64 (sumP ps i) ∧ v4 = .int .i64 i ∧ Hid (AtP w wr (.int .i64 l) (.slice A1 n1 c1) (.slice A2 n2 c2) (.slice A3 n3 c3)) ∧ Hid (firstE (pileE ps) i = 0)) (fun _ v4 _ => n1 - (Go.RowKit.intOf v4).toNat)
    case atStart => exact ⟨0, by omega, rfl, rfl, AT0, aside rfl⟩
    case round =>
      clear AT0
      obtain ⟨i, hi, rfl, rfl, AT, HI⟩ := hrel
      have pc := AT.out.cells
      obtain ⟨⟨e0, e1, e2, e3⟩, -⟩ := pc
      by_cases hin : i < n1
      · obtain ⟨b, o, hXe, hb, hc⟩ := FSl.at_ encP_len (by decide) (0, 0) (FSl.below HP.out AT.out.below) hin
        obtain ⟨⟨k, m⟩, hy⟩ : ∃ q : Int × Int, q = ps.getD i (0, 0) := ⟨_, rfl⟩
        rw [← hy] at hc
        have HY := aside hy
        have c0 := hc 0 (.int .i64 k) rfl
        have c1' := hc 1 (.int .i64 m) rfl
        skip
        rw [Nat.add_zero] at c0
        clear hc hy
        obtain ⟨B, hB⟩ : ∃ B : Bool, B = decide (0 < i ∧ k ≤ keyP (ps.getD (i - 1) (0, 0))) := ⟨_, rfl⟩
        have HBB := aside hB
        have HLT : Hid (b < wr.heap.size) := aside (Nat.lt_of_lt_of_le hb AT.out.below.size)
        have hx := hXe
        clear hb
        have i0 : (i : Int) < (n1 : Int) := by omega
        have C0 := aside c0
        have C1 := aside c1'
        skip
        subst hXe
        clear c0 c1'  hB
        go_upto_region 7 with fail
        go_cut [47] from 23 to 72 (fun v wx => v = .bool B ∧ Hid (AtP w wx (.int .i64 l) (.slice (some ⟨b, o, none⟩) n1 c1) (.slice A2 n2 c2) (.slice A3 n3 c3)) ∧ Hid (wx.cell? ⟨b, o + i * 2 + 1, none⟩ = some (.int .i64 m)))
        case first =>
          have HFIN : Hid (∀ X, Below wr.heap.size wr X → AtP w X (.int .i64 l) (.slice (some ⟨b, o, none⟩) n1 c1) (.slice A2 n2 c2) (.slice A3 n3 c3) ∧ X.cell? ⟨b, o + i * 2 + 1, none⟩ = some (.int .i64 m)) := aside (fun X hX => ⟨AT.out.step hX, (hX.cell (p := ⟨b, o + i * 2 + 1, none⟩) HLT.out).trans C1.out⟩)
          have hD : Below wr.heap.size wr wr.drew := below_drew1 (Below.refl _ _)
          have HFD := aside (HFIN.out _ hD)
          by_cases h0 : i = 0
          · subst h0
            have hBf : B = false := by rw [HBB.out]; exact decide_eq_false (fun h => absurd h.1 (Nat.lt_irrefl 0))
            have HBf := aside hBf
            clear hBf hD hi hin i0
            go_region
            go_wp2_with fail
            go_meet
            exact ⟨by rw [HBf.out], aside HFD.out.1, aside HFD.out.2⟩
          · obtain ⟨j, hj⟩ : ∃ j, i = j + 1 := ⟨i - 1, by omega⟩
            obtain ⟨b', o', e, -, hc⟩ := FSl.at_ (k := j) encP_len (by decide) (0, 0) (FSl.below HP.out AT.out.below) (by omega)
            injection e with e
            injection e with e1 e2
            subst e1 e2
            obtain ⟨⟨kz, mz⟩, hz⟩ : ∃ q : Int × Int, q = ps.getD j (0, 0) := ⟨_, rfl⟩
            rw [← hz] at hc
            have d0 := hc 0 (.int .i64 kz) rfl
            rw [Nat.add_zero] at d0
            have hBe : B = decide (k ≤ kz) := by
              rw [HBB.out, hj, Nat.add_sub_cancel, ← hz]
              exact decide_eq_decide.2 ⟨fun h => h.2, fun h => ⟨Nat.succ_pos j, h⟩⟩
            have HBe := aside hBe
            have HSS : Hid (∀ X, Below wr.heap.size wr X → X.cell? ⟨w.heap.size, 0, none⟩ = some (.int .i64 l) ∧ X.cell? ⟨w.heap.size, 1, none⟩ = some (.slice (some ⟨b, o, none⟩) n1 c1) ∧ X.cell? ⟨w.heap.size, 2, none⟩ = some (.slice A2 n2 c2) ∧ X.cell? ⟨w.heap.size, 3, none⟩ = some (.slice A3 n3 c3) ∧ X.cell? ⟨b, o + i * 2, none⟩ = some (.int .i64 k) ∧ X.cell? ⟨b, o + j * 2, none⟩ = some (.int .i64 kz)) := aside (fun X hX => ⟨(AT.out.step hX).cells.1.1, (AT.out.step hX).cells.1.2.1, (AT.out.step hX).cells.1.2.2.1, (AT.out.step hX).cells.1.2.2.2, (hX.cell (p := ⟨b, o + i * 2, none⟩) HLT.out).trans C0.out, (hX.cell (p := ⟨b, o + j * 2, none⟩) HLT.out).trans d0⟩)
            have HS0 := HSS.out _ hD
            have hw1 : IntKind.i64.wrap ((i : Int) - 1) = (j : Int) := by rw [IntKind.wrap_i64]; omega
            have hjn : (j : Int) < (n1 : Int) := by omega
            have hi0 : (0 : Int) < (i : Int) := by omega
            have hi0n : 0 < i := by omega
            have hjn' : j < n1 := by omega
            clear hc hz hBe hj h0 d0 hD
            go_region_held3 (fun X => X.cell? ⟨w.heap.size, 0, none⟩ = some (.int .i64 l) ∧ X.cell? ⟨w.heap.size, 1, none⟩ = some (.slice (some ⟨b, o, none⟩) n1 c1) ∧ X.cell? ⟨w.heap.size, 2, none⟩ = some (.slice A2 n2 c2) ∧ X.cell? ⟨w.heap.size, 3, none⟩ = some (.slice A3 n3 c3) ∧ X.cell? ⟨b, o + i * 2, none⟩ = some (.int .i64 k) ∧ X.cell? ⟨b, o + j * 2, none⟩ = some (.int .i64 kz))
              (with_reducible exact HS0)
              (fail)
            go_wp2_with fail
            go_meet
            exact ⟨by rw [HBe.out] <;> rfl, aside HFD.out.1, aside HFD.out.2⟩
        case rest =>
          obtain ⟨rfl, ATc, C1c⟩ := hcut
          clear C0 C1  AT HLT
          have hri : risE keyP (0, 0) ps i = if B = true then 6 else 0 := by
            unfold risE
            rw [← HY.out, HBB.out]
            simp only [decide_eq_true_eq]
            rfl
          have hE : pileE ps i = if B = true then 6 else amtE m := by
            unfold pileE
            rw [hri, ← HY.out]
            cases B <;> rfl
          have HE := aside hE
          clear hri hE HBB
          cases hB : B with
          | true =>
            subst hB
            have hq := HEarly.out i hin HI.out 6 (by rw [HE.out]; rfl) (by decide)
            have HQq := aside hq
            clear HEarly hq
            go_wp2
            go_ret
            exact ⟨by rw [HQq.out] <;> rfl, ATc.out.below⟩
          | false =>
            subst hB
            have hE2 : pileE ps i = amtE m := by rw [HE.out]; rfl
            have HE2 := aside hE2
            clear hE2 HE
            have pc := ATc.out.cells
            obtain ⟨⟨e0, e1, e2, e3⟩, -⟩ := pc
            have c1' := C1c.out
            by_cases hm : moneyE m = 0
            · have hd : decide (moneyE m = 0) = true := decide_eq_true hm
              have hM := moneyE_zero.1 hm
              by_cases hz : m = 0
              · have hq := HEarly.out i hin HI.out 2 (by rw [HE2.out, hz]; rfl) (by decide)
                have HQq := aside hq
                clear HEarly hq hm hM
                subst hz
                go_wp2_with (first | (go_at_call 19; refine (rmoney_any 0 _).mono ?_; rintro e w' ⟨rfl, rfl⟩; rw [hd]) | fail)
                go_ret
                exact ⟨by rw [HQq.out] <;> rfl, ATc.out.below⟩
              · have hz' : (m == 0) = false := by simpa using hz
                have hN : firstE (pileE ps) (i + 1) = 0 := by rw [firstE_next HI.out, HE2.out]; exact amtE_zero.2 (by omega)
                have HN := aside hN
                have hst : sumP ps (i + 1) = sumP ps i + m := by rw [sumP_next ps (by have := HL.out.1; omega), ← HY.out]
                have hbd := sumP_bd HI.out (by have := HL.out.1; omega)
                have HST := aside hst
                have hw : IntKind.i64.wrap (sumP ps i + m) = sumP ps i + m := by rw [IntKind.wrap_i64]; omega
                have hw1 : IntKind.i64.wrap ((i : Int) + 1) = (i : Int) + 1 := by rw [IntKind.wrap_i64]; omega
                clear hm hM hz hN hst hbd HEarly
                go_wp2_with (first | (go_at_call 19; refine (rmoney_any m _).mono ?_; rintro e w' ⟨rfl, rfl⟩; rw [hd]) | fail)
                exact ⟨⟨i + 1, by omega, by rw [HST.out], by rfl, ATc, HN⟩, by
                  show n1 - ((i : Int) + 1).toNat < n1 - (i : Int).toNat
                  omega⟩
            · have hd : decide (moneyE m = 0) = false := decide_eq_false hm
              have hq := HEarly.out i hin HI.out 2 (by rw [HE2.out]; exact amtE_of_money hm) (by decide)
              have HQq := aside hq
              clear HEarly hq hm
              go_wp2_with (first | (go_at_call 19; refine (rmoney_any m _).mono ?_; rintro e w' ⟨rfl, rfl⟩; rw [hd]) | fail)
              go_ret
              exact ⟨by rw [HQq.out] <;> rfl, ATc.out.below⟩
      · have hie : i = n1 := by omega
        subst hie
        have HI1 := HI
        have HQ2 : Hid (Q = if firstE (risE keyI 0 is) n2 ≠ 0 then 6 else if firstE (retE rs) n3 ≠ 0 then firstE (retE rs) n3 else if sumP ps i + sumR rs n3 ≠ l then 9 else 0) := aside (by have h := HQ1.out; rw [if_neg (by rw [HI.out]; decide)] at h; exact h)
        clear HEarly HQ1
        clear hin hi
        have ATx := AT
        go_wp2
        go_loopw [5] (fun v5 wr => ∃ q : Nat, 1 ≤ q ∧ (q ≤ n2 ∨ q = 1) ∧ v5 = .int .i64 q ∧ Hid (AtP w wr (.int .i64 l) (.slice A1 i c1) (.slice A2 n2 c2) (.slice A3 n3 c3)) ∧ Hid (firstE (risE keyI 0 is) q = 0)) (fun v5 _ => n2 - (Go.RowKit.intOf v5).toNat)
        case atStart => exact ⟨1, by omega, .inr rfl, rfl, ATx, aside rfl⟩
        case round =>
          clear AT ATx e0 e1 e2 e3
          obtain ⟨q, hq1, hq2, rfl, AT, HIq⟩ := hrel
          have pc := AT.out.cells
          obtain ⟨⟨e0, e1, e2, e3⟩, -⟩ := pc
          by_cases hqn : q < n2
          · obtain ⟨b, o, hXe, hb, hc⟩ := FSl.at_ encI_len (by decide) 0 (FSl.below HI2.out AT.out.below) hqn
            obtain ⟨j, hj⟩ : ∃ j, q = j + 1 := ⟨q - 1, by omega⟩
            obtain ⟨b', o', e, -, hc'⟩ := FSl.at_ (k := j) encI_len (by decide) 0 (FSl.below HI2.out AT.out.below) (by omega)
            rw [hXe] at e
            injection e with e
            injection e with e1' e2'
            subst e1' e2'
            obtain ⟨y, hy⟩ : ∃ y, y = is.getD q 0 := ⟨_, rfl⟩
            obtain ⟨z, hz⟩ : ∃ z, z = is.getD j 0 := ⟨_, rfl⟩
            rw [← hy] at hc
            rw [← hz] at hc'
            have c0 := hc 0 (.int .i64 y) rfl
            have d0 := hc' 0 (.int .i64 z) rfl
            rw [Nat.mul_one, Nat.add_zero] at c0 d0
            have hri : risE keyI 0 is q = if y ≤ z then 6 else 0 := by
              unfold risE
              rw [← hy, show is.getD (q - 1) 0 = z by rw [hz, hj, Nat.add_sub_cancel]]
              by_cases hyz : y ≤ z
              · rw [if_pos ⟨by omega, hyz⟩, if_pos hyz]
              · rw [if_neg (fun h => hyz h.2), if_neg hyz]
            have HRI := aside hri
            have hD : Below wr.heap.size wr wr.drew := below_drew1 (Below.refl _ _)
            have HLT : b < wr.heap.size := Nat.lt_of_lt_of_le hb AT.out.below.size
            have ATd := aside (drew_at AT.out)
            subst hXe
            have HS0 : wr.drew.cell? ⟨w.heap.size, 0, none⟩ = some (.int .i64 l) ∧ wr.drew.cell? ⟨w.heap.size, 1, none⟩ = some (.slice A1 i c1) ∧ wr.drew.cell? ⟨w.heap.size, 2, none⟩ = some (.slice (some ⟨b, o, none⟩) n2 c2) ∧ wr.drew.cell? ⟨w.heap.size, 3, none⟩ = some (.slice A3 n3 c3) ∧ wr.drew.cell? ⟨b, o + q, none⟩ = some (.int .i64 y) ∧ wr.drew.cell? ⟨b, o + j, none⟩ = some (.int .i64 z) := ⟨(AT.out.step hD).cells.1.1, (AT.out.step hD).cells.1.2.1, (AT.out.step hD).cells.1.2.2.1, (AT.out.step hD).cells.1.2.2.2, (hD.cell (p := ⟨b, o + q, none⟩) HLT).trans c0, (hD.cell (p := ⟨b, o + j, none⟩) HLT).trans d0⟩
            have hw1 : IntKind.i64.wrap ((q : Int) - 1) = (j : Int) := by rw [IntKind.wrap_i64]; omega
            have hw2 : IntKind.i64.wrap ((q : Int) + 1) = (q : Int) + 1 := by rw [IntKind.wrap_i64]; omega
            have hjn : (j : Int) < (n2 : Int) := by omega
            have hqn' : (q : Int) < (n2 : Int) := by omega
            have hjn' : j < n2 := by omega
            clear hc hc' hy hz hri c0 d0 hj hD hb HLT
            go_wp2_with fail
            go_region_held3 (fun X => X.cell? ⟨w.heap.size, 0, none⟩ = some (.int .i64 l) ∧ X.cell? ⟨w.heap.size, 1, none⟩ = some (.slice A1 i c1) ∧ X.cell? ⟨w.heap.size, 2, none⟩ = some (.slice (some ⟨b, o, none⟩) n2 c2) ∧ X.cell? ⟨w.heap.size, 3, none⟩ = some (.slice A3 n3 c3) ∧ X.cell? ⟨b, o + q, none⟩ = some (.int .i64 y) ∧ X.cell? ⟨b, o + j, none⟩ = some (.int .i64 z))
              (with_reducible exact HS0)
              (fail)
            by_cases hyz : y ≤ z
            · have HQq : Hid (Q = 6) := aside (by
                have h5 := firstE_at hqn HIq.out (by rw [HRI.out, if_pos hyz]; decide)
                rw [HRI.out, if_pos hyz] at h5
                have h := HQ2.out
                rw [if_pos (by rw [h5]; decide)] at h
                exact h)
              have hyz' := hyz
              go_wp2
              go_ret
              exact ⟨by rw [HQq.out] <;> rfl, ATd.out.below⟩
            · have HN : Hid (firstE (risE keyI 0 is) (q + 1) = 0) := aside (by rw [firstE_next HIq.out, HRI.out, if_neg hyz])
              go_wp2
              exact ⟨⟨q + 1, by omega, .inl hqn, by rfl, ATd, HN⟩, by
                show n2 - ((q : Int) + 1).toNat < n2 - (q : Int).toNat
                omega⟩
          · have hqx : ¬ ((q : Int) < (n2 : Int)) := by omega
            have HZ : firstE (risE keyI 0 is) n2 = 0 := by
              rcases hq2 with h | h
              · obtain rfl : q = n2 := by omega
                exact HIq.out
              · by_cases h0 : n2 = 0
                · rw [h0]; rfl
                · obtain rfl : q = n2 := by omega
                  exact HIq.out
            have HQ3 : Hid (Q = if firstE (retE rs) n3 ≠ 0 then firstE (retE rs) n3 else if sumP ps i + sumR rs n3 ≠ l then 9 else 0) := aside (by have h := HQ2.out; rw [if_neg (by rw [HZ]; decide)] at h; exact h)
            have HEarly : Hid (∀ i, i < n3 → firstE (retE rs) i = 0 → ∀ q, retE rs i = q → q ≠ 0 → Q = q) := aside (fun i hi h0 q hq hn => by
              have h5 := firstE_at hi h0 (by rw [hq]; exact hn)
              rw [HQ3.out, h5, hq, if_pos hn])
            clear HQ2 HZ hqn hq1 hq2 HIq
            have ATx := AT
            obtain ⟨n1, hn1⟩ : ∃ n1, n1 = i := ⟨_, rfl⟩
            rw [← hn1] at HI1 HQ3 HL HP AT ATx e1 b1n ⊢
            clear hn1 HI
            go_wp2_with fail
            go_loopw [3, 6] (fun v3 v6 wr => ∃ i : Nat, i ≤ n3 ∧ v3 = .int .i64 (sumP ps n1 + sumR rs i) ∧ v6 = .int .i64 i ∧ Hid (AtP w wr (.int .i64 l) (.slice A1 n1 c1) (.slice A2 n2 c2) (.slice A3 n3 c3)) ∧ Hid (firstE (retE rs) i = 0)) (fun _ v6 _ => n3 - (Go.RowKit.intOf v6).toNat)
            case atStart => exact ⟨0, by omega, by rw [show sumR rs 0 = 0 from rfl, Int.add_zero], rfl, ATx, aside rfl⟩
            case round =>
              clear AT ATx e0 e1 e2 e3
              obtain ⟨i, hi, rfl, rfl, AT, HI⟩ := hrel
              have pc := AT.out.cells
              obtain ⟨⟨e0, e1, e2, e3⟩, -⟩ := pc
              by_cases hin : i < n3
              · obtain ⟨b, o, hXe, hb, hc⟩ := FSl.at_ encR_len (by decide) (0, 0, false) (FSl.below HR.out AT.out.below) hin
                obtain ⟨⟨k, m, pd⟩, hy⟩ : ∃ q : Int × Int × Bool, q = rs.getD i (0, 0, false) := ⟨_, rfl⟩
                rw [← hy] at hc
                have HY := aside hy
                have c0 := hc 0 (.int .i64 k) rfl
                have c1' := hc 1 (.int .i64 m) rfl
                have c2' := hc 2 (.bool pd) rfl
                rw [Nat.add_zero] at c0
                clear hc hy
                obtain ⟨B, hB⟩ : ∃ B : Bool, B = decide (0 < i ∧ k ≤ keyR (rs.getD (i - 1) (0, 0, false))) := ⟨_, rfl⟩
                have HBB := aside hB
                have HLT : Hid (b < wr.heap.size) := aside (Nat.lt_of_lt_of_le hb AT.out.below.size)
                have hx := hXe
                clear hb
                have i0 : (i : Int) < (n3 : Int) := by omega
                have C0 := aside c0
                have C1 := aside c1'
                have C2 := aside c2'
                subst hXe
                clear c0 c1' c2' hB
                go_upto_region 20 with fail
                go_cut [116] from 92 to 139 (fun v wx => v = .bool B ∧ Hid (AtP w wx (.int .i64 l) (.slice A1 n1 c1) (.slice A2 n2 c2) (.slice (some ⟨b, o, none⟩) n3 c3)) ∧ Hid (wx.cell? ⟨b, o + i * 3 + 1, none⟩ = some (.int .i64 m)) ∧ Hid (wx.cell? ⟨b, o + i * 3 + 2, none⟩ = some (.bool pd)))
                case first =>
                  have HFIN : Hid (∀ X, Below wr.heap.size wr X → AtP w X (.int .i64 l) (.slice A1 n1 c1) (.slice A2 n2 c2) (.slice (some ⟨b, o, none⟩) n3 c3) ∧ X.cell? ⟨b, o + i * 3 + 1, none⟩ = some (.int .i64 m) ∧ X.cell? ⟨b, o + i * 3 + 2, none⟩ = some (.bool pd)) := aside (fun X hX => ⟨AT.out.step hX, (hX.cell (p := ⟨b, o + i * 3 + 1, none⟩) HLT.out).trans C1.out, (hX.cell (p := ⟨b, o + i * 3 + 2, none⟩) HLT.out).trans C2.out⟩)
                  have hD : Below wr.heap.size wr wr.drew := below_drew1 (Below.refl _ _)
                  have HFD := aside (HFIN.out _ hD)
                  by_cases h0 : i = 0
                  · subst h0
                    have hBf : B = false := by rw [HBB.out]; exact decide_eq_false (fun h => absurd h.1 (Nat.lt_irrefl 0))
                    have HBf := aside hBf
                    clear hBf hD hi hin i0
                    go_region
                    go_wp2_with fail
                    go_meet
                    exact ⟨by rw [HBf.out], aside HFD.out.1, aside HFD.out.2.1, aside HFD.out.2.2⟩
                  · obtain ⟨j, hj⟩ : ∃ j, i = j + 1 := ⟨i - 1, by omega⟩
                    obtain ⟨b', o', e, -, hc⟩ := FSl.at_ (k := j) encR_len (by decide) (0, 0, false) (FSl.below HR.out AT.out.below) (by omega)
                    injection e with e
                    injection e with e1 e2
                    subst e1 e2
                    obtain ⟨⟨kz, mz⟩, hz⟩ : ∃ q : Int × Int × Bool, q = rs.getD j (0, 0, false) := ⟨_, rfl⟩
                    rw [← hz] at hc
                    have d0 := hc 0 (.int .i64 kz) rfl
                    rw [Nat.add_zero] at d0
                    have hBe : B = decide (k ≤ kz) := by
                      rw [HBB.out, hj, Nat.add_sub_cancel, ← hz]
                      exact decide_eq_decide.2 ⟨fun h => h.2, fun h => ⟨Nat.succ_pos j, h⟩⟩
                    have HBe := aside hBe
                    have HSS : Hid (∀ X, Below wr.heap.size wr X → X.cell? ⟨w.heap.size, 0, none⟩ = some (.int .i64 l) ∧ X.cell? ⟨w.heap.size, 1, none⟩ = some (.slice A1 n1 c1) ∧ X.cell? ⟨w.heap.size, 2, none⟩ = some (.slice A2 n2 c2) ∧ X.cell? ⟨w.heap.size, 3, none⟩ = some (.slice (some ⟨b, o, none⟩) n3 c3) ∧ X.cell? ⟨b, o + i * 3, none⟩ = some (.int .i64 k) ∧ X.cell? ⟨b, o + j * 3, none⟩ = some (.int .i64 kz)) := aside (fun X hX => ⟨(AT.out.step hX).cells.1.1, (AT.out.step hX).cells.1.2.1, (AT.out.step hX).cells.1.2.2.1, (AT.out.step hX).cells.1.2.2.2, (hX.cell (p := ⟨b, o + i * 3, none⟩) HLT.out).trans C0.out, (hX.cell (p := ⟨b, o + j * 3, none⟩) HLT.out).trans d0⟩)
                    have HS0 := HSS.out _ hD
                    have hw1 : IntKind.i64.wrap ((i : Int) - 1) = (j : Int) := by rw [IntKind.wrap_i64]; omega
                    have hjn : (j : Int) < (n3 : Int) := by omega
                    have hi0 : (0 : Int) < (i : Int) := by omega
                    have hi0n : 0 < i := by omega
                    have hjn' : j < n3 := by omega
                    clear hc hz hBe hj h0 d0 hD
                    go_region_held3 (fun X => X.cell? ⟨w.heap.size, 0, none⟩ = some (.int .i64 l) ∧ X.cell? ⟨w.heap.size, 1, none⟩ = some (.slice A1 n1 c1) ∧ X.cell? ⟨w.heap.size, 2, none⟩ = some (.slice A2 n2 c2) ∧ X.cell? ⟨w.heap.size, 3, none⟩ = some (.slice (some ⟨b, o, none⟩) n3 c3) ∧ X.cell? ⟨b, o + i * 3, none⟩ = some (.int .i64 k) ∧ X.cell? ⟨b, o + j * 3, none⟩ = some (.int .i64 kz))
                      (with_reducible exact HS0)
                      (fail)
                    go_wp2_with fail
                    go_meet
                    exact ⟨by rw [HBe.out] <;> rfl, aside HFD.out.1, aside HFD.out.2.1, aside HFD.out.2.2⟩
                case rest =>
                  obtain ⟨rfl, ATc, C1c, C2c⟩ := hcut
                  clear C0 C1 C2 AT HLT
                  have hri : risE keyR (0, 0, false) rs i = if B = true then 6 else 0 := by
                    unfold risE
                    rw [← HY.out, HBB.out]
                    simp only [decide_eq_true_eq]
                    rfl
                  have hE : retE rs i = if B = true then 6 else moneyE m := by
                    unfold retE
                    rw [hri, ← HY.out]
                    cases B <;> rfl
                  have HE := aside hE
                  clear hri hE HBB
                  cases hB : B with
                  | true =>
                    subst hB
                    have hq := HEarly.out i hin HI.out 6 (by rw [HE.out]; rfl) (by decide)
                    have HQq := aside hq
                    clear HEarly hq
                    go_wp2
                    go_ret
                    exact ⟨by rw [HQq.out] <;> rfl, ATc.out.below⟩
                  | false =>
                    subst hB
                    have hE2 : retE rs i = moneyE m := by rw [HE.out]; rfl
                    have HE2 := aside hE2
                    clear hE2 HE
                    have pc := ATc.out.cells
                    obtain ⟨⟨e0, e1, e2, e3⟩, -⟩ := pc
                    have c1' := C1c.out
                    have c2' := C2c.out
                    by_cases hm : moneyE m = 0
                    · have hd : decide (moneyE m = 0) = true := decide_eq_true hm
                      have hM := moneyE_zero.1 hm
                      have hN : firstE (retE rs) (i + 1) = 0 := by rw [firstE_next HI.out, HE2.out]; exact hm
                      have HN := aside hN
                      have hst : sumR rs (i + 1) = sumR rs i + owes (k, m, pd) := by rw [sumR_next rs (by have := HL.out.2.2; omega), ← HY.out]
                      have hbd := sumR_bd HI.out (by have := HL.out.2.2; omega)
                      have hbp := sumP_bd HI1.out (by have := HL.out.1; omega)
                      have hw : IntKind.i64.wrap (sumP ps n1 + sumR rs i + m) = sumP ps n1 + sumR rs i + m := by rw [IntKind.wrap_i64]; omega
                      have hw1 : IntKind.i64.wrap ((i : Int) + 1) = (i : Int) + 1 := by rw [IntKind.wrap_i64]; omega
                      cases pd with
                      | true =>
                        have HST : Hid (sumR rs (i + 1) = sumR rs i) := aside (by rw [hst]; show sumR rs i + 0 = sumR rs i; omega)
                        clear hm hM hN hst hbd hbp HEarly hw
                        go_wp2_with (first | (go_at_call 19; refine (rmoney_any m _).mono ?_; rintro e w' ⟨rfl, rfl⟩; rw [hd]) | fail)
                        exact ⟨⟨i + 1, by omega, by rw [HST.out], by rfl, ATc, HN⟩, by
                          show n3 - ((i : Int) + 1).toNat < n3 - (i : Int).toNat
                          omega⟩
                      | false =>
                        have HST : Hid (sumR rs (i + 1) = sumR rs i + m) := aside hst
                        clear hm hM hN hst hbd hbp HEarly
                        go_wp2_with (first | (go_at_call 19; refine (rmoney_any m _).mono ?_; rintro e w' ⟨rfl, rfl⟩; rw [hd]) | fail)
                        exact ⟨⟨i + 1, by omega, by rw [HST.out, Int.add_assoc], by rfl, ATc, HN⟩, by
                          show n3 - ((i : Int) + 1).toNat < n3 - (i : Int).toNat
                          omega⟩
                    · have hd : decide (moneyE m = 0) = false := decide_eq_false hm
                      have hq := HEarly.out i hin HI.out 2 (by rw [HE2.out]; exact moneyE_two hm) (by decide)
                      have HQq := aside hq
                      clear HEarly hq hm
                      go_wp2_with (first | (go_at_call 19; refine (rmoney_any m _).mono ?_; rintro e w' ⟨rfl, rfl⟩; rw [hd]) | fail)
                      go_ret
                      exact ⟨by rw [HQq.out] <;> rfl, ATc.out.below⟩
              · obtain rfl : i = n3 := by omega
                have HQ4 : Hid (Q = if sumP ps n1 + sumR rs i ≠ l then 9 else 0) := aside (by have h := HQ3.out; rw [if_neg (by rw [HI.out]; decide)] at h; exact h)
                have hbd := sumR_bd HI.out (by have := HL.out.2.2; omega)
                have hbp := sumP_bd HI1.out (by have := HL.out.1; omega)
                clear HEarly HQ3 hbd hbp
                by_cases hs : sumP ps n1 + sumR rs i = l
                · have HQq : Hid (Q = 0) := aside (by rw [HQ4.out, if_neg (fun h => h hs)])
                  have hs' : (sumP ps n1 + sumR rs i == l) = true := by simpa using hs
                  clear hs HQ4
                  go_wp2
                  go_ret
                  exact ⟨by rw [HQq.out] <;> rfl, AT.out.below⟩
                · have HQq : Hid (Q = 9) := aside (by rw [HQ4.out, if_pos hs])
                  have hs' : (sumP ps n1 + sumR rs i == l) = false := by simpa using hs
                  clear hs HQ4
                  go_wp2
                  go_ret
                  exact ⟨by rw [HQq.out] <;> rfl, AT.out.below⟩
end Go.Proofs.YtcmlhopidohimaaDoor
