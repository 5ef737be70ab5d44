/- What is wrong with a peg: the walk. Conditions: named in each theorem. -/
import Derived.Test.YtcmlhopidohimaaDoorPegH
import Derived.Outline
namespace Go.Proofs.YtcmlhopidohimaaDoor
open Go.RowKit Go.ChangeShapes Go.WideShapes Go.ChangeAt

set_option maxHeartbeats 40000000 in
set_option maxRecDepth 100000 in
theorem check_any (l : Int) (ps : List (Int × Int)) (is : List Int) (rs : List (Int × Int × Bool)) (A1 : Option Addr) (n1 c1 : Nat) (A2 : Option Addr) (n2 c2 : Nat) (A3 : Option Addr) (n3 c3 : Nat) (w : World)
    (h1 : FSl encP 2 w w.heap.size A1 n1 ps) (h2 : FSl encI 1 w w.heap.size A2 n2 is) (h3 : FSl encR 3 w w.heap.size A3 n3 rs) (k1 : n1 ≤ c1) (_k2 : n2 ≤ c2) (k3 : n3 ≤ c3) (m1 : c1 ≤ maxLen) (m3 : c3 ≤ maxLen) :
    Calls Tryd.prog 7 #[pegV l A1 n1 c1 A2 n2 c2 A3 n3 c3] w (fun e w' => e = .returned (errP (pegQ l ps is rs)) ∧ Below w.heap.size w w') := by
  have l1 := FSl.len encP_len (by decide) h1
  have l2 := FSl.len encI_len (by decide) h2
  have l3 := FSl.len encR_len (by decide) h3
  unfold maxLen at m1 m3
  have H1 := aside h1
  have H2 := aside h2
  have H3 := aside h3
  clear h1 h2 h3
  obtain ⟨B, hB⟩ : ∃ B, B = w.heap.size := ⟨_, rfl⟩
  have HBr : Hid (∀ W, Below w.heap.size w W → Below w.heap.size w (W.alloc (.cells #[.int .i64 l, .slice A1 n1 c1, .slice A2 n2 c2, .slice A3 n3 c3] 26))) := aside (fun W h => h.alloc h.size _)
  by_cases big : 60 < n1 ∨ 60 < n2 ∨ 60 < n3
  · have hq : pegQ l ps is rs = 4 := by unfold pegQ; rw [l1, l2, l3, if_pos big]
    have HB := aside ((Below.refl w.heap.size w).alloc (Nat.le_refl _) (.cells #[.int .i64 l, .slice A1 n1 c1, .slice A2 n2 c2, .slice A3 n3 c3] 26))
    rw [hq]
    unfold pegV
    clear hq
    by_cases b1 : 60 < n1
    · have b1' : (60 : Int) < (n1 : Int) := by omega
      clear big
      go_enter Tryd.func7, Tryd.ntmps7
      go_wp2
      go_ret
      exact ⟨rfl, HB.out⟩
    · have b1' : ((60 : Int) < (n1 : Int)) = False := by simp only [eq_iff_iff, iff_false]; omega
      by_cases b2 : 60 < n2
      · have b2' : (60 : Int) < (n2 : Int) := by omega
        clear big
        go_enter Tryd.func7, Tryd.ntmps7
        go_wp2
        go_ret
        exact ⟨rfl, HB.out⟩
      · have b2' : ((60 : Int) < (n2 : Int)) = False := by simp only [eq_iff_iff, iff_false]; omega
        have b3 : 60 < n3 := by omega
        have b3' : (60 : Int) < (n3 : Int) := by omega
        clear big
        go_enter Tryd.func7, Tryd.ntmps7
        go_wp2
        go_ret
        exact ⟨rfl, HB.out⟩
  · have b1 : n1 ≤ 60 := by omega
    have b2 : n2 ≤ 60 := by omega
    have b3 : n3 ≤ 60 := by omega
    have b1' : ((60 : Int) < (n1 : Int)) = False := by simp only [eq_iff_iff, iff_false]; omega
    have b2' : ((60 : Int) < (n2 : Int)) = False := by simp only [eq_iff_iff, iff_false]; omega
    have b3' : ((60 : Int) < (n3 : Int)) = False := by simp only [eq_iff_iff, iff_false]; omega
    have HQ : Hid (pegQ l ps is rs = if firstE (pileE ps) n1 ≠ 0 then firstE (pileE ps) n1 else if firstE (risE keyI 0 is) n2 ≠ 0 then 6 else if firstE (retE rs) n3 ≠ 0 then firstE (retE rs) n3 else if sumP ps n1 + sumR rs n3 ≠ l then 9 else 0) := aside (by unfold pegQ; rw [l1, l2, l3, if_neg big])
    obtain ⟨Q, hQ⟩ : ∃ Q, Q = pegQ l ps is rs := ⟨_, rfl⟩
    rw [← hQ] at HQ ⊢
    have HL := aside (And.intro l1 (And.intro l2 l3))
    have HBE := aside hB
    clear big hQ l1 l2 l3
    have HB0 := aside ((Below.refl w.heap.size w).alloc (Nat.le_refl _) (.cells #[.int .i64 l, .slice A1 n1 c1, .slice A2 n2 c2, .slice A3 n3 c3] 26))
    have x0 : ∀ W, Below (B + 1) (w.alloc (.cells #[.int .i64 l, .slice A1 n1 c1, .slice A2 n2 c2, .slice A3 n3 c3] 26)) W → W.cell? ⟨B, 0, none⟩ = some (.int .i64 l) ∧ W.cell? ⟨B, 1, none⟩ = some (.slice A1 n1 c1) ∧ W.cell? ⟨B, 2, none⟩ = some (.slice A2 n2 c2) ∧ W.cell? ⟨B, 3, none⟩ = some (.slice A3 n3 c3) := fun W hW => by
      subst hB
      have hh := (hW.block w.heap.size (by omega)).trans (heap_alloc_new w _)
      exact ⟨by simp [World.cell?, hh], by simp [World.cell?, hh], by simp [World.cell?, hh], by simp [World.cell?, hh]⟩
    have HX := aside x0
    have HZ : Hid ((w.alloc (.cells #[.int .i64 l, .slice A1 n1 c1, .slice A2 n2 c2, .slice A3 n3 c3] 26)).heap.size = B + 1) := aside (by rw [hB]; simp)
    clear x0
    unfold pegV
    go_enter Tryd.func7, Tryd.ntmps7
    go_wp2
    simp only [← hB]
    clear hB
    change Code.wp _ _ _ _ (w.alloc (.cells #[.int .i64 l, .slice A1 n1 c1, .slice A2 n2 c2, .slice A3 n3 c3] 26))
    generalize w.alloc (.cells #[.int .i64 l, .slice A1 n1 c1, .slice A2 n2 c2, .slice A3 n3 c3] 26) = w0 at HX HB0 HZ ⊢
    go_loopw [3, 29] (fun v3 v29 wr => ∃ (i : Nat) (s : Int), i ≤ n1 ∧ v3 = .int .i64 s ∧ v29 = .int .i64 i ∧ s = sumP ps i ∧ 0 ≤ s ∧ s ≤ i * 1125899906842624 ∧ Hid (Below (B + 1) w0 wr) ∧ Hid (firstE (pileE ps) i = 0)) (fun _ v29 _ => n1 - (Go.RowKit.intOf v29).toNat)
    case atStart => exact ⟨0, 0, by omega, rfl, rfl, rfl, by omega, by omega, aside (Below.refl _ _), aside rfl⟩
    case round =>
      obtain ⟨i, s, hi, rfl, rfl, hs, hs0, hs1, HB, HE⟩ := hrel
      by_cases hin : i < n1
      · have HQP : Hid (Q = if firstE (pileE ps) n1 ≠ 0 then firstE (pileE ps) n1 else _) := HQ
        have HW := aside (HB0.out.trans (HB.out.mono (by have := HBE.out; omega : w.heap.size ≤ B + 1)))
        obtain ⟨b, off, rfl, hbl, hcl⟩ := FSl.at_ (k := i) encP_len (by decide) (0, 0) (FSl.below H1.out HW.out) hin
        obtain ⟨⟨ya, yb⟩, hy⟩ : ∃ y, ps.getD i (0, 0) = y := ⟨_, rfl⟩
        rw [hy] at hcl
        have HY := aside hy
        have cc0 := hcl 0 _ rfl
        have cc1 := hcl 1 _ rfl
        rw [Nat.add_zero] at cc0
        dsimp only at cc0 cc1
        have HSm := aside hs
        clear hcl hy hs
        have hin' : (i : Int) < (n1 : Int) := by omega
        have HIN := aside hin
        have HAl : Hid (Below wr.heap.size wr (wr.alloc (.cells #[.int .i64 ya, .int .i64 yb] 46))) := aside ((Below.refl _ _).alloc (Nat.le_refl _) _)
        have hsz : B + 1 ≤ wr.heap.size := by have h1 := HB.out.size; have h2 := HZ.out; omega
        have HBa : Hid (Below (B + 1) w0 (wr.alloc (.cells #[.int .i64 ya, .int .i64 yb] 46))) := aside (HB.out.trans (HAl.out.mono hsz))
        have HBa1 : Hid (B + 1 ≤ (wr.alloc (.cells #[.int .i64 ya, .int .i64 yb] 46)).heap.size) := aside (Nat.le_trans hsz HAl.out.size)
        have HFin : Hid (∀ W, Below (B + 1) w0 W → Below w.heap.size w W) := aside (fun W hW => HB0.out.trans (hW.mono (by have := HBE.out; omega)))
        obtain ⟨-, bb, -, -⟩ := HX.out _ HBa.out
        have ba1 : (wr.alloc (.cells #[.int .i64 ya, .int .i64 yb] 46)).cell? ⟨wr.heap.size, 1, none⟩ = some (.int .i64 yb) := World.cell?_alloc_at _ _ _ _ rfl
        have hw2 : IntKind.i64.wrap ((i : Int) + 1) = (i : Int) + 1 := by rw [IntKind.wrap_i64]; omega
        have hic : (i : Int) + 1 ≤ (c1 : Int) := by omega
        by_cases h0 : i = 0
        · have HRis : Hid (risE keyP (0, 0) ps i = 0) := aside (by rw [h0]; rfl)
          have hpart : FSl encP 2 w w.heap.size (some ⟨b, off, none⟩) 1 (ps.take 1) := by have h := FSl.part encP_len (by decide) (H1.out) (k := 0) (m := 1) (by omega) (by decide); rw [Nat.zero_mul, Nat.add_zero] at h; exact h
          have HR : Hid (Calls Tryd.prog 21 #[.slice (some ⟨b, off, none⟩) 1 c1, .func (.func 22) #[] #[]] (wr.alloc (.cells #[.int .i64 ya, .int .i64 yb] 46)) (fun e w' => e = .returned (.bool (decide (firstE (risE keyP (0, 0) (ps.take 1)) 1 = 0))) ∧ Below (wr.alloc (.cells #[.int .i64 ya, .int .i64 yb] 46)).heap.size (wr.alloc (.cells #[.int .i64 ya, .int .i64 yb] 46)) w')) := aside (risesP_any _ _ _ _ _ ((FSl.below hpart (HW.out.trans (HAl.out.mono HW.out.size))).more (Nat.le_trans HW.out.size HAl.out.size)) (by decide))
          clear hpart
          subst h0
          simp only [Nat.zero_mul, Nat.add_zero] at cc0 cc1
          have hc0 : ¬ c1 = 0 := by omega
          have hd : decide (firstE (risE keyP (0, 0) (ps.take 1)) 1 = 0) = true := rfl
          rw [hd] at HR
          clear hd
          by_cases hbad : yb < 0 ∨ 1125899906842624 < yb
          · have HA : Hid (amtE yb = 2) := aside (by unfold amtE; rw [if_pos (by omega)])
            have HM : Hid (∀ W, Calls Tryd.prog 23 #[.int .i64 yb] W (fun e w' => e = .returned (.iface 28 (.int .i64 2)) ∧ w' = W)) := aside (fun W => by
              have h := money_any yb W
              rw [show moneyE yb = 2 by unfold moneyE; rw [if_pos hbad]] at h
              exact h)
            clear hbad
            go_wp2_with (first
              | (go_at_call 21; refine HR.out.mono ?_; rintro e w2 ⟨rfl, hb2⟩; have y1 := (hb2.cell (p := ⟨wr.heap.size, 1, none⟩) (by simp)).trans ba1; have HB2 := aside (HBa.out.trans (hb2.mono HBa1.out)); clear hb2 ba1)
              | (go_at_call 23; refine (HM.out _).mono ?_; rintro e w3 ⟨rfl, rfl⟩))
            go_ret
            have hQ : Q = 2 := by
              have hf : pileE ps 0 = 2 := by unfold pileE; rw [if_neg (by rw [HRis.out]; decide), HY.out]; exact HA.out
              rw [HQP.out, firstE_at (i := 0) HIN.out HE.out (by rw [hf]; decide), hf]
              rfl
            exact ⟨by rw [hQ]; rfl, HFin.out _ HB2.out⟩
          have hok : 0 ≤ yb ∧ yb ≤ 1125899906842624 := by omega
          have HM : Hid (∀ W, Calls Tryd.prog 23 #[.int .i64 yb] W (fun e w' => e = .returned .nilIface ∧ w' = W)) := aside (fun W => by
            have h := money_any yb W
            rw [show moneyE yb = 0 from moneyE_zero.2 hok] at h
            exact h)
          clear hbad
          by_cases hz : yb = 0
          · have HA : Hid (amtE yb = 2) := aside (by unfold amtE; rw [if_pos (by omega)])
            have hz' : (yb == 0) = true := by rw [hz]; rfl
            clear hok hz
            go_wp2_with (first
              | (go_at_call 21; refine HR.out.mono ?_; rintro e w2 ⟨rfl, hb2⟩; have y1 := (hb2.cell (p := ⟨wr.heap.size, 1, none⟩) (by simp)).trans ba1; have HB2 := aside (HBa.out.trans (hb2.mono HBa1.out)); clear hb2 ba1)
              | (go_at_call 23; refine (HM.out _).mono ?_; rintro e w3 ⟨rfl, rfl⟩))
            go_ret
            have hQ : Q = 2 := by
              have hf : pileE ps 0 = 2 := by unfold pileE; rw [if_neg (by rw [HRis.out]; decide), HY.out]; exact HA.out
              rw [HQP.out, firstE_at (i := 0) HIN.out HE.out (by rw [hf]; decide), hf]
              rfl
            exact ⟨by rw [hQ]; rfl, HFin.out _ HB2.out⟩
          have hz' : (yb == 0) = false := by simp only [beq_eq_false_iff_ne, ne_eq]; exact hz
          have HA : Hid (amtE yb = 0) := aside (amtE_zero.2 (by omega))
          have hws : IntKind.i64.wrap (s + yb) = s + yb := by rw [IntKind.wrap_i64]; omega
          have Hok := aside hok
          clear hok hz
          go_wp2_with (first
            | (go_at_call 21; refine HR.out.mono ?_; rintro e w2 ⟨rfl, hb2⟩; have y1 := (hb2.cell (p := ⟨wr.heap.size, 1, none⟩) (by simp)).trans ba1; have HB2 := aside (HBa.out.trans (hb2.mono HBa1.out)); clear hb2 ba1)
            | (go_at_call 23; refine (HM.out _).mono ?_; rintro e w3 ⟨rfl, rfl⟩))
          exact ⟨⟨0 + 1, s + yb, by omega, by go_num, by go_num, by rw [sumP_next ps (by have := HL.out.1; omega), HY.out, HSm.out], by have := Hok.out; omega, by have := Hok.out; omega, HB2, aside (by rw [firstE_next HE.out]; unfold pileE; rw [if_neg (by rw [HRis.out]; decide), HY.out]; exact HA.out)⟩, by simp [Go.RowKit.intOf]; omega⟩
        · by_cases h1 : i = 1
          · have hw1 : IntKind.i64.wrap ((i : Int) - 1) = 0 := by rw [IntKind.wrap_i64]; omega
            have hc0 : ¬ c1 = 0 := by omega
            have hpart : FSl encP 2 w w.heap.size (some ⟨b, off, none⟩) 2 (ps.take 2) := by have h := FSl.part encP_len (by decide) (H1.out) (k := 0) (m := 2) (by omega) (by decide); rw [Nat.zero_mul, Nat.add_zero] at h; exact h
            have HR : Hid (Calls Tryd.prog 21 #[.slice (some ⟨b, off, none⟩) (i + 1) c1, .func (.func 22) #[] #[]] (wr.alloc (.cells #[.int .i64 ya, .int .i64 yb] 46)) (fun e w' => e = .returned (.bool (decide (risE keyP (0, 0) ps i = 0))) ∧ Below (wr.alloc (.cells #[.int .i64 ya, .int .i64 yb] 46)).heap.size (wr.alloc (.cells #[.int .i64 ya, .int .i64 yb] 46)) w')) := aside (by
              have h := risesP_any _ _ _ c1 _ ((FSl.below hpart (HW.out.trans (HAl.out.mono HW.out.size))).more (Nat.le_trans HW.out.size HAl.out.size)) (by decide)
              have h2 := ris_two keyP (0, 0) ps 0
              rw [List.drop_zero] at h2
              rw [h2] at h
              rw [h1]
              exact h)
            clear hpart h1 h0
            by_cases hris : risE keyP (0, 0) ps i = 0
            · have HRis := aside hris
              rw [decide_eq_true hris] at HR
              clear hris
              by_cases hbad : yb < 0 ∨ 1125899906842624 < yb
              · have HA : Hid (amtE yb = 2) := aside (by unfold amtE; rw [if_pos (by omega)])
                have HM : Hid (∀ W, Calls Tryd.prog 23 #[.int .i64 yb] W (fun e w' => e = .returned (.iface 28 (.int .i64 2)) ∧ w' = W)) := aside (fun W => by
                  have h := money_any yb W
                  rw [show moneyE yb = 2 by unfold moneyE; rw [if_pos hbad]] at h
                  exact h)
                clear hbad
                go_wp2_with (first
                  | (go_at_call 21; refine HR.out.mono ?_; rintro e w2 ⟨rfl, hb2⟩; have y1 := (hb2.cell (p := ⟨wr.heap.size, 1, none⟩) (by simp)).trans ba1; have HB2 := aside (HBa.out.trans (hb2.mono HBa1.out)); clear hb2 ba1)
                  | (go_at_call 23; refine (HM.out _).mono ?_; rintro e w3 ⟨rfl, rfl⟩))
                go_ret
                have hQ : Q = 2 := by
                  have hf : pileE ps i = 2 := by unfold pileE; rw [if_neg (by rw [HRis.out]; decide), HY.out]; exact HA.out
                  rw [HQP.out, firstE_at (i := i) HIN.out HE.out (by rw [hf]; decide), hf]
                  rfl
                exact ⟨by rw [hQ]; rfl, HFin.out _ HB2.out⟩
              have hok : 0 ≤ yb ∧ yb ≤ 1125899906842624 := by omega
              have HM : Hid (∀ W, Calls Tryd.prog 23 #[.int .i64 yb] W (fun e w' => e = .returned .nilIface ∧ w' = W)) := aside (fun W => by
                have h := money_any yb W
                rw [show moneyE yb = 0 from moneyE_zero.2 hok] at h
                exact h)
              clear hbad
              by_cases hz : yb = 0
              · have HA : Hid (amtE yb = 2) := aside (by unfold amtE; rw [if_pos (by omega)])
                have hz' : (yb == 0) = true := by rw [hz]; rfl
                clear hok hz
                go_wp2_with (first
                  | (go_at_call 21; refine HR.out.mono ?_; rintro e w2 ⟨rfl, hb2⟩; have y1 := (hb2.cell (p := ⟨wr.heap.size, 1, none⟩) (by simp)).trans ba1; have HB2 := aside (HBa.out.trans (hb2.mono HBa1.out)); clear hb2 ba1)
                  | (go_at_call 23; refine (HM.out _).mono ?_; rintro e w3 ⟨rfl, rfl⟩))
                go_ret
                have hQ : Q = 2 := by
                  have hf : pileE ps i = 2 := by unfold pileE; rw [if_neg (by rw [HRis.out]; decide), HY.out]; exact HA.out
                  rw [HQP.out, firstE_at (i := i) HIN.out HE.out (by rw [hf]; decide), hf]
                  rfl
                exact ⟨by rw [hQ]; rfl, HFin.out _ HB2.out⟩
              have hz' : (yb == 0) = false := by simp only [beq_eq_false_iff_ne, ne_eq]; exact hz
              have HA : Hid (amtE yb = 0) := aside (amtE_zero.2 (by omega))
              have hws : IntKind.i64.wrap (s + yb) = s + yb := by rw [IntKind.wrap_i64]; omega
              have Hok := aside hok
              clear hok hz
              go_wp2_with (first
                | (go_at_call 21; refine HR.out.mono ?_; rintro e w2 ⟨rfl, hb2⟩; have y1 := (hb2.cell (p := ⟨wr.heap.size, 1, none⟩) (by simp)).trans ba1; have HB2 := aside (HBa.out.trans (hb2.mono HBa1.out)); clear hb2 ba1)
                | (go_at_call 23; refine (HM.out _).mono ?_; rintro e w3 ⟨rfl, rfl⟩))
              exact ⟨⟨i + 1, s + yb, by omega, by go_num, by go_num, by rw [sumP_next ps (by have := HL.out.1; omega), HY.out, HSm.out], by have := Hok.out; omega, by have := Hok.out; omega, HB2, aside (by rw [firstE_next HE.out]; unfold pileE; rw [if_neg (by rw [HRis.out]; decide), HY.out]; exact HA.out)⟩, by simp [Go.RowKit.intOf]; omega⟩
            · have HRis := aside hris
              rw [decide_eq_false hris] at HR
              clear hris
              go_wp2_with (first
                | (go_at_call 21; refine HR.out.mono ?_; rintro e w2 ⟨rfl, hb2⟩; have y1 := (hb2.cell (p := ⟨wr.heap.size, 1, none⟩) (by simp)).trans ba1; have HB2 := aside (HBa.out.trans (hb2.mono HBa1.out)); clear hb2 ba1))
              go_ret
              have hQ : Q = 6 := by
                have hf : pileE ps i = 6 := by unfold pileE; rw [if_pos HRis.out]
                rw [HQP.out, firstE_at (i := i) HIN.out HE.out (by rw [hf]; decide), hf]
                rfl
              exact ⟨by rw [hQ]; rfl, HFin.out _ HB2.out⟩
          · obtain ⟨j, hij⟩ : ∃ j, i = j + 1 := ⟨i - 1, by omega⟩
            have hw1 : IntKind.i64.wrap ((i : Int) - 1) = (j : Int) := by rw [IntKind.wrap_i64]; omega
            have hji : (j : Int) ≤ (i : Int) + 1 := by omega
            have hcj : ¬ c1 = j := by omega
            have hl2 : i + 1 - j = 2 := by omega
            have hj0 : 0 < j := by omega
            have hpart : FSl encP 2 w w.heap.size (some ⟨b, off + j * 2, none⟩) 2 ((ps.drop j).take 2) := FSl.part encP_len (by decide) H1.out (k := j) (m := 2) (by omega) (by decide)
            have HR : Hid (Calls Tryd.prog 21 #[.slice (some ⟨b, off + j * 2, none⟩) 2 (c1 - j), .func (.func 22) #[] #[]] (wr.alloc (.cells #[.int .i64 ya, .int .i64 yb] 46)) (fun e w' => e = .returned (.bool (decide (firstE (risE keyP (0, 0) ((ps.drop j).take 2)) 2 = 0))) ∧ Below (wr.alloc (.cells #[.int .i64 ya, .int .i64 yb] 46)).heap.size (wr.alloc (.cells #[.int .i64 ya, .int .i64 yb] 46)) w')) := aside (risesP_any _ _ _ _ _ ((FSl.below hpart (HW.out.trans (HAl.out.mono HW.out.size))).more (Nat.le_trans HW.out.size HAl.out.size)) (by decide))
            clear hpart
            rw [ris_two, ← hij] at HR
            clear hij h0 h1
            by_cases hris : risE keyP (0, 0) ps i = 0
            · have HRis := aside hris
              rw [decide_eq_true hris] at HR
              clear hris
              by_cases hbad : yb < 0 ∨ 1125899906842624 < yb
              · have HA : Hid (amtE yb = 2) := aside (by unfold amtE; rw [if_pos (by omega)])
                have HM : Hid (∀ W, Calls Tryd.prog 23 #[.int .i64 yb] W (fun e w' => e = .returned (.iface 28 (.int .i64 2)) ∧ w' = W)) := aside (fun W => by
                  have h := money_any yb W
                  rw [show moneyE yb = 2 by unfold moneyE; rw [if_pos hbad]] at h
                  exact h)
                clear hbad
                go_wp2_with (first
                  | (go_at_call 21; refine HR.out.mono ?_; rintro e w2 ⟨rfl, hb2⟩; have y1 := (hb2.cell (p := ⟨wr.heap.size, 1, none⟩) (by simp)).trans ba1; have HB2 := aside (HBa.out.trans (hb2.mono HBa1.out)); clear hb2 ba1)
                  | (go_at_call 23; refine (HM.out _).mono ?_; rintro e w3 ⟨rfl, rfl⟩))
                go_ret
                have hQ : Q = 2 := by
                  have hf : pileE ps i = 2 := by unfold pileE; rw [if_neg (by rw [HRis.out]; decide), HY.out]; exact HA.out
                  rw [HQP.out, firstE_at (i := i) HIN.out HE.out (by rw [hf]; decide), hf]
                  rfl
                exact ⟨by rw [hQ]; rfl, HFin.out _ HB2.out⟩
              have hok : 0 ≤ yb ∧ yb ≤ 1125899906842624 := by omega
              have HM : Hid (∀ W, Calls Tryd.prog 23 #[.int .i64 yb] W (fun e w' => e = .returned .nilIface ∧ w' = W)) := aside (fun W => by
                have h := money_any yb W
                rw [show moneyE yb = 0 from moneyE_zero.2 hok] at h
                exact h)
              clear hbad
              by_cases hz : yb = 0
              · have HA : Hid (amtE yb = 2) := aside (by unfold amtE; rw [if_pos (by omega)])
                have hz' : (yb == 0) = true := by rw [hz]; rfl
                clear hok hz
                go_wp2_with (first
                  | (go_at_call 21; refine HR.out.mono ?_; rintro e w2 ⟨rfl, hb2⟩; have y1 := (hb2.cell (p := ⟨wr.heap.size, 1, none⟩) (by simp)).trans ba1; have HB2 := aside (HBa.out.trans (hb2.mono HBa1.out)); clear hb2 ba1)
                  | (go_at_call 23; refine (HM.out _).mono ?_; rintro e w3 ⟨rfl, rfl⟩))
                go_ret
                have hQ : Q = 2 := by
                  have hf : pileE ps i = 2 := by unfold pileE; rw [if_neg (by rw [HRis.out]; decide), HY.out]; exact HA.out
                  rw [HQP.out, firstE_at (i := i) HIN.out HE.out (by rw [hf]; decide), hf]
                  rfl
                exact ⟨by rw [hQ]; rfl, HFin.out _ HB2.out⟩
              have hz' : (yb == 0) = false := by simp only [beq_eq_false_iff_ne, ne_eq]; exact hz
              have HA : Hid (amtE yb = 0) := aside (amtE_zero.2 (by omega))
              have hws : IntKind.i64.wrap (s + yb) = s + yb := by rw [IntKind.wrap_i64]; omega
              have Hok := aside hok
              clear hok hz
              go_wp2_with (first
                | (go_at_call 21; refine HR.out.mono ?_; rintro e w2 ⟨rfl, hb2⟩; have y1 := (hb2.cell (p := ⟨wr.heap.size, 1, none⟩) (by simp)).trans ba1; have HB2 := aside (HBa.out.trans (hb2.mono HBa1.out)); clear hb2 ba1)
                | (go_at_call 23; refine (HM.out _).mono ?_; rintro e w3 ⟨rfl, rfl⟩))
              exact ⟨⟨i + 1, s + yb, by omega, by go_num, by go_num, by rw [sumP_next ps (by have := HL.out.1; omega), HY.out, HSm.out], by have := Hok.out; omega, by have := Hok.out; omega, HB2, aside (by rw [firstE_next HE.out]; unfold pileE; rw [if_neg (by rw [HRis.out]; decide), HY.out]; exact HA.out)⟩, by simp [Go.RowKit.intOf]; omega⟩
            · have HRis := aside hris
              rw [decide_eq_false hris] at HR
              clear hris
              go_wp2_with (first
                | (go_at_call 21; refine HR.out.mono ?_; rintro e w2 ⟨rfl, hb2⟩; have y1 := (hb2.cell (p := ⟨wr.heap.size, 1, none⟩) (by simp)).trans ba1; have HB2 := aside (HBa.out.trans (hb2.mono HBa1.out)); clear hb2 ba1))
              go_ret
              have hQ : Q = 6 := by
                have hf : pileE ps i = 6 := by unfold pileE; rw [if_pos HRis.out]
                rw [HQP.out, firstE_at (i := i) HIN.out HE.out (by rw [hf]; decide), hf]
                rfl
              exact ⟨by rw [hQ]; rfl, HFin.out _ HB2.out⟩
      · have hie : i = n1 := by omega
        have HE1 : Hid (firstE (pileE ps) n1 = 0) := aside (by rw [← hie]; exact HE.out)
        have hin' : ((i : Int) < (n1 : Int)) = False := by simp only [eq_iff_iff, iff_false]; omega
        have HSm : Hid (s = sumP ps n1) := aside (by rw [hs, hie])
        have hs2 : s ≤ (n1 : Int) * 1125899906842624 := by rw [← hie]; exact hs1
        clear hs hs1 hie
        obtain ⟨wa, hwa⟩ : ∃ wa, wa = wr := ⟨_, rfl⟩
        subst hwa
        have HW := aside (HB0.out.trans (HB.out.mono (by have := HBE.out; omega : w.heap.size ≤ B + 1)))
        have hsz : B + 1 ≤ wa.heap.size := by have h1 := HB.out.size; have h2 := HZ.out; omega
        obtain ⟨-, -, a2, -⟩ := HX.out _ HB.out
        have HQ2 : Hid (Q = if firstE (risE keyI 0 is) n2 ≠ 0 then 6 else if firstE (retE rs) n3 ≠ 0 then firstE (retE rs) n3 else if sumP ps n1 + sumR rs n3 ≠ l then 9 else 0) := aside (by have h := HQ.out; rw [if_neg (by rw [HE1.out]; decide)] at h; exact h)
        have HFin : Hid (∀ W, Below (B + 1) w0 W → Below w.heap.size w W) := aside (fun W hW => HB0.out.trans (hW.mono (by have := HBE.out; omega)))
        have HRI : Hid (Calls Tryd.prog 24 #[.slice A2 n2 c2, .func (.func 25) #[] #[]] wa (fun e w' => e = .returned (.bool (decide (firstE (risE keyI 0 is) n2 = 0))) ∧ Below wa.heap.size wa w')) := aside (risesI_any is A2 n2 c2 wa ((FSl.below H2.out HW.out).more HW.out.size) (by omega))
        clear HQ
        by_cases hri : firstE (risE keyI 0 is) n2 = 0
        · rw [decide_eq_true hri] at HRI
          have HQR : Hid (Q = if firstE (retE rs) n3 ≠ 0 then firstE (retE rs) n3 else if sumP ps n1 + sumR rs n3 ≠ l then 9 else 0) := aside (by have h := HQ2.out; rw [if_neg (by rw [hri]; decide)] at h; exact h)
          clear hri HQ2
          go_wp2_with (go_at_call 24; refine HRI.out.mono ?_; rintro e w2 ⟨rfl, hb2⟩; have HB2 := aside (HB.out.trans (hb2.mono hsz)); clear hb2 a2; have x3 := HX.out _ HB2.out; obtain ⟨-, -, -, a3⟩ := x3)
          clear HB HW HE HRI H1 H2 HE1 hin' hsz
          go_loopw [3, 68] (fun v3 v68 wr => ∃ (i : Nat) (s : Int), i ≤ n3 ∧ v3 = .int .i64 s ∧ v68 = .int .i64 i ∧ s = sumP ps n1 + sumR rs i ∧ 0 ≤ s ∧ s ≤ n1 * 1125899906842624 + i * 1125899906842624 ∧ Hid (Below (B + 1) w0 wr) ∧ Hid (firstE (retE rs) i = 0)) (fun _ v68 _ => n3 - (Go.RowKit.intOf v68).toNat)
          case atStart => exact ⟨0, s, by omega, rfl, rfl, by rw [HSm.out]; show sumP ps n1 = sumP ps n1 + 0; omega, by omega, by omega, HB2, aside rfl⟩
          case round =>
            clear HSm hs0 hs2 a3 HB2
            obtain ⟨i, s, hi, rfl, rfl, hs, hs0, hs1, HB, HE⟩ := hrel
            by_cases hin : i < n3
            · skip
              have HW := aside (HB0.out.trans (HB.out.mono (by have := HBE.out; omega : w.heap.size ≤ B + 1)))
              obtain ⟨b, off, rfl, hbl, hcl⟩ := FSl.at_ (k := i) encR_len (by decide) (0, 0, false) (FSl.below H3.out HW.out) hin
              obtain ⟨⟨ya, yb, yc⟩, hy⟩ : ∃ y, rs.getD i (0, 0, false) = y := ⟨_, rfl⟩
              rw [hy] at hcl
              have HY := aside hy
              have cc0 := hcl 0 _ rfl
              have cc1 := hcl 1 _ rfl
              have cc2 := hcl 2 _ rfl
              rw [Nat.add_zero] at cc0
              dsimp only at cc0 cc1 cc2
              have HSm := aside hs
              clear hcl hy hs
              have hin' : (i : Int) < (n3 : Int) := by omega
              have HIN := aside hin
              have HAl : Hid (Below wr.heap.size wr (wr.alloc (.cells #[.int .i64 ya, .int .i64 yb, .bool yc] 49))) := aside ((Below.refl _ _).alloc (Nat.le_refl _) _)
              have hsz : B + 1 ≤ wr.heap.size := by have h1 := HB.out.size; have h2 := HZ.out; omega
              have HBa : Hid (Below (B + 1) w0 (wr.alloc (.cells #[.int .i64 ya, .int .i64 yb, .bool yc] 49))) := aside (HB.out.trans (HAl.out.mono hsz))
              have HBa1 : Hid (B + 1 ≤ (wr.alloc (.cells #[.int .i64 ya, .int .i64 yb, .bool yc] 49)).heap.size) := aside (Nat.le_trans hsz HAl.out.size)
              have HFin : Hid (∀ W, Below (B + 1) w0 W → Below w.heap.size w W) := aside (fun W hW => HB0.out.trans (hW.mono (by have := HBE.out; omega)))
              obtain ⟨-, -, -, bb⟩ := HX.out _ HBa.out
              have ba1 : (wr.alloc (.cells #[.int .i64 ya, .int .i64 yb, .bool yc] 49)).cell? ⟨wr.heap.size, 1, none⟩ = some (.int .i64 yb) := World.cell?_alloc_at _ _ _ _ rfl
              have ba2 : (wr.alloc (.cells #[.int .i64 ya, .int .i64 yb, .bool yc] 49)).cell? ⟨wr.heap.size, 2, none⟩ = some (.bool yc) := World.cell?_alloc_at _ _ _ _ rfl
              have hw2 : IntKind.i64.wrap ((i : Int) + 1) = (i : Int) + 1 := by rw [IntKind.wrap_i64]; omega
              have hic : (i : Int) + 1 ≤ (c3 : Int) := by omega
              by_cases h0 : i = 0
              · have HRis : Hid (risE keyR (0, 0, false) rs i = 0) := aside (by rw [h0]; rfl)
                have hpart : FSl encR 3 w w.heap.size (some ⟨b, off, none⟩) 1 (rs.take 1) := by have h := FSl.part encR_len (by decide) (H3.out) (k := 0) (m := 1) (by omega) (by decide); rw [Nat.zero_mul, Nat.add_zero] at h; exact h
                have HR : Hid (Calls Tryd.prog 26 #[.slice (some ⟨b, off, none⟩) 1 c3, .func (.func 27) #[] #[]] (wr.alloc (.cells #[.int .i64 ya, .int .i64 yb, .bool yc] 49)) (fun e w' => e = .returned (.bool (decide (firstE (risE keyR (0, 0, false) (rs.take 1)) 1 = 0))) ∧ Below (wr.alloc (.cells #[.int .i64 ya, .int .i64 yb, .bool yc] 49)).heap.size (wr.alloc (.cells #[.int .i64 ya, .int .i64 yb, .bool yc] 49)) w')) := aside (risesR_any _ _ _ _ _ ((FSl.below hpart (HW.out.trans (HAl.out.mono HW.out.size))).more (Nat.le_trans HW.out.size HAl.out.size)) (by decide))
                clear hpart
                subst h0
                simp only [Nat.zero_mul, Nat.add_zero] at cc0 cc1 cc2
                have hc0 : ¬ c3 = 0 := by omega
                have hd : decide (firstE (risE keyR (0, 0, false) (rs.take 1)) 1 = 0) = true := rfl
                rw [hd] at HR
                clear hd
                by_cases hbad : yb < 0 ∨ 1125899906842624 < yb
                · have HA : Hid (moneyE yb = 2) := aside (by unfold moneyE; rw [if_pos (by omega)])
                  have HM : Hid (∀ W, Calls Tryd.prog 23 #[.int .i64 yb] W (fun e w' => e = .returned (.iface 28 (.int .i64 2)) ∧ w' = W)) := aside (fun W => by
                    have h := money_any yb W
                    rw [show moneyE yb = 2 by unfold moneyE; rw [if_pos hbad]] at h
                    exact h)
                  clear hbad
                  go_wp2_with (first
                    | (go_at_call 26; refine HR.out.mono ?_; rintro e w2 ⟨rfl, hb2⟩; have y1 := (hb2.cell (p := ⟨wr.heap.size, 1, none⟩) (by simp)).trans ba1; have y2 := (hb2.cell (p := ⟨wr.heap.size, 2, none⟩) (by simp)).trans ba2; have HB2 := aside (HBa.out.trans (hb2.mono HBa1.out)); clear hb2 ba1 ba2)
                    | (go_at_call 23; refine (HM.out _).mono ?_; rintro e w3 ⟨rfl, rfl⟩))
                  go_ret
                  have hQ : Q = 2 := by
                    have hf : retE rs 0 = 2 := by unfold retE; rw [if_neg (by rw [HRis.out]; decide), HY.out]; exact HA.out
                    rw [HQR.out, firstE_at (i := 0) HIN.out HE.out (by rw [hf]; decide), hf]
                    rfl
                  exact ⟨by rw [hQ]; rfl, HFin.out _ HB2.out⟩
                have hok : 0 ≤ yb ∧ yb ≤ 1125899906842624 := by omega
                have HM : Hid (∀ W, Calls Tryd.prog 23 #[.int .i64 yb] W (fun e w' => e = .returned .nilIface ∧ w' = W)) := aside (fun W => by
                  have h := money_any yb W
                  rw [show moneyE yb = 0 from moneyE_zero.2 hok] at h
                  exact h)
                clear hbad
                cases yc with
                | true =>
                  have HA : Hid (moneyE yb = 0) := aside (moneyE_zero.2 hok)
                  have hws : IntKind.i64.wrap (s + yb) = s + yb := by rw [IntKind.wrap_i64]; omega
                  have Hok := aside hok
                  clear hok
                  go_wp2_with (first
                    | (go_at_call 26; refine HR.out.mono ?_; rintro e w2 ⟨rfl, hb2⟩; have y1 := (hb2.cell (p := ⟨wr.heap.size, 1, none⟩) (by simp)).trans ba1; have y2 := (hb2.cell (p := ⟨wr.heap.size, 2, none⟩) (by simp)).trans ba2; have HB2 := aside (HBa.out.trans (hb2.mono HBa1.out)); clear hb2 ba1 ba2)
                    | (go_at_call 23; refine (HM.out _).mono ?_; rintro e w3 ⟨rfl, rfl⟩))
                  exact ⟨⟨0 + 1, s, by omega, by go_num, by go_num, by rw [sumR_next rs (by have := HL.out.2.2; omega), HY.out, HSm.out]; show sumP ps n1 + sumR rs 0 = sumP ps n1 + (sumR rs 0 + 0); omega, by have := Hok.out; omega, by have := Hok.out; omega, HB2, aside (by rw [firstE_next HE.out]; unfold retE; rw [if_neg (by rw [HRis.out]; decide), HY.out]; exact HA.out)⟩, by simp [Go.RowKit.intOf]; omega⟩
                | false =>
                  have HA : Hid (moneyE yb = 0) := aside (moneyE_zero.2 hok)
                  have hws : IntKind.i64.wrap (s + yb) = s + yb := by rw [IntKind.wrap_i64]; omega
                  have Hok := aside hok
                  clear hok
                  go_wp2_with (first
                    | (go_at_call 26; refine HR.out.mono ?_; rintro e w2 ⟨rfl, hb2⟩; have y1 := (hb2.cell (p := ⟨wr.heap.size, 1, none⟩) (by simp)).trans ba1; have y2 := (hb2.cell (p := ⟨wr.heap.size, 2, none⟩) (by simp)).trans ba2; have HB2 := aside (HBa.out.trans (hb2.mono HBa1.out)); clear hb2 ba1 ba2)
                    | (go_at_call 23; refine (HM.out _).mono ?_; rintro e w3 ⟨rfl, rfl⟩))
                  exact ⟨⟨0 + 1, s + yb, by omega, by go_num, by go_num, by rw [sumR_next rs (by have := HL.out.2.2; omega), HY.out, HSm.out]; show sumP ps n1 + sumR rs 0 + yb = sumP ps n1 + (sumR rs 0 + yb); omega, by have := Hok.out; omega, by have := Hok.out; omega, HB2, aside (by rw [firstE_next HE.out]; unfold retE; rw [if_neg (by rw [HRis.out]; decide), HY.out]; exact HA.out)⟩, by simp [Go.RowKit.intOf]; omega⟩
              · by_cases h1 : i = 1
                · have hw1 : IntKind.i64.wrap ((i : Int) - 1) = 0 := by rw [IntKind.wrap_i64]; omega
                  have hc0 : ¬ c3 = 0 := by omega
                  have hpart : FSl encR 3 w w.heap.size (some ⟨b, off, none⟩) 2 (rs.take 2) := by have h := FSl.part encR_len (by decide) (H3.out) (k := 0) (m := 2) (by omega) (by decide); rw [Nat.zero_mul, Nat.add_zero] at h; exact h
                  have HR : Hid (Calls Tryd.prog 26 #[.slice (some ⟨b, off, none⟩) (i + 1) c3, .func (.func 27) #[] #[]] (wr.alloc (.cells #[.int .i64 ya, .int .i64 yb, .bool yc] 49)) (fun e w' => e = .returned (.bool (decide (risE keyR (0, 0, false) rs i = 0))) ∧ Below (wr.alloc (.cells #[.int .i64 ya, .int .i64 yb, .bool yc] 49)).heap.size (wr.alloc (.cells #[.int .i64 ya, .int .i64 yb, .bool yc] 49)) w')) := aside (by
                    have h := risesR_any _ _ _ c3 _ ((FSl.below hpart (HW.out.trans (HAl.out.mono HW.out.size))).more (Nat.le_trans HW.out.size HAl.out.size)) (by decide)
                    have h2 := ris_two keyR (0, 0, false) rs 0
                    rw [List.drop_zero] at h2
                    rw [h2] at h
                    rw [h1]
                    exact h)
                  clear hpart h1 h0
                  by_cases hris : risE keyR (0, 0, false) rs i = 0
                  · have HRis := aside hris
                    rw [decide_eq_true hris] at HR
                    clear hris
                    by_cases hbad : yb < 0 ∨ 1125899906842624 < yb
                    · have HA : Hid (moneyE yb = 2) := aside (by unfold moneyE; rw [if_pos (by omega)])
                      have HM : Hid (∀ W, Calls Tryd.prog 23 #[.int .i64 yb] W (fun e w' => e = .returned (.iface 28 (.int .i64 2)) ∧ w' = W)) := aside (fun W => by
                        have h := money_any yb W
                        rw [show moneyE yb = 2 by unfold moneyE; rw [if_pos hbad]] at h
                        exact h)
                      clear hbad
                      go_wp2_with (first
                        | (go_at_call 26; refine HR.out.mono ?_; rintro e w2 ⟨rfl, hb2⟩; have y1 := (hb2.cell (p := ⟨wr.heap.size, 1, none⟩) (by simp)).trans ba1; have y2 := (hb2.cell (p := ⟨wr.heap.size, 2, none⟩) (by simp)).trans ba2; have HB2 := aside (HBa.out.trans (hb2.mono HBa1.out)); clear hb2 ba1 ba2)
                        | (go_at_call 23; refine (HM.out _).mono ?_; rintro e w3 ⟨rfl, rfl⟩))
                      go_ret
                      have hQ : Q = 2 := by
                        have hf : retE rs i = 2 := by unfold retE; rw [if_neg (by rw [HRis.out]; decide), HY.out]; exact HA.out
                        rw [HQR.out, firstE_at (i := i) HIN.out HE.out (by rw [hf]; decide), hf]
                        rfl
                      exact ⟨by rw [hQ]; rfl, HFin.out _ HB2.out⟩
                    have hok : 0 ≤ yb ∧ yb ≤ 1125899906842624 := by omega
                    have HM : Hid (∀ W, Calls Tryd.prog 23 #[.int .i64 yb] W (fun e w' => e = .returned .nilIface ∧ w' = W)) := aside (fun W => by
                      have h := money_any yb W
                      rw [show moneyE yb = 0 from moneyE_zero.2 hok] at h
                      exact h)
                    clear hbad
                    cases yc with
                    | true =>
                      have HA : Hid (moneyE yb = 0) := aside (moneyE_zero.2 hok)
                      have hws : IntKind.i64.wrap (s + yb) = s + yb := by rw [IntKind.wrap_i64]; omega
                      have Hok := aside hok
                      clear hok
                      go_wp2_with (first
                        | (go_at_call 26; refine HR.out.mono ?_; rintro e w2 ⟨rfl, hb2⟩; have y1 := (hb2.cell (p := ⟨wr.heap.size, 1, none⟩) (by simp)).trans ba1; have y2 := (hb2.cell (p := ⟨wr.heap.size, 2, none⟩) (by simp)).trans ba2; have HB2 := aside (HBa.out.trans (hb2.mono HBa1.out)); clear hb2 ba1 ba2)
                        | (go_at_call 23; refine (HM.out _).mono ?_; rintro e w3 ⟨rfl, rfl⟩))
                      exact ⟨⟨i + 1, s, by omega, by go_num, by go_num, by rw [sumR_next rs (by have := HL.out.2.2; omega), HY.out, HSm.out]; show sumP ps n1 + sumR rs i = sumP ps n1 + (sumR rs i + 0); omega, by have := Hok.out; omega, by have := Hok.out; omega, HB2, aside (by rw [firstE_next HE.out]; unfold retE; rw [if_neg (by rw [HRis.out]; decide), HY.out]; exact HA.out)⟩, by simp [Go.RowKit.intOf]; omega⟩
                    | false =>
                      have HA : Hid (moneyE yb = 0) := aside (moneyE_zero.2 hok)
                      have hws : IntKind.i64.wrap (s + yb) = s + yb := by rw [IntKind.wrap_i64]; omega
                      have Hok := aside hok
                      clear hok
                      go_wp2_with (first
                        | (go_at_call 26; refine HR.out.mono ?_; rintro e w2 ⟨rfl, hb2⟩; have y1 := (hb2.cell (p := ⟨wr.heap.size, 1, none⟩) (by simp)).trans ba1; have y2 := (hb2.cell (p := ⟨wr.heap.size, 2, none⟩) (by simp)).trans ba2; have HB2 := aside (HBa.out.trans (hb2.mono HBa1.out)); clear hb2 ba1 ba2)
                        | (go_at_call 23; refine (HM.out _).mono ?_; rintro e w3 ⟨rfl, rfl⟩))
                      exact ⟨⟨i + 1, s + yb, by omega, by go_num, by go_num, by rw [sumR_next rs (by have := HL.out.2.2; omega), HY.out, HSm.out]; show sumP ps n1 + sumR rs i + yb = sumP ps n1 + (sumR rs i + yb); omega, by have := Hok.out; omega, by have := Hok.out; omega, HB2, aside (by rw [firstE_next HE.out]; unfold retE; rw [if_neg (by rw [HRis.out]; decide), HY.out]; exact HA.out)⟩, by simp [Go.RowKit.intOf]; omega⟩
                  · have HRis := aside hris
                    rw [decide_eq_false hris] at HR
                    clear hris
                    go_wp2_with (first
                      | (go_at_call 26; refine HR.out.mono ?_; rintro e w2 ⟨rfl, hb2⟩; have y1 := (hb2.cell (p := ⟨wr.heap.size, 1, none⟩) (by simp)).trans ba1; have y2 := (hb2.cell (p := ⟨wr.heap.size, 2, none⟩) (by simp)).trans ba2; have HB2 := aside (HBa.out.trans (hb2.mono HBa1.out)); clear hb2 ba1 ba2))
                    go_ret
                    have hQ : Q = 6 := by
                      have hf : retE rs i = 6 := by unfold retE; rw [if_pos HRis.out]
                      rw [HQR.out, firstE_at (i := i) HIN.out HE.out (by rw [hf]; decide), hf]
                      rfl
                    exact ⟨by rw [hQ]; rfl, HFin.out _ HB2.out⟩
                · obtain ⟨j, hij⟩ : ∃ j, i = j + 1 := ⟨i - 1, by omega⟩
                  have hw1 : IntKind.i64.wrap ((i : Int) - 1) = (j : Int) := by rw [IntKind.wrap_i64]; omega
                  have hji : (j : Int) ≤ (i : Int) + 1 := by omega
                  have hcj : ¬ c3 = j := by omega
                  have hl2 : i + 1 - j = 2 := by omega
                  have hj0 : 0 < j := by omega
                  have hpart : FSl encR 3 w w.heap.size (some ⟨b, off + j * 3, none⟩) 2 ((rs.drop j).take 2) := FSl.part encR_len (by decide) H3.out (k := j) (m := 2) (by omega) (by decide)
                  have HR : Hid (Calls Tryd.prog 26 #[.slice (some ⟨b, off + j * 3, none⟩) 2 (c3 - j), .func (.func 27) #[] #[]] (wr.alloc (.cells #[.int .i64 ya, .int .i64 yb, .bool yc] 49)) (fun e w' => e = .returned (.bool (decide (firstE (risE keyR (0, 0, false) ((rs.drop j).take 2)) 2 = 0))) ∧ Below (wr.alloc (.cells #[.int .i64 ya, .int .i64 yb, .bool yc] 49)).heap.size (wr.alloc (.cells #[.int .i64 ya, .int .i64 yb, .bool yc] 49)) w')) := aside (risesR_any _ _ _ _ _ ((FSl.below hpart (HW.out.trans (HAl.out.mono HW.out.size))).more (Nat.le_trans HW.out.size HAl.out.size)) (by decide))
                  clear hpart
                  rw [ris_two, ← hij] at HR
                  clear hij h0 h1
                  by_cases hris : risE keyR (0, 0, false) rs i = 0
                  · have HRis := aside hris
                    rw [decide_eq_true hris] at HR
                    clear hris
                    by_cases hbad : yb < 0 ∨ 1125899906842624 < yb
                    · have HA : Hid (moneyE yb = 2) := aside (by unfold moneyE; rw [if_pos (by omega)])
                      have HM : Hid (∀ W, Calls Tryd.prog 23 #[.int .i64 yb] W (fun e w' => e = .returned (.iface 28 (.int .i64 2)) ∧ w' = W)) := aside (fun W => by
                        have h := money_any yb W
                        rw [show moneyE yb = 2 by unfold moneyE; rw [if_pos hbad]] at h
                        exact h)
                      clear hbad
                      go_wp2_with (first
                        | (go_at_call 26; refine HR.out.mono ?_; rintro e w2 ⟨rfl, hb2⟩; have y1 := (hb2.cell (p := ⟨wr.heap.size, 1, none⟩) (by simp)).trans ba1; have y2 := (hb2.cell (p := ⟨wr.heap.size, 2, none⟩) (by simp)).trans ba2; have HB2 := aside (HBa.out.trans (hb2.mono HBa1.out)); clear hb2 ba1 ba2)
                        | (go_at_call 23; refine (HM.out _).mono ?_; rintro e w3 ⟨rfl, rfl⟩))
                      go_ret
                      have hQ : Q = 2 := by
                        have hf : retE rs i = 2 := by unfold retE; rw [if_neg (by rw [HRis.out]; decide), HY.out]; exact HA.out
                        rw [HQR.out, firstE_at (i := i) HIN.out HE.out (by rw [hf]; decide), hf]
                        rfl
                      exact ⟨by rw [hQ]; rfl, HFin.out _ HB2.out⟩
                    have hok : 0 ≤ yb ∧ yb ≤ 1125899906842624 := by omega
                    have HM : Hid (∀ W, Calls Tryd.prog 23 #[.int .i64 yb] W (fun e w' => e = .returned .nilIface ∧ w' = W)) := aside (fun W => by
                      have h := money_any yb W
                      rw [show moneyE yb = 0 from moneyE_zero.2 hok] at h
                      exact h)
                    clear hbad
                    cases yc with
                    | true =>
                      have HA : Hid (moneyE yb = 0) := aside (moneyE_zero.2 hok)
                      have hws : IntKind.i64.wrap (s + yb) = s + yb := by rw [IntKind.wrap_i64]; omega
                      have Hok := aside hok
                      clear hok
                      go_wp2_with (first
                        | (go_at_call 26; refine HR.out.mono ?_; rintro e w2 ⟨rfl, hb2⟩; have y1 := (hb2.cell (p := ⟨wr.heap.size, 1, none⟩) (by simp)).trans ba1; have y2 := (hb2.cell (p := ⟨wr.heap.size, 2, none⟩) (by simp)).trans ba2; have HB2 := aside (HBa.out.trans (hb2.mono HBa1.out)); clear hb2 ba1 ba2)
                        | (go_at_call 23; refine (HM.out _).mono ?_; rintro e w3 ⟨rfl, rfl⟩))
                      exact ⟨⟨i + 1, s, by omega, by go_num, by go_num, by rw [sumR_next rs (by have := HL.out.2.2; omega), HY.out, HSm.out]; show sumP ps n1 + sumR rs i = sumP ps n1 + (sumR rs i + 0); omega, by have := Hok.out; omega, by have := Hok.out; omega, HB2, aside (by rw [firstE_next HE.out]; unfold retE; rw [if_neg (by rw [HRis.out]; decide), HY.out]; exact HA.out)⟩, by simp [Go.RowKit.intOf]; omega⟩
                    | false =>
                      have HA : Hid (moneyE yb = 0) := aside (moneyE_zero.2 hok)
                      have hws : IntKind.i64.wrap (s + yb) = s + yb := by rw [IntKind.wrap_i64]; omega
                      have Hok := aside hok
                      clear hok
                      go_wp2_with (first
                        | (go_at_call 26; refine HR.out.mono ?_; rintro e w2 ⟨rfl, hb2⟩; have y1 := (hb2.cell (p := ⟨wr.heap.size, 1, none⟩) (by simp)).trans ba1; have y2 := (hb2.cell (p := ⟨wr.heap.size, 2, none⟩) (by simp)).trans ba2; have HB2 := aside (HBa.out.trans (hb2.mono HBa1.out)); clear hb2 ba1 ba2)
                        | (go_at_call 23; refine (HM.out _).mono ?_; rintro e w3 ⟨rfl, rfl⟩))
                      exact ⟨⟨i + 1, s + yb, by omega, by go_num, by go_num, by rw [sumR_next rs (by have := HL.out.2.2; omega), HY.out, HSm.out]; show sumP ps n1 + sumR rs i + yb = sumP ps n1 + (sumR rs i + yb); omega, by have := Hok.out; omega, by have := Hok.out; omega, HB2, aside (by rw [firstE_next HE.out]; unfold retE; rw [if_neg (by rw [HRis.out]; decide), HY.out]; exact HA.out)⟩, by simp [Go.RowKit.intOf]; omega⟩
                  · have HRis := aside hris
                    rw [decide_eq_false hris] at HR
                    clear hris
                    go_wp2_with (first
                      | (go_at_call 26; refine HR.out.mono ?_; rintro e w2 ⟨rfl, hb2⟩; have y1 := (hb2.cell (p := ⟨wr.heap.size, 1, none⟩) (by simp)).trans ba1; have y2 := (hb2.cell (p := ⟨wr.heap.size, 2, none⟩) (by simp)).trans ba2; have HB2 := aside (HBa.out.trans (hb2.mono HBa1.out)); clear hb2 ba1 ba2))
                    go_ret
                    have hQ : Q = 6 := by
                      have hf : retE rs i = 6 := by unfold retE; rw [if_pos HRis.out]
                      rw [HQR.out, firstE_at (i := i) HIN.out HE.out (by rw [hf]; decide), hf]
                      rfl
                    exact ⟨by rw [hQ]; rfl, HFin.out _ HB2.out⟩
            · have hie : i = n3 := by omega
              have hin' : ((i : Int) < (n3 : Int)) = False := by simp only [eq_iff_iff, iff_false]; omega
              have HQL : Hid (Q = if s ≠ l then 9 else 0) := aside (by have h := HQR.out; rw [← hie, if_neg (by rw [HE.out]; decide), ← hs] at h; exact h)
              clear hie hs
              obtain ⟨a0, -, -, -⟩ := HX.out _ HB.out
              by_cases hsl : s = l
              · have HQ0 : Hid (Q = 0) := aside (by rw [HQL.out, if_neg (by simpa using hsl)])
                have hsl' : (s == l) = true := by rw [hsl]; exact beq_self_eq_true l
                clear hsl
                go_wp2
                go_ret
                exact ⟨by rw [HQ0.out]; rfl, HFin.out _ HB.out⟩
              · have HQ0 : Hid (Q = 9) := aside (by rw [HQL.out, if_pos hsl])
                have hsl' : (s == l) = false := by simp only [beq_eq_false_iff_ne, ne_eq]; exact hsl
                clear hsl
                go_wp2
                go_ret
                exact ⟨by rw [HQ0.out]; rfl, HFin.out _ HB.out⟩
        · rw [decide_eq_false hri] at HRI
          have HQR : Hid (Q = 6) := aside (by have h := HQ2.out; rw [if_pos hri] at h; exact h)
          clear hri HQ2
          go_wp2_with (go_at_call 24; refine HRI.out.mono ?_; rintro e w2 ⟨rfl, hb2⟩; have HB2 := aside (HB.out.trans (hb2.mono hsz)); clear hb2)
          go_ret
          exact ⟨by rw [HQR.out]; rfl, HFin.out _ HB2.out⟩
end Go.Proofs.YtcmlhopidohimaaDoor
