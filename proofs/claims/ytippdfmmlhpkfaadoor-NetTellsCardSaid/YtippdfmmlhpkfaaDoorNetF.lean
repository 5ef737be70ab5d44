/- The reference's faults of debts and piles. Conditions: named in each theorem. -/
import Derived.Test.YtippdfmmlhpkfaaDoorNetW
namespace Go.Proofs.YtippdfmmlhpkfaaDoor
open Go.RowKit Go.ChangeShapes Go.WideShapes Go.ChangeAt

theorem intn {a b : Int} (h : b = a) : Ending.returned (.int .i64 a) = .returned (.int .i64 b) := by rw [h]
set_option maxRecDepth 100000 in
theorem rmoney_ok (m : Int) (hm : Money m) (w : World) : Calls Tryd.prog 16 #[.int .i64 m] w (fun e w' => e = .returned (.bool true) ∧ w' = w) := by
  obtain ⟨h0, h1⟩ := hm
  go_enter Tryd.func16, Tryd.ntmps16
  go_wp2
  go_ret
  exact ⟨by first | rfl | simp, rfl⟩
set_option maxRecDepth 100000 in
theorem rmoney_bad (m : Int) (hm : ¬ Money m) (w : World) : Calls Tryd.prog 16 #[.int .i64 m] w (fun e w' => e = .returned (.bool false) ∧ w' = w) := by
  have hway : m < 0 ∨ (0 ≤ m ∧ 1125899906842624 < m) := by unfold Money at hm; omega
  clear hm
  rcases hway with h | ⟨h, h'⟩
  all_goals go_enter Tryd.func16, Tryd.ntmps16
  all_goals go_wp2
  all_goals go_ret
  all_goals exact ⟨by first | rfl | (simp; omega), rfl⟩
set_option maxHeartbeats 4000000 in
set_option maxRecDepth 100000 in
theorem debtsFault_any (ds : List Db) (A : Option Addr) (n c : Nat) (w : World) (h : DSl w w.heap.size A n ds) :
    Calls Tryd.prog 7 #[.slice A n c] w (fun e w' => e = .returned (.int .i64 (dErr ds)) ∧ w' = w) := by
  have hlen := DSl.len3 h
  by_cases n1 : 100 < n
  · have e1 : (100 : Int) < (n : Int) := by omega
    go_enter Tryd.func7, Tryd.ntmps7
    go_wp2
    go_ret
    exact ⟨intn (dErr_full (by omega)), rfl⟩
  have e1 : ((100 : Int) < (n : Int)) = False := by simp only [eq_iff_iff, iff_false]; omega
  go_enter Tryd.func7, Tryd.ntmps7
  go_wp2_with fail
  go_loop [3] (fun v3 => ∃ (k : Nat), k ≤ n ∧ v3 = .int .i64 k ∧ Hid (∀ d ∈ ds.take k, DbOk d)) (fun v3 => n - (Go.RowKit.intOf v3).toNat)
  case atStart => exact ⟨0, Nat.zero_le _, rfl, aside (by simp)⟩
  case round =>
    obtain ⟨k, hk, rfl, HA⟩ := hrel
    by_cases k1 : k < n
    · obtain ⟨b, off, rfl, hlt, d0, d1, d2⟩ := DSl.at3 h k1
      have HT := aside (take_next (ls := ds) (k := k) (0, 0, 0) (by omega))
      have HM := aside (getD_mem (ls := ds) (k := k) (0, 0, 0) (by omega))
      generalize ds.getD k (0, 0, 0) = p at d0 d1 d2 HT HM
      obtain ⟨f, t, a⟩ := p
      simp only [] at d0 d1 d2
      have i1 : (k : Int) < (n : Int) := by omega
      have i4 : (0 : Int) ≤ (k : Int) := by omega
      by_cases hf : f < 0
      · have hd := dErr_bad (ds := ds) (by omega) HM.out (fun h => by have h1 := h.1; simp only at h1; omega)
        have HD := aside hd
        clear hd
        go_wp2
        go_ret
        exact ⟨intn HD.out, rfl⟩
      have hf' : (f < 0) = False := by simp only [eq_iff_iff, iff_false]; omega
      have hf0 : 0 ≤ f := by omega
      by_cases ht : t < 0
      · have hd := dErr_bad (ds := ds) (by omega) HM.out (fun h => by have h1 := h.2.1; simp only at h1; omega)
        have HD := aside hd
        clear hd hf
        go_wp2
        go_ret
        exact ⟨intn HD.out, rfl⟩
      have ht' : (t < 0) = False := by simp only [eq_iff_iff, iff_false]; omega
      have ht0 : 0 ≤ t := by omega
      clear hf ht
      by_cases ha : Money a
      · have HW := aside ha
        have HOk : Hid (DbOk (f, t, a)) := aside ⟨hf0, ht0, ha⟩
        clear ha
        go_wp2_with (first | (go_at_call 16; refine (rmoney_ok a HW.out _).mono ?_; rintro e w' ⟨rfl, rfl⟩) | fail)
        go_round
        case rel =>
          refine ⟨k + 1, by omega, by go_num, aside ?_⟩
          intro d hd
          rw [HT.out] at hd
          rcases List.mem_append.1 hd with hd | hd
          · exact HA.out d hd
          · rw [List.mem_singleton] at hd
            rw [hd]
            exact HOk.out
        case measure => simp [Go.RowKit.intOf]; omega
      · have hd := dErr_bad (ds := ds) (by omega) HM.out (fun h => ha h.2.2)
        have HD := aside hd
        have HW := aside ha
        clear hd ha
        go_wp2_with (first | (go_at_call 16; refine (rmoney_bad a HW.out _).mono ?_; rintro e w' ⟨rfl, rfl⟩) | fail)
        go_ret
        exact ⟨intn HD.out, rfl⟩
    · have i1 : ((k : Int) < (n : Int)) = False := by simp only [eq_iff_iff, iff_false]; omega
      obtain rfl : k = n := by omega
      rw [List.take_of_length_le (by omega)] at HA
      go_wp2
      go_ret
      exact ⟨intn (dErr_ok (by omega) HA.out), rfl⟩
set_option maxHeartbeats 8000000 in
set_option maxRecDepth 100000 in
theorem pilesFault_any (ps : List Ln) (A : Option Addr) (n c : Nat) (w : World) (h : PSl w w.heap.size A n ps) :
    Calls Tryd.prog 11 #[.slice A n c] w (fun e w' => e = .returned (.int .i64 (rErr ps)) ∧ Below w.heap.size w w') := by
  have hlen := PSl.len2 h
  by_cases n1 : 60 < n
  · have e1 : (60 : Int) < (n : Int) := by omega
    go_enter Tryd.func11, Tryd.ntmps11
    go_wp2
    go_ret
    have hd : rErr ps = 4 := by unfold rErr; rw [if_pos (by omega)]
    exact ⟨intn hd, Below.refl _ _⟩
  have e1 : ((60 : Int) < (n : Int)) = False := by simp only [eq_iff_iff, iff_false]; omega
  have HN : Hid (¬ 60 < ps.length) := aside (by omega)
  have hn60 : n ≤ 60 := by omega
  clear n1
  go_enter Tryd.func11, Tryd.ntmps11
  go_wp2_with fail
  go_loopw [3, 4] (fun v3 v12 wr => ∃ (k : Nat), k ≤ n ∧ v12 = .int .i64 k ∧ v3 = .int .i64 (total (ps.take k)) ∧ Hid (Upto ps k) ∧ Hid (∀ p ∈ ps.take k, PlOk p) ∧ Below w.heap.size w wr) (fun _ v12 _ => n - (Go.RowKit.intOf v12).toNat)
  case atStart => exact ⟨0, Nat.zero_le _, rfl, rfl, aside (upto_zero ps), aside (by simp), Below.refl _ _⟩
  case round =>
    obtain ⟨k, hk, rfl, rfl, HU, HA, hb⟩ := hrel
    have hbz := hb.size
    by_cases k1 : k < n
    · obtain ⟨b, off, rfl, hlt, c0, c1⟩ := PSl.at2 h k1
      have HT := aside (take_next (ls := ps) (k := k) (0, 0) (by omega))
      have HU1 := aside (HU.out.next (by omega))
      have HU2 := aside (HU.out.range (by omega))
      have HPr : Hid (∀ m, k = m + 1 → w.cell? ⟨b, off + m * 2, none⟩ = some (.int .i64 (ps.getD m (0, 0)).1) ∧ ((ps.getD k (0, 0)).1 ≤ (ps.getD m (0, 0)).1 → fbP none ps = 6)) := aside (by
        intro m hm
        obtain ⟨b5, o5, e5, -, x0, -⟩ := PSl.at2 h (k := m) (by omega)
        injection e5 with e5
        injection e5 with e5 e6
        subst e5 e6 hm
        exact ⟨x0, HU.out.twice (by omega)⟩)
      generalize hgp : ps.getD k (0, 0) = p at c0 c1 HT HU1 HU2 HPr
      obtain ⟨s, a⟩ := p
      simp only [] at c0 c1 HPr
      have HG := aside hgp
      have d0 := (hb.cell (p := ⟨b, off + k * 2, none⟩) hlt).trans c0
      have d1 := (hb.cell (p := ⟨b, off + k * 2 + 1, none⟩) hlt).trans c1
      have l0 : b < wr.heap.size := by omega
      have i1 : (k : Int) < (n : Int) := by omega
      have i4 : (0 : Int) ≤ (k : Int) := by omega
      have hkl : (ps.take k).length = k := by simp; omega
      have HTB : Hid (-((k : Int) * 1125899906842624) ≤ total (ps.take k) ∧ total (ps.take k) ≤ (k : Int) * 1125899906842624) := aside (by
        have h1 := tot_bnd (xs := ps.take k) (fun l hl => (HA.out l hl).2) (by omega)
        rw [hkl] at h1
        exact h1)
      have HBL := aside hb
      clear c0 c1 hkl hgp
      by_cases k0 : k = 0
      · have g0 : ((0 : Int) < (k : Int)) = False := by simp only [eq_iff_iff, iff_false]; omega
        have g1 : (0 < k) = False := by simp only [eq_iff_iff, iff_false]; omega
        have HR : Hid (¬ PlOk (s, a) → fbP none ps = 2) := aside (HU2.out (by omega))
        have HX : Hid (PlOk (s, a) → Upto ps (k + 1)) := aside (HU1.out (by omega))
        clear HPr k0 hb
        by_cases hs : s < 0
        · have hd := rErr_first HN.out (HR.out fun h => by have h1 := h.1; simp only at h1; omega) (by decide)
          have HD := aside hd
          clear hd
          go_wp2_with fail
          go_quiet (fail)
          go_wp2
          go_ret
          exact ⟨intn HD.out, below_drawn HBL.out _⟩
        have hs' : (s < 0) = False := by simp only [eq_iff_iff, iff_false]; omega
        have hs0 : 0 ≤ s := by omega
        by_cases ha : 1125899906842624 < a
        · have hd := rErr_first HN.out (HR.out fun h => by have h1 := h.2.2; simp only at h1; omega) (by decide)
          have HD := aside hd
          clear hd hs
          go_wp2_with fail
          go_quiet (fail)
          go_wp2
          go_ret
          exact ⟨intn HD.out, below_drawn HBL.out _⟩
        have ha' : (1125899906842624 < a) = False := by simp only [eq_iff_iff, iff_false]; omega
        by_cases hl : a < -1125899906842624
        · have hd := rErr_first HN.out (HR.out fun h => by have h1 := h.2.1; simp only at h1; omega) (by decide)
          have HD := aside hd
          clear hd hs ha
          go_wp2_with fail
          go_quiet (fail)
          go_wp2
          go_ret
          exact ⟨intn HD.out, below_drawn HBL.out _⟩
        have hl' : (a < -1125899906842624) = False := by simp only [eq_iff_iff, iff_false]; omega
        have HOk : Hid (PlOk (s, a)) := aside ⟨hs0, by simp only; omega, by simp only; omega⟩
        have HW : Hid (wrap64 (total (ps.take k) + a) = total (ps.take k) + a) := aside (by have := HTB.out; unfold wrap64; omega)
        clear hs ha hl
        go_wp2_with fail
        go_quiet (fail)
        go_wp2
        refine ⟨⟨k + 1, by omega, by go_num, by rw [HT.out, tot_app, HW.out], aside (HX.out HOk.out), aside ?_, below_drawn HBL.out _⟩, by simp [Go.RowKit.intOf]; omega⟩
        intro d hd
        rw [HT.out] at hd
        rcases List.mem_append.1 hd with hd | hd
        · exact HA.out d hd
        · rw [List.mem_singleton] at hd
          rw [hd]
          exact HOk.out
      · have g0 : (0 : Int) < (k : Int) := by omega
        have g1 : 0 < k := by omega
        obtain ⟨m, hm⟩ : ∃ m, k = m + 1 := ⟨k - 1, by omega⟩
        obtain ⟨z0, hz⟩ := HPr.out m hm
        have HZ := aside hz
        have hu1 : (ps.getD m (0, 0)).1 < s → PlOk (s, a) → Upto ps (k + 1) := fun h => HU1.out fun j hj => (show j = m by omega) ▸ h
        have hu2 : (ps.getD m (0, 0)).1 < s → ¬ PlOk (s, a) → fbP none ps = 2 := fun h => HU2.out fun j hj => (show j = m by omega) ▸ h
        have HX := aside hu1
        have HR := aside hu2
        generalize (ps.getD m (0, 0)).1 = t at z0 HX HR HZ
        clear hz hu1 hu2
        have y0 := (hb.cell (p := ⟨b, off + m * 2, none⟩) hlt).trans z0
        have HM1 : Hid (IntKind.i64.wrap ((k : Int) - 1) = (m : Int)) := aside (by rw [IntKind.wrap_i64]; omega)
        have hm2 : (m : Int) < (n : Int) := by omega
        have hm3 : (0 : Int) ≤ (m : Int) := by omega
        have HJ := aside hm
        clear HPr k0 hb hm z0
        by_cases hst : s ≤ t
        · have hd := rErr_first HN.out (HZ.out hst) (by decide)
          have HD := aside hd
          clear hd
          have hm1 := HM1.out
          go_wp2_with fail
          go_quiet (fail)
          go_wp2
          go_ret
          exact ⟨intn HD.out, below_drawn HBL.out _⟩
        have hst' : (s ≤ t) = False := by simp only [eq_iff_iff, iff_false]; omega
        have HR' := aside (HR.out (by omega))
        have HX' := aside (HX.out (by omega))
        clear hst
        by_cases hs : s < 0
        · have hd := rErr_first HN.out (HR'.out fun h => by have h1 := h.1; simp only at h1; omega) (by decide)
          have HD := aside hd
          clear hd
          have hm1 := HM1.out
          go_wp2_with fail
          go_quiet (fail)
          go_wp2
          go_ret
          exact ⟨intn HD.out, below_drawn HBL.out _⟩
        have hs' : (s < 0) = False := by simp only [eq_iff_iff, iff_false]; omega
        have hs0 : 0 ≤ s := by omega
        by_cases ha : 1125899906842624 < a
        · have hd := rErr_first HN.out (HR'.out fun h => by have h1 := h.2.2; simp only at h1; omega) (by decide)
          have HD := aside hd
          clear hd hs
          have hm1 := HM1.out
          go_wp2_with fail
          go_quiet (fail)
          go_wp2
          go_ret
          exact ⟨intn HD.out, below_drawn HBL.out _⟩
        have ha' : (1125899906842624 < a) = False := by simp only [eq_iff_iff, iff_false]; omega
        by_cases hl : a < -1125899906842624
        · have hd := rErr_first HN.out (HR'.out fun h => by have h1 := h.2.1; simp only at h1; omega) (by decide)
          have HD := aside hd
          clear hd hs ha
          have hm1 := HM1.out
          go_wp2_with fail
          go_quiet (fail)
          go_wp2
          go_ret
          exact ⟨intn HD.out, below_drawn HBL.out _⟩
        have hl' : (a < -1125899906842624) = False := by simp only [eq_iff_iff, iff_false]; omega
        have HOk : Hid (PlOk (s, a)) := aside ⟨hs0, by simp only; omega, by simp only; omega⟩
        have HW : Hid (wrap64 (total (ps.take k) + a) = total (ps.take k) + a) := aside (by have := HTB.out; unfold wrap64; omega)
        clear hs ha hl
        have hm1 := HM1.out
        go_wp2_with fail
        go_quiet (fail)
        go_wp2
        clear hm1
        refine ⟨⟨k + 1, by omega, by go_num, by rw [HT.out, tot_app, HW.out], aside (HX'.out HOk.out), aside ?_, below_drawn HBL.out _⟩, by simp [Go.RowKit.intOf]; omega⟩
        intro d hd
        rw [HT.out] at hd
        rcases List.mem_append.1 hd with hd | hd
        · exact HA.out d hd
        · rw [List.mem_singleton] at hd
          rw [hd]
          exact HOk.out
    · have i1 : ((k : Int) < (n : Int)) = False := by simp only [eq_iff_iff, iff_false]; omega
      obtain rfl : k = n := by omega
      have HBL := aside hb
      have hU := HU.out
      rw [← hlen] at hU
      have HF := aside hU.end_
      rw [List.take_of_length_le (by omega)]
      clear hb hU
      by_cases h0 : total ps = 0
      · have e5 : (total ps != 0) = false := by simp [h0]
        have HE : Hid (rErr ps = 0) := aside (by unfold rErr; rw [if_neg HN.out, if_neg (by rw [HF.out]; decide), if_neg (by omega)])
        clear h0
        go_wp2
        go_ret
        exact ⟨intn HE.out, HBL.out⟩
      · have e5 : (total ps != 0) = true := by simpa using h0
        have HE : Hid (rErr ps = 9) := aside (by unfold rErr; rw [if_neg HN.out, if_neg (by rw [HF.out]; decide), if_pos h0])
        clear h0
        go_wp2
        go_ret
        exact ⟨intn HE.out, HBL.out⟩
end Go.Proofs.YtippdfmmlhpkfaaDoor
