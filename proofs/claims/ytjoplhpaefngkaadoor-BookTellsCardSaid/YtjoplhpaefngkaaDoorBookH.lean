/- Posted: the reference's entry. Conditions: named in each theorem. -/
import Derived.Test.YtjoplhpaefngkaaDoorBookG
namespace Go.Proofs.YtjoplhpaefngkaaDoor
open Go.RowKit Go.ChangeShapes Go.WideShapes Go.ChangeAt

set_option maxRecDepth 100000 in
theorem rwithin_ok (m : Int) (hm : Within m) (w : World) : Calls Tryd.prog 13 #[.int .i64 m] w (fun e w' => e = .returned (.bool true) ∧ w' = w) := by
  obtain ⟨h0, h1⟩ := hm
  go_enter Tryd.func13, Tryd.ntmps13
  go_wp2
  go_ret
  exact ⟨by first | rfl | simp, rfl⟩
set_option maxRecDepth 100000 in
theorem rwithin_bad (m : Int) (hm : ¬ Within m) (w : World) : Calls Tryd.prog 13 #[.int .i64 m] w (fun e w' => e = .returned (.bool false) ∧ w' = w) := by
  have hway : m < -1125899906842624 ∨ (-1125899906842624 ≤ m ∧ 1125899906842624 < m) := by unfold Within at hm; omega
  clear hm
  rcases hway with h | ⟨h, h'⟩
  all_goals go_enter Tryd.func13, Tryd.ntmps13
  all_goals go_wp2
  all_goals go_ret
  all_goals exact ⟨by first | rfl | (simp; omega), rfl⟩

theorem sumAt_rising {M : Int} (hM : 0 ≤ M) {s : List UInt8} {xs : List Ln} (hr : Rises xs) (h : ∀ l ∈ xs, -M ≤ l.2 ∧ l.2 ≤ M) : -M ≤ sumAt s xs ∧ sumAt s xs ≤ M := by
  by_cases he : ∃ v, (s, v) ∈ xs
  · obtain ⟨v, hv⟩ := he
    rw [sumAt_one hr hv]
    exact h _ hv
  · rw [sumAt_none fun v hv => he ⟨v, hv⟩]
    omega
theorem trial_put {mx : Nat} {D : DataW Unit} {f : List UInt8 → Int} (hF : Fine mx D f) (hS : StrMap D) (hN : ∀ x, Maps.has D (kOf x) = true → x.length ≤ maxLen) {ls : List Ln} (h : ∀ l ∈ ls, LnOk l) :
    (trialOf (putAll D f ls) (addAll f ls)).length ≤ mx + ls.length ∧ (∀ l ∈ trialOf (putAll D f ls) (addAll f ls), l.1.length ≤ maxLen) ∧
    (∀ l ∈ trialOf (putAll D f ls) (addAll f ls), -(((ls.length : Int) + 1) * 1125899906842624) ≤ l.2 ∧ l.2 ≤ ((ls.length : Int) + 1) * 1125899906842624) := by
  have hS' := hS.putAll ls f
  refine ⟨?_, fun l hl => ?_, fun l hl => ?_⟩
  · have h1 := size_putAll_le ls D f hF.1.tidy
    have h2 := hF.2.2
    simp only [trialOf, List.length_map, keysOf_len]
    rw [strKeys_len (hF.1.putAll (ls := ls)).tidy]
    omega
  · obtain ⟨t, v⟩ := l
    have h1 := ((mem_trial hS').1 hl).1
    rw [has_putAll _ _ _ _ hF.1.tidy] at h1
    rcases Bool.or_eq_true _ _ ▸ h1 with h1 | h1
    · exact hN t h1
    · obtain ⟨x, hx, e⟩ := List.any_eq_true.1 h1
      have h2 := (h x hx).2.1
      rw [of_decide_eq_true e] at h2
      unfold maxLen
      simp only
      omega
  · obtain ⟨t, v⟩ := l
    rw [((mem_trial hS').1 hl).2]
    exact addAll_bound hF.all h t

/-- What Posted tells. -/
def RefPost (A : Option Addr) (n c : Nat) (D : DataW Unit) (f : List UInt8 → Int) (ls : List Ln) (w : World) (e : Ending) (w' : World) : Prop :=
  Below w.heap.size w w' ∧ ((PostOk 60 D f ls ∧ ∃ A' n' c', e = .returned (.tuple #[.slice A' n' c', .int .i64 0]) ∧ LSl w' w'.heap.size A' n' (trialOf (putAll D f ls) (addAll f ls)) ∧ Far w.heap.size A') ∨
    (¬ PostOk 60 D f ls ∧ e = .returned (.tuple #[.slice A n c, .int .i64 (pErr 60 D f ls)])))
theorem ret2 {A : Option Addr} {n c : Nat} {a b : Int} (h : b = a) : Ending.returned (.tuple #[.slice A n c, .int .i64 a]) = .returned (.tuple #[.slice A n c, .int .i64 b]) := by rw [h]

set_option maxHeartbeats 8000000 in
set_option maxRecDepth 100000 in
theorem refPost_any (A A2 : Option Addr) (n c n2 c2 : Nat) (D : DataW Unit) (f : List UInt8 → Int) (ls : List Ln) (w : World) (h : LSl w w.heap.size A n (trialOf D f)) (hl : LSl w w.heap.size A2 n2 ls)
    (hF : Fine 60 D f) (hS : StrMap D) (hN : ∀ x, Maps.has D (kOf x) = true → x.length ≤ maxLen) :
    Calls Tryd.prog 6 #[.slice A n c, .slice A2 n2 c2] w (RefPost A n c D f ls w) := by
  have hlen := hl.len
  have HF := aside hF
  have HS := aside hS
  have HN := aside hN
  have HA0 := aside h
  clear hF hS hN h
  by_cases n0 : n2 = 0
  · subst n0
    go_enter Tryd.func6, Tryd.ntmps6
    go_wp2
    go_ret2
    exact ⟨Below.refl _ _, .inr ⟨fun h => by have := h.1; omega, ret2 (pErr_none hlen)⟩⟩
  by_cases n1 : 60 < n2
  · have e0 : ((n2 : Int) == 0) = false := by simp; omega
    have e1 : (60 : Int) < (n2 : Int) := by omega
    go_enter Tryd.func6, Tryd.ntmps6
    go_wp2
    go_ret2
    exact ⟨Below.refl _ _, .inr ⟨fun h => by have := h.2.1; omega, ret2 (pErr_full (by omega) (by omega))⟩⟩
  have e0 : ((n2 : Int) == 0) = false := by simp; omega
  have e1 : ((60 : Int) < (n2 : Int)) = False := by simp only [eq_iff_iff, iff_false]; omega
  have hn60 : n2 ≤ 60 := by omega
  go_enter Tryd.func6, Tryd.ntmps6
  go_wp2_with fail
  go_loopw [6, 7, 8] (fun v6 v7 v8 wr => ∃ (k : Nat) (A' : Option Addr) (n' c' : Nat), k ≤ n2 ∧ v8 = .int .i64 k ∧ v6 = .int .i64 (total (ls.take k)) ∧ v7 = .slice A' n' c' ∧ Hid (LSl wr wr.heap.size A' n' (trialOf (putAll D f (ls.take k)) (addAll f (ls.take k)))) ∧ Hid (∀ l ∈ ls.take k, LnOk l) ∧ Hid (k = 0 ∨ Far w.heap.size A') ∧ Below w.heap.size w wr) (fun _ _ v8 _ => n2 - (intOf v8).toNat)
  case atStart => exact ⟨0, A, n, c, Nat.zero_le _, rfl, rfl, rfl, HA0, aside (by simp), aside (.inl rfl), Below.refl _ _⟩
  case round =>
    obtain ⟨k, A1, m1, c1, hk, rfl, rfl, rfl, HL, HA, HFr, hb⟩ := hrel
    have hbz := hb.size
    by_cases k1 : k < n2
    · obtain ⟨b, off, rfl, hlt, c0, c1'⟩ := hl.at_ k1
      have HT := aside (take_next (ls := ls) (k := k) (by omega))
      have HLk : Hid (ls.getD k ([], 0) ∈ ls) := aside (by rw [List.getD_eq_getElem?_getD, List.getElem?_eq_getElem (by omega), Option.getD_some]; exact List.getElem_mem _)
      generalize hgp : ls.getD k ([], 0) = p at c0 c1' HT HLk
      obtain ⟨s, a⟩ := p
      have HG := aside hgp
      clear hgp
      simp only [strV] at c0 c1'
      have d0 := (hb.cell (p := ⟨b, off + k * 2, none⟩) hlt).trans c0
      have d1 := (hb.cell (p := ⟨b, off + k * 2 + 1, none⟩) hlt).trans c1'
      have l0 : b < wr.heap.size := by omega
      have i1 : (k : Int) < (n2 : Int) := by omega
      have i4 : (0 : Int) ≤ (k : Int) := by omega
      have HBad : Hid (¬ LnOk (s, a) → ¬ PostOk 60 D f ls) := aside fun hbad h => hbad (h.2.2.1 _ HLk.out)
      have HBL := aside hb
      clear c0 c1' hb
      by_cases hs : s = []
      · subst hs
        have hbad : ¬ LnOk ([], a) := fun h => by have := h.1; simp at this
        go_wp2
        go_ret2
        exact ⟨HBL.out, .inr ⟨HBad.out hbad, ret2 ((pErr_line (by omega) (by omega) (by omega) HG.out HA.out hbad).trans (by simp))⟩⟩
      have hs0 : 0 < s.length := List.length_pos_iff.2 hs
      have hs1 : ((s.length : Int) < 1) = False := by simp only [eq_iff_iff, iff_false]; omega
      have hs1' : (s.length = 0) = False := by simp only [eq_iff_iff, iff_false]; omega
      have hs1'' : (s.length < 1) = False := by simp only [eq_iff_iff, iff_false]; omega
      by_cases hs2 : 30 < s.length
      · have hbad : ¬ LnOk (s, a) := fun h => by have := h.2.1; simp at this; omega
        have hs2' : (30 : Int) < (s.length : Int) := by omega
        go_wp2
        go_ret2
        exact ⟨HBL.out, .inr ⟨HBad.out hbad, ret2 ((pErr_line (by omega) (by omega) (by omega) HG.out HA.out hbad).trans (by rw [if_pos (by omega)]))⟩⟩
      have hs2' : ((30 : Int) < (s.length : Int)) = False := by simp only [eq_iff_iff, iff_false]; omega
      by_cases ha : Within a
      rotate_left
      · have hbad : ¬ LnOk (s, a) := fun h => ha h.2.2
        have HW := aside ha
        clear ha
        go_wp2_with (first | (go_at_call 13; refine (rwithin_bad a HW.out _).mono ?_; rintro e w' ⟨rfl, rfl⟩) | fail)
        go_ret2
        exact ⟨HBL.out, .inr ⟨HBad.out hbad, ret2 ((pErr_line (by omega) (by omega) (by omega) HG.out HA.out hbad).trans (by rw [if_neg (by omega)]))⟩⟩
      have HW := aside ha
      have HOk : Hid (LnOk (s, a)) := aside ⟨hs0, by simp only; omega, ha⟩
      have hkl : (ls.take k).length = k := by simp; omega
      have hTB := total_bound HA.out
      rw [hkl] at hTB
      have HWr : Hid (wrap64 (total (ls.take k) + a) = total (ls.take k) + a) := aside (by unfold Within at ha; unfold wrap64; omega)
      have HP := aside (trial_put HF.out HS.out HN.out HA.out)
      have hSt := HS.out.putAll (ls.take k) f
      have HBk := aside (HF.out.1.putAll (ls := ls.take k))
      have HRs : Hid (∀ j, -4611686018427387904 ≤ a + sumAt s ((trialOf (putAll D f (ls.take k)) (addAll f (ls.take k))).take j) ∧ a + sumAt s ((trialOf (putAll D f (ls.take k)) (addAll f (ls.take k))).take j) ≤ 4611686018427387904) := aside (by
        intro j
        have h3 := HP.out.2.2
        rw [hkl] at h3
        have hr : Rises ((trialOf (putAll D f (ls.take k)) (addAll f (ls.take k))).take j) := List.Pairwise.sublist ((List.take_sublist j _).map _) (trial_rises _ hSt)
        have h4 := sumAt_rising (M := ((k : Int) + 1) * 1125899906842624) (by omega) (s := s) hr fun l hl => h3 l (List.mem_of_mem_take hl)
        unfold Within at ha
        omega)
      have hm1 : m1 ≤ 200 := by have h5 := HP.out.1; rw [LSl.len HL.out] at h5; omega
      have HSt := aside hSt
      clear hTB hs ha hkl hSt
      have hwr := HWr.out
      go_wp2_with (first | (go_at_call 13; refine (rwithin_ok a HW.out _).mono ?_; rintro e w' ⟨rfl, rfl⟩) | fail)
      clear hwr
      refine (written_any _ A1 m1 c1 s a _ HL.out hm1 (by unfold maxLen; omega) HP.out.2.1 HRs.out).mono ?_
      rintro e w5 ⟨A5, c5, rfl, hL5, hb5, hf5⟩
      have HF5 := aside (hf5.mono hbz)
      rw [written_trial HBk.out HSt.out] at hL5 ⊢
      have HL5 := aside hL5
      have H5 := aside (HBL.out.trans (hb5.mono hbz))
      clear hL5 hb5 d0 d1 hf5
      go_wp2_with fail
      refine ⟨⟨k + 1, A5, _, c5, by omega, by go_num, by rw [HT.out, total_app, HWr.out], rfl, aside ?_, aside ?_, aside (.inr HF5.out), H5.out⟩, by simp [intOf]; omega⟩
      · rw [HT.out, putAll_app, addAll_app]
        exact HL5.out
      · intro l hl
        rw [HT.out] at hl
        rcases List.mem_append.1 hl with hl | hl
        · exact HA.out l hl
        · rw [List.mem_singleton] at hl
          rw [hl]
          exact HOk.out
    · have i1 : ((k : Int) < (n2 : Int)) = False := by simp only [eq_iff_iff, iff_false]; omega
      obtain rfl : k = n2 := by omega
      have htk : ls.take k = ls := List.take_of_length_le (by omega)
      rw [htk] at HL HA ⊢
      clear htk
      have HBL := aside hb
      by_cases h0 : total ls = 0
      rotate_left
      · have e5 : (total ls != 0) = true := by simpa using h0
        go_wp2
        go_ret2
        exact ⟨HBL.out, .inr ⟨fun h => h0 h.2.2.2.1, ret2 (pErr_money (by omega) (by omega) HA.out h0)⟩⟩
      have H0 := aside h0
      rw [h0]
      have HSt := aside (HS.out.putAll ls f)
      have HTB := aside (trial_put HF.out HS.out HN.out HA.out)
      have hm : m1 ≤ 120 := by have h := HTB.out.1; rw [LSl.len HL.out, hlen] at h; omega
      have hml := LSl.len HL.out
      clear h0 hb
      go_wp2_with fail
      go_loopw [9] (fun v9 wq => ∃ (j : Nat), j ≤ m1 ∧ v9 = .int .i64 j ∧ wq = wr ∧ Hid (∀ l ∈ (trialOf (putAll D f ls) (addAll f ls)).take j, Within l.2)) (fun v9 _ => m1 - (intOf v9).toNat)
      case atStart => exact ⟨0, Nat.zero_le _, rfl, rfl, aside (by simp)⟩
      case round =>
        obtain ⟨j, hj, rfl, rfl, HWt⟩ := hrel
        by_cases j1 : j < m1
        · obtain ⟨b, off, rfl, hlt, c0, c1'⟩ := LSl.at_ HL.out j1
          have HT := aside (take_next (ls := trialOf (putAll D f ls) (addAll f ls)) (k := j) (by omega))
          have HMm : Hid ((trialOf (putAll D f ls) (addAll f ls)).getD j ([], 0) ∈ trialOf (putAll D f ls) (addAll f ls)) := aside (by rw [List.getD_eq_getElem?_getD, List.getElem?_eq_getElem (by omega), Option.getD_some]; exact List.getElem_mem _)
          generalize (trialOf (putAll D f ls) (addAll f ls)).getD j ([], 0) = p at c0 c1' HT HMm
          obtain ⟨s, a⟩ := p
          simp only [strV] at c0 c1'
          have i1 : (j : Int) < (m1 : Int) := by omega
          have i4 : (0 : Int) ≤ (j : Int) := by omega
          by_cases ha : Within a
          · have HW := aside ha
            clear ha
            go_wp2_with (first | (go_at_call 13; refine (rwithin_ok a HW.out _).mono ?_; rintro e w' ⟨rfl, rfl⟩) | fail)
            refine ⟨⟨j + 1, by omega, by go_num, by first | rfl | trivial, aside ?_⟩, by simp [intOf]; omega⟩
            intro l hl
            rw [HT.out] at hl
            rcases List.mem_append.1 hl with hl | hl
            · exact HWt.out l hl
            · rw [List.mem_singleton] at hl
              rw [hl]
              exact HW.out
          · have HW := aside ha
            clear ha
            go_wp2_with (first | (go_at_call 13; refine (rwithin_bad a HW.out _).mono ?_; rintro e w' ⟨rfl, rfl⟩) | fail)
            go_ret2
            have hnp : ¬ PostOk 60 D f ls := fun h => by
              have h5 := (mem_trial HSt.out).1 HMm.out
              have h6 := h.2.2.2.2.1 s h5.1
              rw [← h5.2] at h6
              exact HW.out h6
            exact ⟨HBL.out, .inr ⟨hnp, ret2 (pErr_rest (by omega) (by omega) HA.out H0.out hnp)⟩⟩
        · have i1 : ((j : Int) < (m1 : Int)) = False := by simp only [eq_iff_iff, iff_false]; omega
          obtain rfl : j = m1 := by omega
          have hsz : Maps.size (putAll D f ls) = j := by rw [← hml]; simp only [trialOf, List.length_map, keysOf_len]; rw [strKeys_len (HF.out.1.putAll (ls := ls)).tidy]
          have HSz := aside hsz
          clear hsz
          by_cases hz : 60 < j
          · have hz' : (60 : Int) < (j : Int) := by omega
            go_wp2
            go_ret2
            have hnp : ¬ PostOk 60 D f ls := fun h => by have h6 := h.2.2.2.2.2; rw [HSz.out] at h6; omega
            exact ⟨HBL.out, .inr ⟨hnp, ret2 (pErr_rest (by omega) (by omega) HA.out H0.out hnp)⟩⟩
          · have hz' : ((60 : Int) < (j : Int)) = False := by simp only [eq_iff_iff, iff_false]; omega
            go_wp2
            go_ret2
            refine ⟨HBL.out, .inl ⟨⟨by omega, by omega, HA.out, H0.out, fun s hs => ?_, by rw [HSz.out]; omega⟩, A1, j, c1, by first | rfl | trivial, HL.out, HFr.out.resolve_left (by omega)⟩⟩
            have h7 := HWt.out
            rw [List.take_of_length_le (by omega)] at h7
            exact h7 _ ((mem_trial HSt.out).2 ⟨hs, rfl⟩)
end Go.Proofs.YtjoplhpaefngkaaDoor
