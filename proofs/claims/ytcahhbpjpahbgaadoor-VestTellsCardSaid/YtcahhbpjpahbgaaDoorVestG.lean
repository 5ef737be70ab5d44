/- VestTells at a right grant. Condition: errors.errorType reads as the program's text lays it (the card ties it). -/
import Derived.Test.YtcahhbpjpahbgaaDoorVestB
namespace Go.Proofs.YtcahhbpjpahbgaaDoor
open Go.RowKit Go.ChangeShapes Go.WideShapes Go.ChangeAt

set_option maxRecDepth 100000 in
set_option maxHeartbeats 4000000 in
theorem tells_good (t s c l now : Int) (ts : List Int) (A : Option Addr) (n cap : Nat) (w : World) (hg : ErrVar w) (hcap : n ≤ cap) (hmax : cap ≤ maxLen) (hts : ISl w w.heap.size A n ts) (_hreach : n * 8 ≤ 140737488351232) (hok : GOk t s c l) :
    Calls Tryd.prog 3 #[.agg #[.int .i64 t, .int .i64 s, .int .i64 c, .int .i64 l], .int .i64 now, .slice A n cap] w (LawPost w) := by
  have Hlen := aside hts.len
  have Hts := aside hts
  have Hlt := aside (errVar_lt hg)
  have hg0 : ErrVar (w.alloc (.cells #[.int .i64 t, .int .i64 s, .int .i64 c, .int .i64 l] 23)) := (World.cell?_alloc_lt _ _ ⟨0, 0, none⟩ (errVar_lt hg)).trans hg
  have Hg := aside hg0
  have Hcap := aside (And.intro hcap hmax)
  clear hg hg0 hts hcap hmax
  have hz0 : w.heap.size < w.heap.size + 1 := by omega
  go_enter Tryd.func3, Tryd.ntmps3
  go_wp2_with fail
  refine (granted_any _).mono ?_
  rintro e w1 ⟨rfl, hb1⟩
  have hB1 : Below (w.heap.size + 1) (w.alloc (.cells #[.int .i64 t, .int .i64 s, .int .i64 c, .int .i64 l] 23)) w1 := hb1.mono (by simp)
  have hg1 : ErrVar w1 := Hg.out.below (Nat.lt_succ_of_lt Hlt.out) hB1
  have hz1 : w.heap.size < w1.heap.size := by have := hB1.size; simp at this; omega
  obtain ⟨hc1, hf1⟩ := bcell hB1
  go_wp2_with fail
  refine (fault_any t s c l _).mono ?_
  rintro e w2 ⟨q2, rfl, ⟨_, rfl⟩ | ⟨h2, _⟩, hb2⟩
  rotate_left
  · exact absurd hok h2
  have hB2 := hB1.trans (hb2.mono (by have := hB1.size; simpa using this))
  clear hb2 hc1 hf1 hg1 hz1 hB1
  have hg2 : ErrVar w2 := Hg.out.below (Nat.lt_succ_of_lt Hlt.out) hB2
  have hz2 : w.heap.size < w2.heap.size := by have := hB2.size; simp at this; omega
  obtain ⟨hc2, hf2⟩ := bcell hB2
  go_wp2_with fail
  refine (check_any t s c l _).mono ?_
  rintro e w3 h3
  obtain ⟨q3, rfl, ⟨_, rfl⟩ | ⟨h3, _⟩, hb3⟩ := PostCheck.err h3
  rotate_left
  · exact absurd hok h3
  have hB3 := hB2.trans (hb3.mono (by have := hB2.size; simpa using this))
  clear hb3 hc2 hf2 hg2 hz2 hB2
  have hg3 : ErrVar w3 := Hg.out.below (Nat.lt_succ_of_lt Hlt.out) hB3
  have hz3 : w.heap.size < w3.heap.size := by have := hB3.size; simp at this; omega
  obtain ⟨hc3, hf3⟩ := bcell hB3
  rw [errOf_nil]
  go_wp2_with fail
  refine (error_at (k := 0) rfl hg3).mono ?_
  rintro e w4 ⟨rfl, hb4⟩
  have hB4 := hB3.trans (hb4.mono (by have := hB3.size; simpa using this))
  clear hb4 hc3 hf3 hg3 hz3 hB3
  have hg4 : ErrVar w4 := Hg.out.below (Nat.lt_succ_of_lt Hlt.out) hB4
  have hz4 : w.heap.size < w4.heap.size := by have := hB4.size; simp at this; omega
  obtain ⟨hc4, hf4⟩ := bcell hB4
  go_wp2_with fail
  refine (refV_any t s c l now _ hok).mono ?_
  rintro e w5 ⟨u5, q5, rfl, h5, hb5⟩
  have hB5 := hB4.trans (hb5.mono (by have := hB4.size; simpa using this))
  clear hb5 hc4 hf4 hg4 hz4 hB4
  have hg5 : ErrVar w5 := Hg.out.below (Nat.lt_succ_of_lt Hlt.out) hB5
  have hz5 : w.heap.size < w5.heap.size := by have := hB5.size; simp at this; omega
  obtain ⟨hc5, hf5⟩ := bcell hB5
  go_wp2_with fail
  refine (at_any t s c l now _).mono ?_
  rintro e w6 h6
  obtain ⟨u6, q6, rfl, h6, hb6⟩ := PostAt.err h6
  have hB6 := hB5.trans (hb6.mono (by have := hB5.size; simpa using this))
  clear hb6 hc5 hf5 hg5 hz5 hB5
  have hg6 : ErrVar w6 := Hg.out.below (Nat.lt_succ_of_lt Hlt.out) hB6
  have hz6 : w.heap.size < w6.heap.size := by have := hB6.size; simp at this; omega
  obtain ⟨hc6, hf6⟩ := bcell hB6
  obtain ⟨rfl, rfl⟩ : q6 = q5 ∧ u6 = u5 := by
    rcases h5 with ⟨a1, rfl, rfl⟩ | ⟨a1, rfl, rfl⟩
    · rcases h6 with ⟨_, rfl, rfl⟩ | ⟨b1, _, _⟩
      · exact ⟨rfl, rfl⟩
      · exact absurd ⟨hok, a1⟩ b1
    · rcases h6 with ⟨b1, _, _⟩ | ⟨_, rfl, rfl⟩
      · exact absurd b1.2 a1
      · exact ⟨rfl, rfl⟩
  clear h5 h6
  generalize hv6 : errOf q6 = v6
  have Hv6 := aside hv6
  clear hv6
  have hu6 : (u6 != u6) = false := by simp
  go_wp2_with fail
  refine (error_at Hv6.out hg6).mono ?_
  rintro e w7 ⟨rfl, hb7⟩
  have hB7 := hB6.trans (hb7.mono (by have := hB6.size; simpa using this))
  clear hb7 hc6 hf6 hg6 hz6 hB6
  have hg7 : ErrVar w7 := Hg.out.below (Nat.lt_succ_of_lt Hlt.out) hB7
  have hz7 : w.heap.size < w7.heap.size := by have := hB7.size; simp at this; omega
  obtain ⟨hc7, hf7⟩ := bcell hB7
  have hqq : (q6 == q6) = true := by simp
  rw [hqq]
  clear hqq
  have hs7 : ISl w7 w7.heap.size A n ts := Sl.more (Sl.keep Hts.out (fun p hp => by rw [hB7.cell (show p.block < w.heap.size + 1 by omega), World.cell?_alloc_lt _ _ _ hp])) (by omega)
  by_cases hn : n ≤ 100
  · have hgb : GOk t s c l := hok
    obtain ⟨g1, g2, _⟩ := hgb
    clear hc7 hf7
    go_wp2_with fail
    go_loopw [8, 15, 16, 17] (fun v8 v15 v16 v17 wr => ∃ (k : Nat) (ec la : Int) (xs : List Int), k ≤ n ∧ v17 = .int .i64 k ∧ v8 = .int .i64 ec ∧ v16 = .int .i64 la ∧ Below (w.heap.size + 1) (w.alloc (.cells #[.int .i64 t, .int .i64 s, .int .i64 c, .int .i64 l] 23)) wr ∧ IRow wr (w.heap.size + 1) v15 xs ∧ xs.length = k ∧
        ((ec = 0 ∧ la = lastV t s c l ts k ∧ FineTo ts k ∧ xs = stepsTo t s c l ts k) ∨ (ec ≠ 0 ∧ StepsErr t s c l ts ec))) (fun _ _ _ v17 _ => n - (intOf v17).toNat)
    case atStart => exact ⟨0, 0, 0, [], Nat.zero_le _, rfl, rfl, rfl, hB7, World.ownsRow_nil _ _ _ _, rfl, .inl ⟨rfl, rfl, fun j hj => absurd hj (by omega), rfl⟩⟩
    case round =>
      obtain ⟨k, ec, la, xs, hk, rfl, rfl, rfl, hb, hrow, hxl, hcase⟩ := hrel
      have hz := hb.size
      simp only [World.size_alloc] at hz
      have hzz : w.heap.size < wr.heap.size := hz
      have hgr : ErrVar wr := Hg.out.below (Nat.lt_succ_of_lt Hlt.out) hb
      have Hgr := aside hgr
      clear hgr hg7
      have hsr : ISl wr wr.heap.size A n ts := Sl.more (Sl.keep Hts.out (fun p hp => by rw [hb.cell (show p.block < w.heap.size + 1 by omega), World.cell?_alloc_lt _ _ _ hp])) (by omega)
      obtain ⟨hbc, hbf⟩ := bcell hb
      have hl := Hlen.out
      rcases hcase with ⟨rfl, rfl, hfine, rfl⟩ | ⟨hne, herr⟩
      · by_cases hlt : k < n
        · obtain ⟨b, off, rfl, hbl, hc⟩ := hsr.at_ hlt
          have hcp : ∀ m, k = m + 1 → wr.cell? ⟨b, off + m, none⟩ = some (.int .i64 (nth ts m)) := by
            intro m hm
            obtain ⟨b', off', hA, _, hc'⟩ := hsr.at_ (k := m) (by omega)
            simp only [Option.some.injEq, Addr.mk.injEq, and_true] at hA
            obtain ⟨rfl, rfl⟩ := hA
            exact hc'
          have hG0 : wr.cell? ⟨w.heap.size, 0, none⟩ = some (.int .i64 t) := by rw [hbc _ _ (by omega), World.cell?_alloc_at _ _ _ _ rfl]; rfl
          have hG1 : wr.cell? ⟨w.heap.size, 1, none⟩ = some (.int .i64 s) := by rw [hbc _ _ (by omega), World.cell?_alloc_at _ _ _ _ rfl]; rfl
          have hG2 : wr.cell? ⟨w.heap.size, 2, none⟩ = some (.int .i64 c) := by rw [hbc _ _ (by omega), World.cell?_alloc_at _ _ _ _ rfl]; rfl
          have hG3 : wr.cell? ⟨w.heap.size, 3, none⟩ = some (.int .i64 l) := by rw [hbc _ _ (by omega), World.cell?_alloc_at _ _ _ _ rfl]; rfl
          have hi1 : (k : Int) < (n : Int) := by omega
          have hi2 : (0 : Int) ≤ (k : Int) := by omega
          have Hcp := aside hcp
          have Hl := aside hl
          have Hb := aside hb
          have hxk : (stepsTo t s c l ts k).length ≤ 100 := by rw [stepsTo_len]; omega
          have b2 := lastV_bd t s c l ts k hok
          have ⟨b21, b22⟩ := b2
          clear hcp hbc hbf hl hB7 hsr b2 hxl
          obtain ⟨xs, hxs⟩ : ∃ xs, xs = stepsTo t s c l ts k := ⟨_, rfl⟩
          obtain ⟨la, hla⟩ : ∃ la, la = lastV t s c l ts k := ⟨_, rfl⟩
          rw [← hxs] at hrow hxk
          rw [← hla] at b21 b22 ⊢
          have Hxs := aside hxs
          have Hla := aside hla
          clear hxs hla
          go_wp2_with fail
          go_region_with (go_at_call 8; refine (refV_any _ _ _ _ _ _ hok).mono ?_; rintro e w2 ⟨n2, q2, rfl, hr2, hb2⟩)
          all_goals
            have hrow2 : IRow w2 (w.heap.size + 1) u15 xs := own_below (w := wr) hrow ⟨hb2.os, hb2.tape, hb2.output, hb2.size, hb2.block⟩
            have hz2 : wr.heap.size ≤ w2.heap.size := hb2.size
            have hbB : Below (w.heap.size + 1) (w.alloc (.cells #[.int .i64 t, .int .i64 s, .int .i64 c, .int .i64 l] 23)) w2 := Hb.out.trans ((show Below wr.heap.size wr w2 from ⟨hb2.os, hb2.tape, hb2.output, hb2.size, hb2.block⟩).mono hz)
            obtain ⟨hbc2, hbf2⟩ := bcell hbB
            have hc2 : w2.cell? ⟨b, off + k, none⟩ = some (.int .i64 (nth ts k)) := by rw [hb2.cell (p := ⟨b, off + k, none⟩) (show b < wr.heap.size from hbl)]; exact hc
            have hcp2 : ∀ m, k = m + 1 → w2.cell? ⟨b, off + m, none⟩ = some (.int .i64 (nth ts m)) := fun m hm => by rw [hb2.cell (p := ⟨b, off + m, none⟩) (show b < wr.heap.size from hbl)]; exact Hcp.out m hm
            have Hcp2 := aside hcp2
            have next : ∀ (w3 : World) (A3 : Option Addr) (c3 : Nat) (d : Int), w3.ownsRow (w.heap.size + 1) 3 1 (.slice A3 (xs.length + 1) c3) (xs.length + 1) (xs.map (Value.int .i64) ++ #[Value.int .i64 d].toList) → IRow w3 (w.heap.size + 1) (.slice A3 (xs.length + 1) c3) (xs ++ [d]) ∧ (xs ++ [d]).length = k + 1 := by
              intro w3 A3 c3 d h3
              exact ⟨IRow.push rfl h3, by rw [List.length_append, Hxs.out, stepsTo_len]; rfl⟩
            have Hnext := aside next
            clear hcp2 next hbc2 hbf2 hrow hb2 hb hc hG0 hG1 hG2 hG3
            rcases hr2 with ⟨ht, rfl, rfl⟩ | ⟨ht, rfl, rfl⟩
            · have b1 := vested_bd t s c l (nth ts k) hok
              have ⟨b11, b12⟩ := b1
              clear b1
              rcases Nat.eq_zero_or_pos k with hk0 | hk0
              · subst hk0
                go_wp2_with fail
                go_quiet (fail)
                go_wp2_with (at_builtin; refine wpList_push rfl (.tmp 107) (.tmp 111) 24 rfl (w.heap.size + 1) _ 1 8 Tryd.underlying24 intInfo rfl (by decide) _ _ _ rfl rfl rfl rfl (hrow2.drewN _) (by omega) (by unfold maxLen; omega) (show w.heap.size + 1 ≤ w2.heap.size by omega) ?_)
                intro A3 c3 w3 _ _ hown3 hb3 hz3 _
                go_wp2
                refine ⟨⟨1, 0, _, _, by omega, rfl, rfl, rfl, (below_drawn hbB _).trans hb3, (Hnext.out _ _ _ _ hown3).1, (Hnext.out _ _ _ _ hown3).2, .inl ⟨rfl, (lastV_succ t s c l ts 0).symm, fine_succ hfine ht (by omega), ?_⟩⟩, by simp [intOf] <;> omega⟩
                rw [stepsTo_succ, Hxs.out, Hla.out]; rfl
              · obtain ⟨m, rfl⟩ : ∃ m, k = m + 1 := ⟨k - 1, by omega⟩
                have hcm := Hcp2.out m rfl
                have hw1 : IntKind.i64.wrap ((m : Int) + 1 - 1) = (m : Int) := by rw [show (m : Int) + 1 - 1 = (m : Int) from by omega]; exact IntWalk.i64_in _ (by omega)
                have hj1 : (m : Int) < (n : Int) := by omega
                have hj2 : (0 : Int) ≤ (m : Int) := by omega
                by_cases hle : nth ts m ≤ nth ts (m + 1)
                · go_wp2_with fail
                  go_quiet (fail)
                  go_wp2_with (at_builtin; refine wpList_push rfl (.tmp 107) (.tmp 111) 24 rfl (w.heap.size + 1) _ 1 8 Tryd.underlying24 intInfo rfl (by decide) _ _ _ rfl rfl rfl rfl (hrow2.drewN _) (by omega) (by unfold maxLen; omega) (show w.heap.size + 1 ≤ w2.heap.size by omega) ?_)
                  intro A3 c3 w3 _ _ hown3 hb3 hz3 _
                  go_wp2
                  refine ⟨⟨m + 1 + 1, 0, _, _, by omega, by go_num, rfl, rfl, (below_drawn hbB _).trans hb3, (Hnext.out _ _ _ _ hown3).1, (Hnext.out _ _ _ _ hown3).2, .inl ⟨rfl, (lastV_succ t s c l ts (m + 1)).symm, fine_succ hfine ht (fun _ => hle), ?_⟩⟩, by simp [intOf] <;> omega⟩
                  rw [stepsTo_succ, Hxs.out, Hla.out]; rfl
                · have hgt : nth ts (m + 1) < nth ts m := by omega
                  go_wp2_with fail
                  go_quiet (fail)
                  go_wp2_with (at_builtin; refine wpList_push rfl (.tmp 107) (.tmp 111) 24 rfl (w.heap.size + 1) _ 1 8 Tryd.underlying24 intInfo rfl (by decide) _ _ _ rfl rfl rfl rfl (hrow2.drewN _) (by omega) (by unfold maxLen; omega) (show w.heap.size + 1 ≤ w2.heap.size by omega) ?_)
                  intro A3 c3 w3 _ _ hown3 hb3 hz3 _
                  go_wp2
                  exact ⟨⟨m + 1 + 1, 8, _, _, by omega, by go_num, rfl, rfl, (below_drawn hbB _).trans hb3, (Hnext.out _ _ _ _ hown3).1, (Hnext.out _ _ _ _ hown3).2, .inr ⟨by decide, .inr (.inr ⟨hok, by have := Hl.out; omega, m + 1, by have := Hl.out; omega, hfine, .inr ⟨ht, by omega, hgt, rfl⟩⟩)⟩⟩, by simp [intOf] <;> omega⟩
            · go_wp2_with fail
              go_quiet (fail)
              go_wp2_with (at_builtin; refine wpList_push rfl (.tmp 107) (.tmp 111) 24 rfl (w.heap.size + 1) _ 1 8 Tryd.underlying24 intInfo rfl (by decide) _ _ _ rfl rfl rfl rfl (hrow2.drewN _) (by omega) (by unfold maxLen; omega) (show w.heap.size + 1 ≤ w2.heap.size by omega) ?_)
              intro A3 c3 w3 _ _ hown3 hb3 hz3 _
              go_wp2
              exact ⟨⟨k + 1, 2, _, _, by omega, by go_num, rfl, rfl, (below_drawn hbB _).trans hb3, (Hnext.out _ _ _ _ hown3).1, (Hnext.out _ _ _ _ hown3).2, .inr ⟨by decide, .inr (.inr ⟨hok, by have := Hl.out; omega, k, by have := Hl.out; omega, hfine, .inl ⟨ht, rfl⟩⟩)⟩⟩, by simp [intOf] <;> omega⟩
        · obtain rfl : k = n := by omega
          have hxk : (stepsTo t s c l ts k).length = k := stepsTo_len _ _ _ _ _ _
          obtain ⟨A15, n15, c15, rfl, i15, j15, l15⟩ := hrow.out
          obtain rfl : n15 = k := by have := i15.len; omega
          clear hbc hbf hB7 hxl hxk hrow
          have hgz : w.heap.size < w.heap.size + 1 := by omega
          have hG0 : wr.cell? ⟨w.heap.size, 0, none⟩ = some (.int .i64 t) := by rw [hb.cell (p := ⟨w.heap.size, 0, none⟩) hgz, World.cell?_alloc_at _ _ _ _ rfl]; rfl
          have hG1 : wr.cell? ⟨w.heap.size, 1, none⟩ = some (.int .i64 s) := by rw [hb.cell (p := ⟨w.heap.size, 1, none⟩) hgz, World.cell?_alloc_at _ _ _ _ rfl]; rfl
          have hG2 : wr.cell? ⟨w.heap.size, 2, none⟩ = some (.int .i64 c) := by rw [hb.cell (p := ⟨w.heap.size, 2, none⟩) hgz, World.cell?_alloc_at _ _ _ _ rfl]; rfl
          have hG3 : wr.cell? ⟨w.heap.size, 3, none⟩ = some (.int .i64 l) := by rw [hb.cell (p := ⟨w.heap.size, 3, none⟩) hgz, World.cell?_alloc_at _ _ _ _ rfl]; rfl
          clear hl
          go_wp2_with fail
          refine (steps_any t s c l ts A n15 cap _ Hcap.out.1 Hcap.out.2 hsr).mono ?_
          rintro e w8 h8
          obtain ⟨A8, n8, c8, q8, rfl, hb8, hx⟩ := PostSteps.err h8
          obtain ⟨rfl, rfl, hx8⟩ : q8 = 0 ∧ n8 = n15 ∧ ISl w8 w8.heap.size A8 n8 (stepsTo t s c l ts n15) := by
            rcases hx with ⟨_, _, _, rfl, hx1, hx2⟩ | ⟨hx, _, _⟩
            · exact ⟨rfl, by have := Hlen.out; omega, by rw [← Hlen.out]; exact hx2⟩
            · exact (stepsErr_no hx hok (by have := Hlen.out; omega) (by rw [Hlen.out]; exact hfine)).elim
          rw [errOf_nil]
          clear h8 hx
          have hB8 := hb.trans (hb8.mono (show w.heap.size + 1 ≤ wr.heap.size by omega))
          have hg8 : ErrVar w8 := Hg.out.below (Nat.lt_succ_of_lt Hlt.out) hB8
          have hz8 := hB8.size
          simp only [World.size_alloc] at hz8
          go_wp2_with fail
          refine (error_at (k := 0) rfl hg8).mono ?_
          rintro e w9 ⟨rfl, hb9⟩
          have hB9 := hB8.trans (hb9.mono hz8)
          have hz9 := hB9.size
          simp only [World.size_alloc] at hz9
          go_wp2_with fail
          refine (ints_same (stepsTo t s c l ts n8) A8 A15 n8 c8 c15 _ (Sl.more (Sl.below hx8 hb9) hb9.size) (Sl.more (Sl.below (Sl.more (Sl.below i15 hb8) hb8.size) hb9) hb9.size) (by omega)).mono ?_
          rintro e w10 ⟨rfl, hb10⟩
          have hB10 := hB9.trans (hb10.mono hz9)
          go_wp2
          go_ret
          exact ⟨by simp, ((Below.refl _ _).alloc (Nat.le_refl _) _).trans (hB10.mono (by omega))⟩
      · have hec : (ec == 0) = false := beq_eq_false_iff_ne.2 hne
        have hec2 : (ec != 0) = true := by simpa using hne
        have Herr := aside herr
        have hgz : w.heap.size < w.heap.size + 1 := by omega
        have hG0 : wr.cell? ⟨w.heap.size, 0, none⟩ = some (.int .i64 t) := by rw [hb.cell (p := ⟨w.heap.size, 0, none⟩) hgz, World.cell?_alloc_at _ _ _ _ rfl]; rfl
        have hG1 : wr.cell? ⟨w.heap.size, 1, none⟩ = some (.int .i64 s) := by rw [hb.cell (p := ⟨w.heap.size, 1, none⟩) hgz, World.cell?_alloc_at _ _ _ _ rfl]; rfl
        have hG2 : wr.cell? ⟨w.heap.size, 2, none⟩ = some (.int .i64 c) := by rw [hb.cell (p := ⟨w.heap.size, 2, none⟩) hgz, World.cell?_alloc_at _ _ _ _ rfl]; rfl
        have hG3 : wr.cell? ⟨w.heap.size, 3, none⟩ = some (.int .i64 l) := by rw [hb.cell (p := ⟨w.heap.size, 3, none⟩) hgz, World.cell?_alloc_at _ _ _ _ rfl]; rfl
        clear hne herr hbc hbf hB7 hl hxl
        by_cases hkn : k < n
        all_goals
          go_wp2_with fail
          refine (steps_any t s c l ts A n cap _ Hcap.out.1 Hcap.out.2 hsr).mono ?_
          rintro e w8 h8
          obtain ⟨A8, n8, c8, q8, rfl, hb8, hx⟩ := PostSteps.err h8
          obtain ⟨rfl, rfl⟩ : q8 = ec ∧ n8 = 0 := by
            rcases hx with ⟨_, hx1, hx2, _⟩ | ⟨hx, _, hx3⟩
            · exact (stepsErr_no Herr.out hok hx1 hx2).elim
            · exact ⟨stepsErr_uniq hx Herr.out, hx3⟩
          generalize hv8 : errOf q8 = v8
          have Hv8 := aside hv8
          clear hv8
          clear h8 hx
          have hB8 := hb.trans (hb8.mono (show w.heap.size + 1 ≤ wr.heap.size by omega))
          have hg8 : ErrVar w8 := Hg.out.below (Nat.lt_succ_of_lt Hlt.out) hB8
          have hz8 := hB8.size
          simp only [World.size_alloc] at hz8
          go_wp2_with fail
          refine (error_at Hv8.out hg8).mono ?_
          rintro e w9 ⟨rfl, hb9⟩
          have hB9 := hB8.trans (hb9.mono hz8)
          have hz9 := hB9.size
          simp only [World.size_alloc] at hz9
          have hqq : (q8 == q8) = true := by simp
          rw [hqq]
          clear hqq
          go_wp2_with fail
          refine (ints_same [] A8 none 0 c8 0 _ Sl.nil_ Sl.nil_ (Nat.zero_le _)).mono ?_
          rintro e w10 ⟨rfl, hb10⟩
          have hB10 := hB9.trans (hb10.mono hz9)
          go_wp2
          go_ret
          exact ⟨by simp, ((Below.refl _ _).alloc (Nat.le_refl _) _).trans (hB10.mono (by omega))⟩
  · have hn' : 100 < n := by omega
    clear hn
    go_wp2_with fail
    refine wp_loop_rounds 1 ?_
    rw [rounds_succ]
    go_wp2_with fail
    refine (steps_any t s c l ts A n cap _ Hcap.out.1 Hcap.out.2 hs7).mono ?_
    rintro e w8 h8
    obtain ⟨A8, n8, c8, q8, rfl, hb8, ⟨_, hx, _⟩ | ⟨hx, _, rfl⟩⟩ := PostSteps.err h8
    · have := Hlen.out; omega
    obtain rfl : q8 = 4 := stepsErr_uniq hx (.inr (.inl ⟨hok, by have := Hlen.out; omega, rfl⟩))
    clear h8 hx
    rw [errOf_no (show (4 : Int) ≠ 0 by decide)]
    have hB8 := hB7.trans (hb8.mono (by have := hB7.size; simpa using this))
    clear hb8 hc7 hf7 hg7 hz7 hB7
    have hg8 : ErrVar w8 := Hg.out.below (Nat.lt_succ_of_lt Hlt.out) hB8
    have hz8 : w.heap.size < w8.heap.size := by have := hB8.size; simp at this; omega
    obtain ⟨hc8, hf8⟩ := bcell hB8
    go_wp2_with fail
    refine (error_at (k := 4) (errOf_no (by decide)) hg8).mono ?_
    rintro e w9 ⟨rfl, hb9⟩
    have hB9 := hB8.trans (hb9.mono (by have := hB8.size; simpa using this))
    clear hb9 hc8 hf8 hg8 hz8 hB8
    have hg9 : ErrVar w9 := Hg.out.below (Nat.lt_succ_of_lt Hlt.out) hB9
    have hz9 : w.heap.size < w9.heap.size := by have := hB9.size; simp at this; omega
    obtain ⟨hc9, hf9⟩ := bcell hB9
    go_wp2_with fail
    refine (ints_same [] A8 none 0 c8 0 _ Sl.nil_ Sl.nil_ (Nat.zero_le _)).mono ?_
    rintro e w10 ⟨rfl, hb10⟩
    have hB10 := hB9.trans (hb10.mono (by have := hB9.size; simpa using this))
    go_wp2
    go_ret
    exact ⟨by simp, ((Below.refl _ _).alloc (Nat.le_refl _) _).trans (hB10.mono (by omega))⟩

/-- What the law's arguments are. -/
theorem vestTells_walk {H : Type} {enc : TypeId × Value → H} (W : World) (args : Array Value) (ds : List (DataW H)) (ps : List MemPlace) (hg : ErrVar W)
    (h : LawPre enc Tryd.prog Tryd.f3 W args ds ps) : Calls Tryd.prog 3 args W (LawPost W) := by
  obtain ⟨hA, ⟨base, hval⟩, hlt, hsz⟩ := h
  rw [Tryd.params3] at hA hval hsz
  obtain ⟨v0, v1, v2, d0, d1, d2, p0, p1, p2, rfl, rfl, rfl, h0, h1, h2⟩ := trodAll_three hA
  obtain ⟨t, s, c, l, rfl⟩ := open_grant (hval 0 _ v0 rfl rfl) h0
  obtain ⟨now, rfl, rfl, rfl, _⟩ := open_int Tryd.underlying3 (hval 1 _ v1 rfl rfl) h1
  obtain ⟨A, n, c', zs, rfl, hc1, hc2, hs, hwf, hx⟩ := open_intSlice (hval 2 _ v2 rfl rfl) h2 (fun x hx => hlt x (by simp [hx]))
  have hr := reach_ints hsz (j := 2) rfl rfl Tryd.underlying24 (by kernel_rfl) hx
  by_cases hok : GOk t s c l
  · exact tells_good t s c l now zs A n c' W hg hc1 hc2 hs hr hok
  · exact tells_bad t s c l now zs A n c' W hg hc1 hc2 hs hr hok

set_option maxRecDepth 100000 in
theorem vestTells_lifted (os : Os) (started : os.Started) (H : Type) (enc : TypeId × Value → H) :
    ReturnsInHanded {} Tryd.checked os 3 .any (fun w args => (Rows.vestTellsSpec.pre enc Tryd.prog Tryd.f3 [] false w args ∧ laidMetH Tryd.prog laidList w) ∧ sizedMet enc Tryd.prog Tryd.f3 (OpenSpec.ofChange Rows.vestTellsSpec) false w args)
      (Rows.vestTellsSpec.post enc Tryd.prog Tryd.f3 false true false false) :=
  door_lifted (n := 3) #[.agg #[.int .i64 0, .int .i64 0, .int .i64 0, .int .i64 0], .int .i64 0, .slice none 0 0] 8 started (by kernel_rfl) Tryd.func3 (by kernel_rfl) (by kernel_rfl) (by kernel_rfl) (by kernel_rfl) (by kernel_rfl)
    rfl (by kernel_rfl) (by kernel_rfl) (by kernel_rfl) (fun ds h => by match ds, h with | [a, b, c], _ => rfl) vestTells_walk

theorem VestTells_row : Rows.VestTellsSaid :=
  OpenClaim.holds_of_wide 3 Tryd.f3 rfl rfl rfl rfl rfl rfl rfl ⟨rfl, rfl, rfl, rfl, rfl⟩ rfl rfl rfl rfl rfl (by kernel_rfl) Tryd.func3 (by kernel_rfl)
    (of_decide_eq_true (by kernel_rfl)) (by unfold Func.isWrapper; rw [if_neg (of_decide_eq_false (by kernel_rfl))]; exact ⟨rfl, rfl⟩)
    (fun os started H enc _ => vestTells_lifted os started H enc)

theorem vestTells_noStand : ∀ t ∈ Tryd.f3.params.toList, Tryd.prog.wantsStandIn t = false :=
  List.all_eq_true.1 (show Tryd.f3.params.toList.all (fun t => !Tryd.prog.wantsStandIn t) = true by kernel_rfl) |> fun h t ht => by simpa using h t ht

/-- The statement: the card. -/
theorem VestTells_holds : Rows.VestTellsCardSaid :=
  Claim7.holds_tied_plain_at .later [] [.handle] true (true, "505ac3a3b232716d2bceabaf311754895a2fe189f319986514e1d1c01baabb8f") true
    VestTells_row (fun _ h => by cases h) (by kernel_rfl) (fun _ h => by cases h) vestTells_row_tie rfl ⟨rfl, rfl⟩ (by kernel_rfl) rfl
    (fun f fn hf hfn => by
      obtain rfl : f = 3 := Option.some.inj ((show Tryd.prog.funcNamed "moneyer/moneyerlaw5.VestTells" = some 3 by kernel_rfl).symm.trans hf) |>.symm
      obtain rfl : fn = Tryd.f3 := (Option.some.inj (Tryd.func3.symm.trans hfn)).symm
      exact ⟨by kernel_rfl, fun j t ht => vestTells_noStand t (by
        have h2 : (Tryd.f3.params.toList)[j]? = some t := by simpa using ht
        exact List.mem_of_getElem? h2)⟩)
    (by kernel_rfl)
#print axioms VestTells_holds
end Go.Proofs.YtcahhbpjpahbgaaDoor
