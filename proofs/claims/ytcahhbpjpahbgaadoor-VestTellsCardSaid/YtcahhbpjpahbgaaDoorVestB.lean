/- VestTells: any grant, any time, any times. Condition: errors.errorType reads as the program's text lays it (the card ties it). -/
import Derived.Test.YtcahhbpjpahbgaaDoorVestT
namespace Go.Proofs.YtcahhbpjpahbgaaDoor
open Go.RowKit Go.ChangeShapes Go.WideShapes Go.ChangeAt

set_option maxRecDepth 100000 in
set_option maxHeartbeats 4000000 in
theorem tells_bad (t s c l now : Int) (ts : List Int) (A : Option Addr) (n cap : Nat) (w : World) (hg : ErrVar w) (hcap : n ≤ cap) (hmax : cap ≤ maxLen) (hts : ISl w w.heap.size A n ts) (_hreach : n * 8 ≤ 140737488351232) (hok : ¬ GOk t s c l) :
    Calls Tryd.prog 3 #[.agg #[.int .i64 t, .int .i64 s, .int .i64 c, .int .i64 l], .int .i64 now, .slice A n cap] w (LawPost w) := by
  have Hlen := aside hts.len
  have Hts := aside hts
  have Hlt := aside (errVar_lt hg)
  have hg0 : ErrVar (w.alloc (.cells #[.int .i64 t, .int .i64 s, .int .i64 c, .int .i64 l] 23)) := (World.cell?_alloc_lt _ _ ⟨0, 0, none⟩ (errVar_lt hg)).trans hg
  have Hg := aside hg0
  have Hcap := aside (And.intro hcap hmax)
  clear hg hg0 hts hcap hmax
  have hz0 : w.heap.size < w.heap.size + 1 := by omega
  go_enter Tryd.func3, Tryd.ntmps3
  go_wp2_with fail
  refine (granted_any _).mono ?_
  rintro e w1 ⟨rfl, hb1⟩
  have hB1 : Below (w.heap.size + 1) (w.alloc (.cells #[.int .i64 t, .int .i64 s, .int .i64 c, .int .i64 l] 23)) w1 := hb1.mono (by simp)
  have hg1 : ErrVar w1 := Hg.out.below (Nat.lt_succ_of_lt Hlt.out) hB1
  have hz1 : w.heap.size < w1.heap.size := by have := hB1.size; simp at this; omega
  obtain ⟨hc1, hf1⟩ := bcell hB1
  go_wp2_with fail
  refine (fault_any t s c l _).mono ?_
  rintro e w2 ⟨q2, rfl, ⟨h2, _⟩ | ⟨_, rfl⟩, hb2⟩
  · exact absurd h2 hok
  have hB2 := hB1.trans (hb2.mono (by have := hB1.size; simpa using this))
  clear hb2 hc1 hf1 hg1 hz1 hB1
  have hg2 : ErrVar w2 := Hg.out.below (Nat.lt_succ_of_lt Hlt.out) hB2
  have hz2 : w.heap.size < w2.heap.size := by have := hB2.size; simp at this; omega
  obtain ⟨hc2, hf2⟩ := bcell hB2
  go_wp2_with fail
  refine (check_any t s c l _).mono ?_
  rintro e w3 h3
  obtain ⟨q3, rfl, ⟨h3, _⟩ | ⟨_, rfl⟩, hb3⟩ := PostCheck.err h3
  · exact absurd h3 hok
  have hB3 := hB2.trans (hb3.mono (by have := hB2.size; simpa using this))
  clear hb3 hc2 hf2 hg2 hz2 hB2
  have hg3 : ErrVar w3 := Hg.out.below (Nat.lt_succ_of_lt Hlt.out) hB3
  have hz3 : w.heap.size < w3.heap.size := by have := hB3.size; simp at this; omega
  obtain ⟨hc3, hf3⟩ := bcell hB3
  rw [errOf_no (show (2 : Int) ≠ 0 by decide)]
  go_wp2_with fail
  refine (error_at (k := 2) (errOf_no (by decide)) hg3).mono ?_
  rintro e w4 ⟨rfl, hb4⟩
  have hB4 := hB3.trans (hb4.mono (by have := hB3.size; simpa using this))
  clear hb4 hc3 hf3 hg3 hz3 hB3
  have hg4 : ErrVar w4 := Hg.out.below (Nat.lt_succ_of_lt Hlt.out) hB4
  have hz4 : w.heap.size < w4.heap.size := by have := hB4.size; simp at this; omega
  obtain ⟨hc4, hf4⟩ := bcell hB4
  go_wp2_with fail
  refine (at_any t s c l now _).mono ?_
  rintro e w5 h5
  obtain ⟨u5, q5, rfl, ⟨h5, _⟩ | ⟨_, rfl, rfl⟩, hb5⟩ := PostAt.err h5
  · exact absurd h5.1 hok
  rw [errOf_no (show (2 : Int) ≠ 0 by decide)]
  have hB5 := hB4.trans (hb5.mono (by have := hB4.size; simpa using this))
  clear hb5 hc4 hf4 hg4 hz4 hB4
  have hg5 : ErrVar w5 := Hg.out.below (Nat.lt_succ_of_lt Hlt.out) hB5
  have hz5 : w.heap.size < w5.heap.size := by have := hB5.size; simp at this; omega
  obtain ⟨hc5, hf5⟩ := bcell hB5
  go_wp2_with fail
  refine (error_at (k := 2) (errOf_no (by decide)) hg5).mono ?_
  rintro e w6 ⟨rfl, hb6⟩
  have hB6 := hB5.trans (hb6.mono (by have := hB5.size; simpa using this))
  clear hb6 hc5 hf5 hg5 hz5 hB5
  have hg6 : ErrVar w6 := Hg.out.below (Nat.lt_succ_of_lt Hlt.out) hB6
  have hz6 : w.heap.size < w6.heap.size := by have := hB6.size; simp at this; omega
  obtain ⟨hc6, hf6⟩ := bcell hB6
  go_wp2_with fail
  refine wp_loop_rounds 1 ?_
  rw [rounds_succ]
  have hs6 : ISl w6 w6.heap.size A n ts := Sl.more (Sl.keep Hts.out (fun p hp => by rw [hB6.cell (show p.block < w.heap.size + 1 by omega), World.cell?_alloc_lt _ _ _ hp])) (by omega)
  go_wp2_with fail
  all_goals
    refine (steps_any t s c l ts A n cap _ Hcap.out.1 Hcap.out.2 hs6).mono ?_
    rintro e w7 h7
    obtain ⟨A7, n7, c7, q7, rfl, hb7, ⟨hx, _⟩ | ⟨hx, _, rfl⟩⟩ := PostSteps.err h7
    · exact absurd hx hok
    obtain rfl : q7 = 2 := stepsErr_uniq hx (.inl ⟨hok, rfl⟩)
    clear h7 hx
    rw [errOf_no (show (2 : Int) ≠ 0 by decide)]
    have hB7 := hB6.trans (hb7.mono (by have := hB6.size; simpa using this))
    clear hb7 hc6 hf6 hg6 hz6 hB6
    have hg7 : ErrVar w7 := Hg.out.below (Nat.lt_succ_of_lt Hlt.out) hB7
    have hz7 : w.heap.size < w7.heap.size := by have := hB7.size; simp at this; omega
    obtain ⟨hc7, hf7⟩ := bcell hB7
    go_wp2_with fail
    refine (error_at (k := 2) (errOf_no (by decide)) hg7).mono ?_
    rintro e w8 ⟨rfl, hb8⟩
    have hB8 := hB7.trans (hb8.mono (by have := hB7.size; simpa using this))
    clear hb8 hc7 hf7 hg7 hz7 hB7
    have hg8 : ErrVar w8 := Hg.out.below (Nat.lt_succ_of_lt Hlt.out) hB8
    have hz8 : w.heap.size < w8.heap.size := by have := hB8.size; simp at this; omega
    obtain ⟨hc8, hf8⟩ := bcell hB8
    go_wp2_with fail
    refine (ints_same [] A7 none 0 c7 0 _ Sl.nil_ Sl.nil_ (Nat.zero_le _)).mono ?_
    rintro e w9 ⟨rfl, hb9⟩
    have hB9 := hB8.trans (hb9.mono (by have := hB8.size; simpa using this))
    go_wp2
    go_ret
    exact ⟨by simp, ((Below.refl _ _).alloc (Nat.le_refl _) _).trans (hB9.mono (by omega))⟩
end Go.Proofs.YtcahhbpjpahbgaaDoor
