/- RankTells: any numbers, any place, any part. Condition: errors.errorType reads as the program's text lays it (the card ties it). -/
import Derived.Test.YtelmllngcbihjaaDoorRankE
namespace Go.Proofs.YtelmllngcbihjaaDoor
open Go.RowKit Go.ChangeShapes Go.WideShapes Go.ChangeAt

theorem idx_half (n : Nat) : idx n 50 = (n - 1) / 2 := by unfold idx; omega

section
variable (ns : List Int) (A : Option Addr) (n cap : Nat) (w : World)

set_option maxRecDepth 100000 in
set_option maxHeartbeats 4000000 in
theorem tells_ok_ok (j : Nat) (hj : j < n) (p' : Nat) (hp : p' ≤ 100) (hg : ErrVar w) (hs : ISl w w.heap.size A n ns) (hreach : n * 8 ≤ 140737488351232) (hpos : 0 < n) :
    Calls Tryd.prog 4 #[.slice A n cap, .int .i64 (j : Int), .int .i64 (p' : Int)] w (LawPost w) := by
  have hne : ns ≠ [] := ne_nil_of_len (by have := hs.len; omega)
  have Hlen := aside hs.len
  have Hg := aside hg
  have Hs := aside hs
  clear hg hs
  have hn0 : ((n : Int) == 0) = false := by simp; omega
  have Hhalf : Hid (((n : Int) - 1) / 2 = (((n - 1) / 2 : Nat) : Int)) := by show ((n : Int) - 1) / 2 = (((n - 1) / 2 : Nat) : Int); omega
  have hidx := idx_lt hpos hp
  have hmul : (n - 1) * p' ≤ (n - 1) * 100 := Nat.mul_le_mul_left _ hp
  have hcm : ((n : Int) - 1) * (p' : Int) = (((n - 1) * p' : Nat) : Int) := by rw [Int.natCast_mul, show ((n - 1 : Nat) : Int) = (n : Int) - 1 from by omega]
  have hm0 : (0 : Int) ≤ ((n : Int) - 1) * (p' : Int) := by rw [hcm]; omega
  have hm1 : ((n : Int) - 1) * (p' : Int) ≤ 1759218604441600 := by rw [hcm]; omega
  have Hc : Hid (((n : Int) - 1) * (p' : Int) / 100 = ((idx n p' : Nat) : Int)) := by show ((n : Int) - 1) * (p' : Int) / 100 = ((idx n p' : Nat) : Int); rw [hcm]; unfold idx; rfl
  clear hmul hcm
  go_enter Tryd.func4, Tryd.ntmps4
  go_wp2_with fail
  refine (ranked_any _).mono ?_
  rintro e w1 ⟨rfl, hb1⟩
  have hB1 : Below w.heap.size w w1 := hb1
  have hs1 : ISl w1 w1.heap.size A n ns := Sl.more (Sl.below Hs.out hB1) hB1.size
  have hg1 : ErrVar w1 := Hg.out.below (errVar_lt Hg.out) hB1
  go_wp2_with fail
  refine (ref_any ns j A n cap w1 hs1 hreach hj).mono ?_
  rintro e w2 ⟨r2, rfl, hr2, hb2⟩
  have hB2 : Below w.heap.size w w2 := hB1.trans (hb2.mono hB1.size)
  clear hb2 hB1 hs1 hg1
  have hs2 : ISl w2 w2.heap.size A n ns := Sl.more (Sl.below Hs.out hB2) hB2.size
  have hg2 : ErrVar w2 := Hg.out.below (errVar_lt Hg.out) hB2
  go_wp2_with fail
  refine (rank_any ns j A n cap w2 hs2 (by omega)).mono ?_
  rintro e w3 hr3
  obtain ⟨r3, q3, rfl, hb3, h3⟩ := hr3.err
  have hB3 : Below w.heap.size w w3 := hB2.trans (hb3.mono hB2.size)
  clear hb3 hB2 hs2 hg2
  have hs3 : ISl w3 w3.heap.size A n ns := Sl.more (Sl.below Hs.out hB3) hB3.size
  have hg3 : ErrVar w3 := Hg.out.below (errVar_lt Hg.out) hB3
  clear hr3
  obtain ⟨rfl, rfl⟩ : q3 = 0 ∧ r3 = r2 := by
    have hl := Hlen.out
    rcases h3 with ⟨_, _, rfl, g3⟩ | ⟨g1, _, _⟩ | ⟨_, g2, _, _⟩
    · exact ⟨rfl, (by simpa using g3 : IsRank ns j r3).uniq hr2⟩
    · exact absurd g1 hne
    · omega
  clear h3
  generalize hv3 : errOf 0 = v3
  have Hv3 := aside hv3
  clear hv3
  go_wp2_with fail
  refine (error_at Hv3.out hg3).mono ?_
  rintro e w4 ⟨rfl, hb4⟩
  have hB4 : Below w.heap.size w w4 := hB3.trans (hb4.mono hB3.size)
  clear hb4 hB3 hs3 hg3
  have hs4 : ISl w4 w4.heap.size A n ns := Sl.more (Sl.below Hs.out hB4) hB4.size
  have hg4 : ErrVar w4 := Hg.out.below (errVar_lt Hg.out) hB4
  go_wp2_with fail
  rw [Hhalf.out]
  refine (ref_any ns ((n - 1) / 2) A n cap w4 hs4 hreach (by omega)).mono ?_
  rintro e w5 ⟨r5, rfl, hr5, hb5⟩
  have hB5 : Below w.heap.size w w5 := hB4.trans (hb5.mono hB4.size)
  clear hb5 hB4 hs4 hg4
  have hs5 : ISl w5 w5.heap.size A n ns := Sl.more (Sl.below Hs.out hB5) hB5.size
  have hg5 : ErrVar w5 := Hg.out.below (errVar_lt Hg.out) hB5
  go_wp2_with fail
  rw [Hc.out]
  refine (ref_any ns (idx n p') A n cap w5 hs5 hreach hidx).mono ?_
  rintro e w6 ⟨r6, rfl, hr6, hb6⟩
  have hB6 : Below w.heap.size w w6 := hB5.trans (hb6.mono hB5.size)
  clear hb6 hB5 hs5 hg5
  have hs6 : ISl w6 w6.heap.size A n ns := Sl.more (Sl.below Hs.out hB6) hB6.size
  have hg6 : ErrVar w6 := Hg.out.below (errVar_lt Hg.out) hB6
  go_wp2_with fail
  refine (part_any ns p' A n cap w6 hs6 (by omega)).mono ?_
  rintro e w7 hr7
  obtain ⟨r7, q7, rfl, hb7, h7⟩ := hr7.err
  have hB7 : Below w.heap.size w w7 := hB6.trans (hb7.mono hB6.size)
  clear hb7 hB6 hs6 hg6
  have hs7 : ISl w7 w7.heap.size A n ns := Sl.more (Sl.below Hs.out hB7) hB7.size
  have hg7 : ErrVar w7 := Hg.out.below (errVar_lt Hg.out) hB7
  clear hr7
  obtain ⟨rfl, rfl⟩ : q7 = 0 ∧ r7 = r6 := by
    have hl := Hlen.out
    rcases h7 with ⟨_, _, _, rfl, g3⟩ | ⟨g1, _, _⟩ | ⟨_, g2, _, _⟩
    · exact ⟨rfl, (by rw [hl] at g3; simpa using g3 : IsRank ns (idx n p') r7).uniq hr6⟩
    · exact absurd g1 hne
    · omega
  clear h7
  generalize hv7 : errOf 0 = v7
  have Hv7 := aside hv7
  clear hv7
  go_wp2_with fail
  refine (error_at Hv7.out hg7).mono ?_
  rintro e w8 ⟨rfl, hb8⟩
  have hB8 : Below w.heap.size w w8 := hB7.trans (hb8.mono hB7.size)
  clear hb8 hB7 hs7 hg7
  have hs8 : ISl w8 w8.heap.size A n ns := Sl.more (Sl.below Hs.out hB8) hB8.size
  have hg8 : ErrVar w8 := Hg.out.below (errVar_lt Hg.out) hB8
  go_wp2_with fail
  refine (middle_any ns A n cap w8 hs8 (by omega)).mono ?_
  rintro e w9 hr9
  obtain ⟨r9, q9, rfl, hb9, h9⟩ := PostPart.err hr9
  have hB9 : Below w.heap.size w w9 := hB8.trans (hb9.mono hB8.size)
  clear hb9 hB8 hs8 hg8
  have hs9 : ISl w9 w9.heap.size A n ns := Sl.more (Sl.below Hs.out hB9) hB9.size
  have hg9 : ErrVar w9 := Hg.out.below (errVar_lt Hg.out) hB9
  clear hr9
  obtain ⟨rfl, rfl⟩ : q9 = 0 ∧ r9 = r5 := by
    have hl := Hlen.out
    rcases h9 with ⟨_, _, _, rfl, g3⟩ | ⟨g1, _, _⟩ | ⟨_, g2, _, _⟩
    · exact ⟨rfl, (by rw [hl] at g3; simpa [idx_half] using g3 : IsRank ns ((n - 1) / 2) r9).uniq hr5⟩
    · exact absurd g1 hne
    · omega
  clear h9
  generalize hv9 : errOf 0 = v9
  have Hv9 := aside hv9
  clear hv9
  go_wp2_with fail
  refine (error_at Hv9.out hg9).mono ?_
  rintro e w10 ⟨rfl, hb10⟩
  have hB10 : Below w.heap.size w w10 := hB9.trans (hb10.mono hB9.size)
  go_wp2
  all_goals go_ret
  all_goals exact ⟨by simp, hB10⟩

set_option maxRecDepth 100000 in
set_option maxHeartbeats 4000000 in
theorem tells_ok_lo (j : Nat) (hj : j < n) (p : Int) (hp : p < 0) (hg : ErrVar w) (hs : ISl w w.heap.size A n ns) (hreach : n * 8 ≤ 140737488351232) (hpos : 0 < n) :
    Calls Tryd.prog 4 #[.slice A n cap, .int .i64 (j : Int), .int .i64 p] w (LawPost w) := by
  have hne : ns ≠ [] := ne_nil_of_len (by have := hs.len; omega)
  have Hlen := aside hs.len
  have Hg := aside hg
  have Hs := aside hs
  clear hg hs
  have hn0 : ((n : Int) == 0) = false := by simp; omega
  have Hhalf : Hid (((n : Int) - 1) / 2 = (((n - 1) / 2 : Nat) : Int)) := by show ((n : Int) - 1) / 2 = (((n - 1) / 2 : Nat) : Int); omega
  go_enter Tryd.func4, Tryd.ntmps4
  go_wp2_with fail
  refine (ranked_any _).mono ?_
  rintro e w1 ⟨rfl, hb1⟩
  have hB1 : Below w.heap.size w w1 := hb1
  have hs1 : ISl w1 w1.heap.size A n ns := Sl.more (Sl.below Hs.out hB1) hB1.size
  have hg1 : ErrVar w1 := Hg.out.below (errVar_lt Hg.out) hB1
  go_wp2_with fail
  refine (ref_any ns j A n cap w1 hs1 hreach hj).mono ?_
  rintro e w2 ⟨r2, rfl, hr2, hb2⟩
  have hB2 : Below w.heap.size w w2 := hB1.trans (hb2.mono hB1.size)
  clear hb2 hB1 hs1 hg1
  have hs2 : ISl w2 w2.heap.size A n ns := Sl.more (Sl.below Hs.out hB2) hB2.size
  have hg2 : ErrVar w2 := Hg.out.below (errVar_lt Hg.out) hB2
  go_wp2_with fail
  refine (rank_any ns j A n cap w2 hs2 (by omega)).mono ?_
  rintro e w3 hr3
  obtain ⟨r3, q3, rfl, hb3, h3⟩ := hr3.err
  have hB3 : Below w.heap.size w w3 := hB2.trans (hb3.mono hB2.size)
  clear hb3 hB2 hs2 hg2
  have hs3 : ISl w3 w3.heap.size A n ns := Sl.more (Sl.below Hs.out hB3) hB3.size
  have hg3 : ErrVar w3 := Hg.out.below (errVar_lt Hg.out) hB3
  clear hr3
  obtain ⟨rfl, rfl⟩ : q3 = 0 ∧ r3 = r2 := by
    have hl := Hlen.out
    rcases h3 with ⟨_, _, rfl, g3⟩ | ⟨g1, _, _⟩ | ⟨_, g2, _, _⟩
    · exact ⟨rfl, (by simpa using g3 : IsRank ns j r3).uniq hr2⟩
    · exact absurd g1 hne
    · omega
  clear h3
  generalize hv3 : errOf 0 = v3
  have Hv3 := aside hv3
  clear hv3
  go_wp2_with fail
  refine (error_at Hv3.out hg3).mono ?_
  rintro e w4 ⟨rfl, hb4⟩
  have hB4 : Below w.heap.size w w4 := hB3.trans (hb4.mono hB3.size)
  clear hb4 hB3 hs3 hg3
  have hs4 : ISl w4 w4.heap.size A n ns := Sl.more (Sl.below Hs.out hB4) hB4.size
  have hg4 : ErrVar w4 := Hg.out.below (errVar_lt Hg.out) hB4
  go_wp2_with fail
  rw [Hhalf.out]
  refine (ref_any ns ((n - 1) / 2) A n cap w4 hs4 hreach (by omega)).mono ?_
  rintro e w5 ⟨r5, rfl, hr5, hb5⟩
  have hB5 : Below w.heap.size w w5 := hB4.trans (hb5.mono hB4.size)
  clear hb5 hB4 hs4 hg4
  have hs5 : ISl w5 w5.heap.size A n ns := Sl.more (Sl.below Hs.out hB5) hB5.size
  have hg5 : ErrVar w5 := Hg.out.below (errVar_lt Hg.out) hB5
  go_wp2_with fail
  refine (part_any ns p A n cap w5 hs5 (by omega)).mono ?_
  rintro e w7 hr7
  obtain ⟨r7, q7, rfl, hb7, h7⟩ := hr7.err
  have hB7 : Below w.heap.size w w7 := hB5.trans (hb7.mono hB5.size)
  clear hb7 hB5 hs5 hg5
  have hs7 : ISl w7 w7.heap.size A n ns := Sl.more (Sl.below Hs.out hB7) hB7.size
  have hg7 : ErrVar w7 := Hg.out.below (errVar_lt Hg.out) hB7
  clear hr7
  obtain ⟨rfl, rfl⟩ : q7 = 2 ∧ r7 = 0 := by
    rcases h7 with ⟨_, _, _, rfl, g3⟩ | ⟨g1, _, _⟩ | ⟨_, g2, rfl, rfl⟩
    · omega
    · exact absurd g1 hne
    · exact ⟨rfl, rfl⟩
  clear h7
  generalize hv7 : errOf 2 = v7
  have Hv7 := aside hv7
  clear hv7
  go_wp2_with fail
  refine (error_at Hv7.out hg7).mono ?_
  rintro e w8 ⟨rfl, hb8⟩
  have hB8 : Below w.heap.size w w8 := hB7.trans (hb8.mono hB7.size)
  clear hb8 hB7 hs7 hg7
  have hs8 : ISl w8 w8.heap.size A n ns := Sl.more (Sl.below Hs.out hB8) hB8.size
  have hg8 : ErrVar w8 := Hg.out.below (errVar_lt Hg.out) hB8
  go_wp2_with fail
  refine (middle_any ns A n cap w8 hs8 (by omega)).mono ?_
  rintro e w9 hr9
  obtain ⟨r9, q9, rfl, hb9, h9⟩ := PostPart.err hr9
  have hB9 : Below w.heap.size w w9 := hB8.trans (hb9.mono hB8.size)
  clear hb9 hB8 hs8 hg8
  have hs9 : ISl w9 w9.heap.size A n ns := Sl.more (Sl.below Hs.out hB9) hB9.size
  have hg9 : ErrVar w9 := Hg.out.below (errVar_lt Hg.out) hB9
  clear hr9
  obtain ⟨rfl, rfl⟩ : q9 = 0 ∧ r9 = r5 := by
    have hl := Hlen.out
    rcases h9 with ⟨_, _, _, rfl, g3⟩ | ⟨g1, _, _⟩ | ⟨_, g2, _, _⟩
    · exact ⟨rfl, (by rw [hl] at g3; simpa [idx_half] using g3 : IsRank ns ((n - 1) / 2) r9).uniq hr5⟩
    · exact absurd g1 hne
    · omega
  clear h9
  generalize hv9 : errOf 0 = v9
  have Hv9 := aside hv9
  clear hv9
  go_wp2_with fail
  refine (error_at Hv9.out hg9).mono ?_
  rintro e w10 ⟨rfl, hb10⟩
  have hB10 : Below w.heap.size w w10 := hB9.trans (hb10.mono hB9.size)
  go_wp2
  all_goals go_ret
  all_goals exact ⟨by simp, hB10⟩

set_option maxRecDepth 100000 in
set_option maxHeartbeats 4000000 in
theorem tells_ok_hi (j : Nat) (hj : j < n) (p : Int) (hp : 100 < p) (hg : ErrVar w) (hs : ISl w w.heap.size A n ns) (hreach : n * 8 ≤ 140737488351232) (hpos : 0 < n) :
    Calls Tryd.prog 4 #[.slice A n cap, .int .i64 (j : Int), .int .i64 p] w (LawPost w) := by
  have hne : ns ≠ [] := ne_nil_of_len (by have := hs.len; omega)
  have Hlen := aside hs.len
  have Hg := aside hg
  have Hs := aside hs
  clear hg hs
  have hn0 : ((n : Int) == 0) = false := by simp; omega
  have Hhalf : Hid (((n : Int) - 1) / 2 = (((n - 1) / 2 : Nat) : Int)) := by show ((n : Int) - 1) / 2 = (((n - 1) / 2 : Nat) : Int); omega
  go_enter Tryd.func4, Tryd.ntmps4
  go_wp2_with fail
  refine (ranked_any _).mono ?_
  rintro e w1 ⟨rfl, hb1⟩
  have hB1 : Below w.heap.size w w1 := hb1
  have hs1 : ISl w1 w1.heap.size A n ns := Sl.more (Sl.below Hs.out hB1) hB1.size
  have hg1 : ErrVar w1 := Hg.out.below (errVar_lt Hg.out) hB1
  go_wp2_with fail
  refine (ref_any ns j A n cap w1 hs1 hreach hj).mono ?_
  rintro e w2 ⟨r2, rfl, hr2, hb2⟩
  have hB2 : Below w.heap.size w w2 := hB1.trans (hb2.mono hB1.size)
  clear hb2 hB1 hs1 hg1
  have hs2 : ISl w2 w2.heap.size A n ns := Sl.more (Sl.below Hs.out hB2) hB2.size
  have hg2 : ErrVar w2 := Hg.out.below (errVar_lt Hg.out) hB2
  go_wp2_with fail
  refine (rank_any ns j A n cap w2 hs2 (by omega)).mono ?_
  rintro e w3 hr3
  obtain ⟨r3, q3, rfl, hb3, h3⟩ := hr3.err
  have hB3 : Below w.heap.size w w3 := hB2.trans (hb3.mono hB2.size)
  clear hb3 hB2 hs2 hg2
  have hs3 : ISl w3 w3.heap.size A n ns := Sl.more (Sl.below Hs.out hB3) hB3.size
  have hg3 : ErrVar w3 := Hg.out.below (errVar_lt Hg.out) hB3
  clear hr3
  obtain ⟨rfl, rfl⟩ : q3 = 0 ∧ r3 = r2 := by
    have hl := Hlen.out
    rcases h3 with ⟨_, _, rfl, g3⟩ | ⟨g1, _, _⟩ | ⟨_, g2, _, _⟩
    · exact ⟨rfl, (by simpa using g3 : IsRank ns j r3).uniq hr2⟩
    · exact absurd g1 hne
    · omega
  clear h3
  generalize hv3 : errOf 0 = v3
  have Hv3 := aside hv3
  clear hv3
  go_wp2_with fail
  refine (error_at Hv3.out hg3).mono ?_
  rintro e w4 ⟨rfl, hb4⟩
  have hB4 : Below w.heap.size w w4 := hB3.trans (hb4.mono hB3.size)
  clear hb4 hB3 hs3 hg3
  have hs4 : ISl w4 w4.heap.size A n ns := Sl.more (Sl.below Hs.out hB4) hB4.size
  have hg4 : ErrVar w4 := Hg.out.below (errVar_lt Hg.out) hB4
  go_wp2_with fail
  rw [Hhalf.out]
  refine (ref_any ns ((n - 1) / 2) A n cap w4 hs4 hreach (by omega)).mono ?_
  rintro e w5 ⟨r5, rfl, hr5, hb5⟩
  have hB5 : Below w.heap.size w w5 := hB4.trans (hb5.mono hB4.size)
  clear hb5 hB4 hs4 hg4
  have hs5 : ISl w5 w5.heap.size A n ns := Sl.more (Sl.below Hs.out hB5) hB5.size
  have hg5 : ErrVar w5 := Hg.out.below (errVar_lt Hg.out) hB5
  go_wp2_with fail
  refine (part_any ns p A n cap w5 hs5 (by omega)).mono ?_
  rintro e w7 hr7
  obtain ⟨r7, q7, rfl, hb7, h7⟩ := hr7.err
  have hB7 : Below w.heap.size w w7 := hB5.trans (hb7.mono hB5.size)
  clear hb7 hB5 hs5 hg5
  have hs7 : ISl w7 w7.heap.size A n ns := Sl.more (Sl.below Hs.out hB7) hB7.size
  have hg7 : ErrVar w7 := Hg.out.below (errVar_lt Hg.out) hB7
  clear hr7
  obtain ⟨rfl, rfl⟩ : q7 = 2 ∧ r7 = 0 := by
    rcases h7 with ⟨_, _, _, rfl, g3⟩ | ⟨g1, _, _⟩ | ⟨_, g2, rfl, rfl⟩
    · omega
    · exact absurd g1 hne
    · exact ⟨rfl, rfl⟩
  clear h7
  generalize hv7 : errOf 2 = v7
  have Hv7 := aside hv7
  clear hv7
  go_wp2_with fail
  refine (error_at Hv7.out hg7).mono ?_
  rintro e w8 ⟨rfl, hb8⟩
  have hB8 : Below w.heap.size w w8 := hB7.trans (hb8.mono hB7.size)
  clear hb8 hB7 hs7 hg7
  have hs8 : ISl w8 w8.heap.size A n ns := Sl.more (Sl.below Hs.out hB8) hB8.size
  have hg8 : ErrVar w8 := Hg.out.below (errVar_lt Hg.out) hB8
  go_wp2_with fail
  refine (middle_any ns A n cap w8 hs8 (by omega)).mono ?_
  rintro e w9 hr9
  obtain ⟨r9, q9, rfl, hb9, h9⟩ := PostPart.err hr9
  have hB9 : Below w.heap.size w w9 := hB8.trans (hb9.mono hB8.size)
  clear hb9 hB8 hs8 hg8
  have hs9 : ISl w9 w9.heap.size A n ns := Sl.more (Sl.below Hs.out hB9) hB9.size
  have hg9 : ErrVar w9 := Hg.out.below (errVar_lt Hg.out) hB9
  clear hr9
  obtain ⟨rfl, rfl⟩ : q9 = 0 ∧ r9 = r5 := by
    have hl := Hlen.out
    rcases h9 with ⟨_, _, _, rfl, g3⟩ | ⟨g1, _, _⟩ | ⟨_, g2, _, _⟩
    · exact ⟨rfl, (by rw [hl] at g3; simpa [idx_half] using g3 : IsRank ns ((n - 1) / 2) r9).uniq hr5⟩
    · exact absurd g1 hne
    · omega
  clear h9
  generalize hv9 : errOf 0 = v9
  have Hv9 := aside hv9
  clear hv9
  go_wp2_with fail
  refine (error_at Hv9.out hg9).mono ?_
  rintro e w10 ⟨rfl, hb10⟩
  have hB10 : Below w.heap.size w w10 := hB9.trans (hb10.mono hB9.size)
  go_wp2
  all_goals go_ret
  all_goals exact ⟨by simp, hB10⟩

set_option maxRecDepth 100000 in
set_option maxHeartbeats 4000000 in
theorem tells_lo_ok (k : Int) (hk : k < 0) (p' : Nat) (hp : p' ≤ 100) (hg : ErrVar w) (hs : ISl w w.heap.size A n ns) (hreach : n * 8 ≤ 140737488351232) (hpos : 0 < n) :
    Calls Tryd.prog 4 #[.slice A n cap, .int .i64 k, .int .i64 (p' : Int)] w (LawPost w) := by
  have hne : ns ≠ [] := ne_nil_of_len (by have := hs.len; omega)
  have Hlen := aside hs.len
  have Hg := aside hg
  have Hs := aside hs
  clear hg hs
  have hn0 : ((n : Int) == 0) = false := by simp; omega
  have Hhalf : Hid (((n : Int) - 1) / 2 = (((n - 1) / 2 : Nat) : Int)) := by show ((n : Int) - 1) / 2 = (((n - 1) / 2 : Nat) : Int); omega
  have hidx := idx_lt hpos hp
  have hmul : (n - 1) * p' ≤ (n - 1) * 100 := Nat.mul_le_mul_left _ hp
  have hcm : ((n : Int) - 1) * (p' : Int) = (((n - 1) * p' : Nat) : Int) := by rw [Int.natCast_mul, show ((n - 1 : Nat) : Int) = (n : Int) - 1 from by omega]
  have hm0 : (0 : Int) ≤ ((n : Int) - 1) * (p' : Int) := by rw [hcm]; omega
  have hm1 : ((n : Int) - 1) * (p' : Int) ≤ 1759218604441600 := by rw [hcm]; omega
  have Hc : Hid (((n : Int) - 1) * (p' : Int) / 100 = ((idx n p' : Nat) : Int)) := by show ((n : Int) - 1) * (p' : Int) / 100 = ((idx n p' : Nat) : Int); rw [hcm]; unfold idx; rfl
  clear hmul hcm
  go_enter Tryd.func4, Tryd.ntmps4
  go_wp2_with fail
  refine (ranked_any _).mono ?_
  rintro e w1 ⟨rfl, hb1⟩
  have hB1 : Below w.heap.size w w1 := hb1
  have hs1 : ISl w1 w1.heap.size A n ns := Sl.more (Sl.below Hs.out hB1) hB1.size
  have hg1 : ErrVar w1 := Hg.out.below (errVar_lt Hg.out) hB1
  go_wp2_with fail
  refine (rank_any ns k A n cap w1 hs1 (by omega)).mono ?_
  rintro e w3 hr3
  obtain ⟨r3, q3, rfl, hb3, h3⟩ := hr3.err
  have hB3 : Below w.heap.size w w3 := hB1.trans (hb3.mono hB1.size)
  clear hb3 hB1 hs1 hg1
  have hs3 : ISl w3 w3.heap.size A n ns := Sl.more (Sl.below Hs.out hB3) hB3.size
  have hg3 : ErrVar w3 := Hg.out.below (errVar_lt Hg.out) hB3
  clear hr3
  obtain ⟨rfl, rfl⟩ : q3 = 2 ∧ r3 = 0 := by
    have hl := Hlen.out
    rcases h3 with ⟨_, _, rfl, g3⟩ | ⟨g1, _, _⟩ | ⟨_, g2, rfl, rfl⟩
    · omega
    · exact absurd g1 hne
    · exact ⟨rfl, rfl⟩
  clear h3
  generalize hv3 : errOf 2 = v3
  have Hv3 := aside hv3
  clear hv3
  go_wp2_with fail
  refine (error_at Hv3.out hg3).mono ?_
  rintro e w4 ⟨rfl, hb4⟩
  have hB4 : Below w.heap.size w w4 := hB3.trans (hb4.mono hB3.size)
  clear hb4 hB3 hs3 hg3
  have hs4 : ISl w4 w4.heap.size A n ns := Sl.more (Sl.below Hs.out hB4) hB4.size
  have hg4 : ErrVar w4 := Hg.out.below (errVar_lt Hg.out) hB4
  go_wp2_with fail
  rw [Hhalf.out]
  refine (ref_any ns ((n - 1) / 2) A n cap w4 hs4 hreach (by omega)).mono ?_
  rintro e w5 ⟨r5, rfl, hr5, hb5⟩
  have hB5 : Below w.heap.size w w5 := hB4.trans (hb5.mono hB4.size)
  clear hb5 hB4 hs4 hg4
  have hs5 : ISl w5 w5.heap.size A n ns := Sl.more (Sl.below Hs.out hB5) hB5.size
  have hg5 : ErrVar w5 := Hg.out.below (errVar_lt Hg.out) hB5
  go_wp2_with fail
  rw [Hc.out]
  refine (ref_any ns (idx n p') A n cap w5 hs5 hreach hidx).mono ?_
  rintro e w6 ⟨r6, rfl, hr6, hb6⟩
  have hB6 : Below w.heap.size w w6 := hB5.trans (hb6.mono hB5.size)
  clear hb6 hB5 hs5 hg5
  have hs6 : ISl w6 w6.heap.size A n ns := Sl.more (Sl.below Hs.out hB6) hB6.size
  have hg6 : ErrVar w6 := Hg.out.below (errVar_lt Hg.out) hB6
  go_wp2_with fail
  refine (part_any ns p' A n cap w6 hs6 (by omega)).mono ?_
  rintro e w7 hr7
  obtain ⟨r7, q7, rfl, hb7, h7⟩ := hr7.err
  have hB7 : Below w.heap.size w w7 := hB6.trans (hb7.mono hB6.size)
  clear hb7 hB6 hs6 hg6
  have hs7 : ISl w7 w7.heap.size A n ns := Sl.more (Sl.below Hs.out hB7) hB7.size
  have hg7 : ErrVar w7 := Hg.out.below (errVar_lt Hg.out) hB7
  clear hr7
  obtain ⟨rfl, rfl⟩ : q7 = 0 ∧ r7 = r6 := by
    have hl := Hlen.out
    rcases h7 with ⟨_, _, _, rfl, g3⟩ | ⟨g1, _, _⟩ | ⟨_, g2, _, _⟩
    · exact ⟨rfl, (by rw [hl] at g3; simpa using g3 : IsRank ns (idx n p') r7).uniq hr6⟩
    · exact absurd g1 hne
    · omega
  clear h7
  generalize hv7 : errOf 0 = v7
  have Hv7 := aside hv7
  clear hv7
  go_wp2_with fail
  refine (error_at Hv7.out hg7).mono ?_
  rintro e w8 ⟨rfl, hb8⟩
  have hB8 : Below w.heap.size w w8 := hB7.trans (hb8.mono hB7.size)
  clear hb8 hB7 hs7 hg7
  have hs8 : ISl w8 w8.heap.size A n ns := Sl.more (Sl.below Hs.out hB8) hB8.size
  have hg8 : ErrVar w8 := Hg.out.below (errVar_lt Hg.out) hB8
  go_wp2_with fail
  refine (middle_any ns A n cap w8 hs8 (by omega)).mono ?_
  rintro e w9 hr9
  obtain ⟨r9, q9, rfl, hb9, h9⟩ := PostPart.err hr9
  have hB9 : Below w.heap.size w w9 := hB8.trans (hb9.mono hB8.size)
  clear hb9 hB8 hs8 hg8
  have hs9 : ISl w9 w9.heap.size A n ns := Sl.more (Sl.below Hs.out hB9) hB9.size
  have hg9 : ErrVar w9 := Hg.out.below (errVar_lt Hg.out) hB9
  clear hr9
  obtain ⟨rfl, rfl⟩ : q9 = 0 ∧ r9 = r5 := by
    have hl := Hlen.out
    rcases h9 with ⟨_, _, _, rfl, g3⟩ | ⟨g1, _, _⟩ | ⟨_, g2, _, _⟩
    · exact ⟨rfl, (by rw [hl] at g3; simpa [idx_half] using g3 : IsRank ns ((n - 1) / 2) r9).uniq hr5⟩
    · exact absurd g1 hne
    · omega
  clear h9
  generalize hv9 : errOf 0 = v9
  have Hv9 := aside hv9
  clear hv9
  go_wp2_with fail
  refine (error_at Hv9.out hg9).mono ?_
  rintro e w10 ⟨rfl, hb10⟩
  have hB10 : Below w.heap.size w w10 := hB9.trans (hb10.mono hB9.size)
  go_wp2
  all_goals go_ret
  all_goals exact ⟨by simp, hB10⟩

set_option maxRecDepth 100000 in
set_option maxHeartbeats 4000000 in
theorem tells_lo_lo (k : Int) (hk : k < 0) (p : Int) (hp : p < 0) (hg : ErrVar w) (hs : ISl w w.heap.size A n ns) (hreach : n * 8 ≤ 140737488351232) (hpos : 0 < n) :
    Calls Tryd.prog 4 #[.slice A n cap, .int .i64 k, .int .i64 p] w (LawPost w) := by
  have hne : ns ≠ [] := ne_nil_of_len (by have := hs.len; omega)
  have Hlen := aside hs.len
  have Hg := aside hg
  have Hs := aside hs
  clear hg hs
  have hn0 : ((n : Int) == 0) = false := by simp; omega
  have Hhalf : Hid (((n : Int) - 1) / 2 = (((n - 1) / 2 : Nat) : Int)) := by show ((n : Int) - 1) / 2 = (((n - 1) / 2 : Nat) : Int); omega
  go_enter Tryd.func4, Tryd.ntmps4
  go_wp2_with fail
  refine (ranked_any _).mono ?_
  rintro e w1 ⟨rfl, hb1⟩
  have hB1 : Below w.heap.size w w1 := hb1
  have hs1 : ISl w1 w1.heap.size A n ns := Sl.more (Sl.below Hs.out hB1) hB1.size
  have hg1 : ErrVar w1 := Hg.out.below (errVar_lt Hg.out) hB1
  go_wp2_with fail
  refine (rank_any ns k A n cap w1 hs1 (by omega)).mono ?_
  rintro e w3 hr3
  obtain ⟨r3, q3, rfl, hb3, h3⟩ := hr3.err
  have hB3 : Below w.heap.size w w3 := hB1.trans (hb3.mono hB1.size)
  clear hb3 hB1 hs1 hg1
  have hs3 : ISl w3 w3.heap.size A n ns := Sl.more (Sl.below Hs.out hB3) hB3.size
  have hg3 : ErrVar w3 := Hg.out.below (errVar_lt Hg.out) hB3
  clear hr3
  obtain ⟨rfl, rfl⟩ : q3 = 2 ∧ r3 = 0 := by
    have hl := Hlen.out
    rcases h3 with ⟨_, _, rfl, g3⟩ | ⟨g1, _, _⟩ | ⟨_, g2, rfl, rfl⟩
    · omega
    · exact absurd g1 hne
    · exact ⟨rfl, rfl⟩
  clear h3
  generalize hv3 : errOf 2 = v3
  have Hv3 := aside hv3
  clear hv3
  go_wp2_with fail
  refine (error_at Hv3.out hg3).mono ?_
  rintro e w4 ⟨rfl, hb4⟩
  have hB4 : Below w.heap.size w w4 := hB3.trans (hb4.mono hB3.size)
  clear hb4 hB3 hs3 hg3
  have hs4 : ISl w4 w4.heap.size A n ns := Sl.more (Sl.below Hs.out hB4) hB4.size
  have hg4 : ErrVar w4 := Hg.out.below (errVar_lt Hg.out) hB4
  go_wp2_with fail
  rw [Hhalf.out]
  refine (ref_any ns ((n - 1) / 2) A n cap w4 hs4 hreach (by omega)).mono ?_
  rintro e w5 ⟨r5, rfl, hr5, hb5⟩
  have hB5 : Below w.heap.size w w5 := hB4.trans (hb5.mono hB4.size)
  clear hb5 hB4 hs4 hg4
  have hs5 : ISl w5 w5.heap.size A n ns := Sl.more (Sl.below Hs.out hB5) hB5.size
  have hg5 : ErrVar w5 := Hg.out.below (errVar_lt Hg.out) hB5
  go_wp2_with fail
  refine (part_any ns p A n cap w5 hs5 (by omega)).mono ?_
  rintro e w7 hr7
  obtain ⟨r7, q7, rfl, hb7, h7⟩ := hr7.err
  have hB7 : Below w.heap.size w w7 := hB5.trans (hb7.mono hB5.size)
  clear hb7 hB5 hs5 hg5
  have hs7 : ISl w7 w7.heap.size A n ns := Sl.more (Sl.below Hs.out hB7) hB7.size
  have hg7 : ErrVar w7 := Hg.out.below (errVar_lt Hg.out) hB7
  clear hr7
  obtain ⟨rfl, rfl⟩ : q7 = 2 ∧ r7 = 0 := by
    rcases h7 with ⟨_, _, _, rfl, g3⟩ | ⟨g1, _, _⟩ | ⟨_, g2, rfl, rfl⟩
    · omega
    · exact absurd g1 hne
    · exact ⟨rfl, rfl⟩
  clear h7
  generalize hv7 : errOf 2 = v7
  have Hv7 := aside hv7
  clear hv7
  go_wp2_with fail
  refine (error_at Hv7.out hg7).mono ?_
  rintro e w8 ⟨rfl, hb8⟩
  have hB8 : Below w.heap.size w w8 := hB7.trans (hb8.mono hB7.size)
  clear hb8 hB7 hs7 hg7
  have hs8 : ISl w8 w8.heap.size A n ns := Sl.more (Sl.below Hs.out hB8) hB8.size
  have hg8 : ErrVar w8 := Hg.out.below (errVar_lt Hg.out) hB8
  go_wp2_with fail
  refine (middle_any ns A n cap w8 hs8 (by omega)).mono ?_
  rintro e w9 hr9
  obtain ⟨r9, q9, rfl, hb9, h9⟩ := PostPart.err hr9
  have hB9 : Below w.heap.size w w9 := hB8.trans (hb9.mono hB8.size)
  clear hb9 hB8 hs8 hg8
  have hs9 : ISl w9 w9.heap.size A n ns := Sl.more (Sl.below Hs.out hB9) hB9.size
  have hg9 : ErrVar w9 := Hg.out.below (errVar_lt Hg.out) hB9
  clear hr9
  obtain ⟨rfl, rfl⟩ : q9 = 0 ∧ r9 = r5 := by
    have hl := Hlen.out
    rcases h9 with ⟨_, _, _, rfl, g3⟩ | ⟨g1, _, _⟩ | ⟨_, g2, _, _⟩
    · exact ⟨rfl, (by rw [hl] at g3; simpa [idx_half] using g3 : IsRank ns ((n - 1) / 2) r9).uniq hr5⟩
    · exact absurd g1 hne
    · omega
  clear h9
  generalize hv9 : errOf 0 = v9
  have Hv9 := aside hv9
  clear hv9
  go_wp2_with fail
  refine (error_at Hv9.out hg9).mono ?_
  rintro e w10 ⟨rfl, hb10⟩
  have hB10 : Below w.heap.size w w10 := hB9.trans (hb10.mono hB9.size)
  go_wp2
  all_goals go_ret
  all_goals exact ⟨by simp, hB10⟩

set_option maxRecDepth 100000 in
set_option maxHeartbeats 4000000 in
theorem tells_lo_hi (k : Int) (hk : k < 0) (p : Int) (hp : 100 < p) (hg : ErrVar w) (hs : ISl w w.heap.size A n ns) (hreach : n * 8 ≤ 140737488351232) (hpos : 0 < n) :
    Calls Tryd.prog 4 #[.slice A n cap, .int .i64 k, .int .i64 p] w (LawPost w) := by
  have hne : ns ≠ [] := ne_nil_of_len (by have := hs.len; omega)
  have Hlen := aside hs.len
  have Hg := aside hg
  have Hs := aside hs
  clear hg hs
  have hn0 : ((n : Int) == 0) = false := by simp; omega
  have Hhalf : Hid (((n : Int) - 1) / 2 = (((n - 1) / 2 : Nat) : Int)) := by show ((n : Int) - 1) / 2 = (((n - 1) / 2 : Nat) : Int); omega
  go_enter Tryd.func4, Tryd.ntmps4
  go_wp2_with fail
  refine (ranked_any _).mono ?_
  rintro e w1 ⟨rfl, hb1⟩
  have hB1 : Below w.heap.size w w1 := hb1
  have hs1 : ISl w1 w1.heap.size A n ns := Sl.more (Sl.below Hs.out hB1) hB1.size
  have hg1 : ErrVar w1 := Hg.out.below (errVar_lt Hg.out) hB1
  go_wp2_with fail
  refine (rank_any ns k A n cap w1 hs1 (by omega)).mono ?_
  rintro e w3 hr3
  obtain ⟨r3, q3, rfl, hb3, h3⟩ := hr3.err
  have hB3 : Below w.heap.size w w3 := hB1.trans (hb3.mono hB1.size)
  clear hb3 hB1 hs1 hg1
  have hs3 : ISl w3 w3.heap.size A n ns := Sl.more (Sl.below Hs.out hB3) hB3.size
  have hg3 : ErrVar w3 := Hg.out.below (errVar_lt Hg.out) hB3
  clear hr3
  obtain ⟨rfl, rfl⟩ : q3 = 2 ∧ r3 = 0 := by
    have hl := Hlen.out
    rcases h3 with ⟨_, _, rfl, g3⟩ | ⟨g1, _, _⟩ | ⟨_, g2, rfl, rfl⟩
    · omega
    · exact absurd g1 hne
    · exact ⟨rfl, rfl⟩
  clear h3
  generalize hv3 : errOf 2 = v3
  have Hv3 := aside hv3
  clear hv3
  go_wp2_with fail
  refine (error_at Hv3.out hg3).mono ?_
  rintro e w4 ⟨rfl, hb4⟩
  have hB4 : Below w.heap.size w w4 := hB3.trans (hb4.mono hB3.size)
  clear hb4 hB3 hs3 hg3
  have hs4 : ISl w4 w4.heap.size A n ns := Sl.more (Sl.below Hs.out hB4) hB4.size
  have hg4 : ErrVar w4 := Hg.out.below (errVar_lt Hg.out) hB4
  go_wp2_with fail
  rw [Hhalf.out]
  refine (ref_any ns ((n - 1) / 2) A n cap w4 hs4 hreach (by omega)).mono ?_
  rintro e w5 ⟨r5, rfl, hr5, hb5⟩
  have hB5 : Below w.heap.size w w5 := hB4.trans (hb5.mono hB4.size)
  clear hb5 hB4 hs4 hg4
  have hs5 : ISl w5 w5.heap.size A n ns := Sl.more (Sl.below Hs.out hB5) hB5.size
  have hg5 : ErrVar w5 := Hg.out.below (errVar_lt Hg.out) hB5
  go_wp2_with fail
  refine (part_any ns p A n cap w5 hs5 (by omega)).mono ?_
  rintro e w7 hr7
  obtain ⟨r7, q7, rfl, hb7, h7⟩ := hr7.err
  have hB7 : Below w.heap.size w w7 := hB5.trans (hb7.mono hB5.size)
  clear hb7 hB5 hs5 hg5
  have hs7 : ISl w7 w7.heap.size A n ns := Sl.more (Sl.below Hs.out hB7) hB7.size
  have hg7 : ErrVar w7 := Hg.out.below (errVar_lt Hg.out) hB7
  clear hr7
  obtain ⟨rfl, rfl⟩ : q7 = 2 ∧ r7 = 0 := by
    rcases h7 with ⟨_, _, _, rfl, g3⟩ | ⟨g1, _, _⟩ | ⟨_, g2, rfl, rfl⟩
    · omega
    · exact absurd g1 hne
    · exact ⟨rfl, rfl⟩
  clear h7
  generalize hv7 : errOf 2 = v7
  have Hv7 := aside hv7
  clear hv7
  go_wp2_with fail
  refine (error_at Hv7.out hg7).mono ?_
  rintro e w8 ⟨rfl, hb8⟩
  have hB8 : Below w.heap.size w w8 := hB7.trans (hb8.mono hB7.size)
  clear hb8 hB7 hs7 hg7
  have hs8 : ISl w8 w8.heap.size A n ns := Sl.more (Sl.below Hs.out hB8) hB8.size
  have hg8 : ErrVar w8 := Hg.out.below (errVar_lt Hg.out) hB8
  go_wp2_with fail
  refine (middle_any ns A n cap w8 hs8 (by omega)).mono ?_
  rintro e w9 hr9
  obtain ⟨r9, q9, rfl, hb9, h9⟩ := PostPart.err hr9
  have hB9 : Below w.heap.size w w9 := hB8.trans (hb9.mono hB8.size)
  clear hb9 hB8 hs8 hg8
  have hs9 : ISl w9 w9.heap.size A n ns := Sl.more (Sl.below Hs.out hB9) hB9.size
  have hg9 : ErrVar w9 := Hg.out.below (errVar_lt Hg.out) hB9
  clear hr9
  obtain ⟨rfl, rfl⟩ : q9 = 0 ∧ r9 = r5 := by
    have hl := Hlen.out
    rcases h9 with ⟨_, _, _, rfl, g3⟩ | ⟨g1, _, _⟩ | ⟨_, g2, _, _⟩
    · exact ⟨rfl, (by rw [hl] at g3; simpa [idx_half] using g3 : IsRank ns ((n - 1) / 2) r9).uniq hr5⟩
    · exact absurd g1 hne
    · omega
  clear h9
  generalize hv9 : errOf 0 = v9
  have Hv9 := aside hv9
  clear hv9
  go_wp2_with fail
  refine (error_at Hv9.out hg9).mono ?_
  rintro e w10 ⟨rfl, hb10⟩
  have hB10 : Below w.heap.size w w10 := hB9.trans (hb10.mono hB9.size)
  go_wp2
  all_goals go_ret
  all_goals exact ⟨by simp, hB10⟩

set_option maxRecDepth 100000 in
set_option maxHeartbeats 4000000 in
theorem tells_hi_ok (k : Int) (hk : (n : Int) ≤ k) (p' : Nat) (hp : p' ≤ 100) (hg : ErrVar w) (hs : ISl w w.heap.size A n ns) (hreach : n * 8 ≤ 140737488351232) (hpos : 0 < n) :
    Calls Tryd.prog 4 #[.slice A n cap, .int .i64 k, .int .i64 (p' : Int)] w (LawPost w) := by
  have hne : ns ≠ [] := ne_nil_of_len (by have := hs.len; omega)
  have Hlen := aside hs.len
  have Hg := aside hg
  have Hs := aside hs
  clear hg hs
  have hn0 : ((n : Int) == 0) = false := by simp; omega
  have Hhalf : Hid (((n : Int) - 1) / 2 = (((n - 1) / 2 : Nat) : Int)) := by show ((n : Int) - 1) / 2 = (((n - 1) / 2 : Nat) : Int); omega
  have hidx := idx_lt hpos hp
  have hmul : (n - 1) * p' ≤ (n - 1) * 100 := Nat.mul_le_mul_left _ hp
  have hcm : ((n : Int) - 1) * (p' : Int) = (((n - 1) * p' : Nat) : Int) := by rw [Int.natCast_mul, show ((n - 1 : Nat) : Int) = (n : Int) - 1 from by omega]
  have hm0 : (0 : Int) ≤ ((n : Int) - 1) * (p' : Int) := by rw [hcm]; omega
  have hm1 : ((n : Int) - 1) * (p' : Int) ≤ 1759218604441600 := by rw [hcm]; omega
  have Hc : Hid (((n : Int) - 1) * (p' : Int) / 100 = ((idx n p' : Nat) : Int)) := by show ((n : Int) - 1) * (p' : Int) / 100 = ((idx n p' : Nat) : Int); rw [hcm]; unfold idx; rfl
  clear hmul hcm
  go_enter Tryd.func4, Tryd.ntmps4
  go_wp2_with fail
  refine (ranked_any _).mono ?_
  rintro e w1 ⟨rfl, hb1⟩
  have hB1 : Below w.heap.size w w1 := hb1
  have hs1 : ISl w1 w1.heap.size A n ns := Sl.more (Sl.below Hs.out hB1) hB1.size
  have hg1 : ErrVar w1 := Hg.out.below (errVar_lt Hg.out) hB1
  go_wp2_with fail
  refine (rank_any ns k A n cap w1 hs1 (by omega)).mono ?_
  rintro e w3 hr3
  obtain ⟨r3, q3, rfl, hb3, h3⟩ := hr3.err
  have hB3 : Below w.heap.size w w3 := hB1.trans (hb3.mono hB1.size)
  clear hb3 hB1 hs1 hg1
  have hs3 : ISl w3 w3.heap.size A n ns := Sl.more (Sl.below Hs.out hB3) hB3.size
  have hg3 : ErrVar w3 := Hg.out.below (errVar_lt Hg.out) hB3
  clear hr3
  obtain ⟨rfl, rfl⟩ : q3 = 2 ∧ r3 = 0 := by
    have hl := Hlen.out
    rcases h3 with ⟨_, _, rfl, g3⟩ | ⟨g1, _, _⟩ | ⟨_, g2, rfl, rfl⟩
    · omega
    · exact absurd g1 hne
    · exact ⟨rfl, rfl⟩
  clear h3
  generalize hv3 : errOf 2 = v3
  have Hv3 := aside hv3
  clear hv3
  go_wp2_with fail
  refine (error_at Hv3.out hg3).mono ?_
  rintro e w4 ⟨rfl, hb4⟩
  have hB4 : Below w.heap.size w w4 := hB3.trans (hb4.mono hB3.size)
  clear hb4 hB3 hs3 hg3
  have hs4 : ISl w4 w4.heap.size A n ns := Sl.more (Sl.below Hs.out hB4) hB4.size
  have hg4 : ErrVar w4 := Hg.out.below (errVar_lt Hg.out) hB4
  go_wp2_with fail
  rw [Hhalf.out]
  refine (ref_any ns ((n - 1) / 2) A n cap w4 hs4 hreach (by omega)).mono ?_
  rintro e w5 ⟨r5, rfl, hr5, hb5⟩
  have hB5 : Below w.heap.size w w5 := hB4.trans (hb5.mono hB4.size)
  clear hb5 hB4 hs4 hg4
  have hs5 : ISl w5 w5.heap.size A n ns := Sl.more (Sl.below Hs.out hB5) hB5.size
  have hg5 : ErrVar w5 := Hg.out.below (errVar_lt Hg.out) hB5
  go_wp2_with fail
  rw [Hc.out]
  refine (ref_any ns (idx n p') A n cap w5 hs5 hreach hidx).mono ?_
  rintro e w6 ⟨r6, rfl, hr6, hb6⟩
  have hB6 : Below w.heap.size w w6 := hB5.trans (hb6.mono hB5.size)
  clear hb6 hB5 hs5 hg5
  have hs6 : ISl w6 w6.heap.size A n ns := Sl.more (Sl.below Hs.out hB6) hB6.size
  have hg6 : ErrVar w6 := Hg.out.below (errVar_lt Hg.out) hB6
  go_wp2_with fail
  refine (part_any ns p' A n cap w6 hs6 (by omega)).mono ?_
  rintro e w7 hr7
  obtain ⟨r7, q7, rfl, hb7, h7⟩ := hr7.err
  have hB7 : Below w.heap.size w w7 := hB6.trans (hb7.mono hB6.size)
  clear hb7 hB6 hs6 hg6
  have hs7 : ISl w7 w7.heap.size A n ns := Sl.more (Sl.below Hs.out hB7) hB7.size
  have hg7 : ErrVar w7 := Hg.out.below (errVar_lt Hg.out) hB7
  clear hr7
  obtain ⟨rfl, rfl⟩ : q7 = 0 ∧ r7 = r6 := by
    have hl := Hlen.out
    rcases h7 with ⟨_, _, _, rfl, g3⟩ | ⟨g1, _, _⟩ | ⟨_, g2, _, _⟩
    · exact ⟨rfl, (by rw [hl] at g3; simpa using g3 : IsRank ns (idx n p') r7).uniq hr6⟩
    · exact absurd g1 hne
    · omega
  clear h7
  generalize hv7 : errOf 0 = v7
  have Hv7 := aside hv7
  clear hv7
  go_wp2_with fail
  refine (error_at Hv7.out hg7).mono ?_
  rintro e w8 ⟨rfl, hb8⟩
  have hB8 : Below w.heap.size w w8 := hB7.trans (hb8.mono hB7.size)
  clear hb8 hB7 hs7 hg7
  have hs8 : ISl w8 w8.heap.size A n ns := Sl.more (Sl.below Hs.out hB8) hB8.size
  have hg8 : ErrVar w8 := Hg.out.below (errVar_lt Hg.out) hB8
  go_wp2_with fail
  refine (middle_any ns A n cap w8 hs8 (by omega)).mono ?_
  rintro e w9 hr9
  obtain ⟨r9, q9, rfl, hb9, h9⟩ := PostPart.err hr9
  have hB9 : Below w.heap.size w w9 := hB8.trans (hb9.mono hB8.size)
  clear hb9 hB8 hs8 hg8
  have hs9 : ISl w9 w9.heap.size A n ns := Sl.more (Sl.below Hs.out hB9) hB9.size
  have hg9 : ErrVar w9 := Hg.out.below (errVar_lt Hg.out) hB9
  clear hr9
  obtain ⟨rfl, rfl⟩ : q9 = 0 ∧ r9 = r5 := by
    have hl := Hlen.out
    rcases h9 with ⟨_, _, _, rfl, g3⟩ | ⟨g1, _, _⟩ | ⟨_, g2, _, _⟩
    · exact ⟨rfl, (by rw [hl] at g3; simpa [idx_half] using g3 : IsRank ns ((n - 1) / 2) r9).uniq hr5⟩
    · exact absurd g1 hne
    · omega
  clear h9
  generalize hv9 : errOf 0 = v9
  have Hv9 := aside hv9
  clear hv9
  go_wp2_with fail
  refine (error_at Hv9.out hg9).mono ?_
  rintro e w10 ⟨rfl, hb10⟩
  have hB10 : Below w.heap.size w w10 := hB9.trans (hb10.mono hB9.size)
  go_wp2
  all_goals go_ret
  all_goals exact ⟨by simp, hB10⟩

set_option maxRecDepth 100000 in
set_option maxHeartbeats 4000000 in
theorem tells_hi_lo (k : Int) (hk : (n : Int) ≤ k) (p : Int) (hp : p < 0) (hg : ErrVar w) (hs : ISl w w.heap.size A n ns) (hreach : n * 8 ≤ 140737488351232) (hpos : 0 < n) :
    Calls Tryd.prog 4 #[.slice A n cap, .int .i64 k, .int .i64 p] w (LawPost w) := by
  have hne : ns ≠ [] := ne_nil_of_len (by have := hs.len; omega)
  have Hlen := aside hs.len
  have Hg := aside hg
  have Hs := aside hs
  clear hg hs
  have hn0 : ((n : Int) == 0) = false := by simp; omega
  have Hhalf : Hid (((n : Int) - 1) / 2 = (((n - 1) / 2 : Nat) : Int)) := by show ((n : Int) - 1) / 2 = (((n - 1) / 2 : Nat) : Int); omega
  go_enter Tryd.func4, Tryd.ntmps4
  go_wp2_with fail
  refine (ranked_any _).mono ?_
  rintro e w1 ⟨rfl, hb1⟩
  have hB1 : Below w.heap.size w w1 := hb1
  have hs1 : ISl w1 w1.heap.size A n ns := Sl.more (Sl.below Hs.out hB1) hB1.size
  have hg1 : ErrVar w1 := Hg.out.below (errVar_lt Hg.out) hB1
  go_wp2_with fail
  refine (rank_any ns k A n cap w1 hs1 (by omega)).mono ?_
  rintro e w3 hr3
  obtain ⟨r3, q3, rfl, hb3, h3⟩ := hr3.err
  have hB3 : Below w.heap.size w w3 := hB1.trans (hb3.mono hB1.size)
  clear hb3 hB1 hs1 hg1
  have hs3 : ISl w3 w3.heap.size A n ns := Sl.more (Sl.below Hs.out hB3) hB3.size
  have hg3 : ErrVar w3 := Hg.out.below (errVar_lt Hg.out) hB3
  clear hr3
  obtain ⟨rfl, rfl⟩ : q3 = 2 ∧ r3 = 0 := by
    have hl := Hlen.out
    rcases h3 with ⟨_, _, rfl, g3⟩ | ⟨g1, _, _⟩ | ⟨_, g2, rfl, rfl⟩
    · omega
    · exact absurd g1 hne
    · exact ⟨rfl, rfl⟩
  clear h3
  generalize hv3 : errOf 2 = v3
  have Hv3 := aside hv3
  clear hv3
  go_wp2_with fail
  refine (error_at Hv3.out hg3).mono ?_
  rintro e w4 ⟨rfl, hb4⟩
  have hB4 : Below w.heap.size w w4 := hB3.trans (hb4.mono hB3.size)
  clear hb4 hB3 hs3 hg3
  have hs4 : ISl w4 w4.heap.size A n ns := Sl.more (Sl.below Hs.out hB4) hB4.size
  have hg4 : ErrVar w4 := Hg.out.below (errVar_lt Hg.out) hB4
  go_wp2_with fail
  rw [Hhalf.out]
  refine (ref_any ns ((n - 1) / 2) A n cap w4 hs4 hreach (by omega)).mono ?_
  rintro e w5 ⟨r5, rfl, hr5, hb5⟩
  have hB5 : Below w.heap.size w w5 := hB4.trans (hb5.mono hB4.size)
  clear hb5 hB4 hs4 hg4
  have hs5 : ISl w5 w5.heap.size A n ns := Sl.more (Sl.below Hs.out hB5) hB5.size
  have hg5 : ErrVar w5 := Hg.out.below (errVar_lt Hg.out) hB5
  go_wp2_with fail
  refine (part_any ns p A n cap w5 hs5 (by omega)).mono ?_
  rintro e w7 hr7
  obtain ⟨r7, q7, rfl, hb7, h7⟩ := hr7.err
  have hB7 : Below w.heap.size w w7 := hB5.trans (hb7.mono hB5.size)
  clear hb7 hB5 hs5 hg5
  have hs7 : ISl w7 w7.heap.size A n ns := Sl.more (Sl.below Hs.out hB7) hB7.size
  have hg7 : ErrVar w7 := Hg.out.below (errVar_lt Hg.out) hB7
  clear hr7
  obtain ⟨rfl, rfl⟩ : q7 = 2 ∧ r7 = 0 := by
    rcases h7 with ⟨_, _, _, rfl, g3⟩ | ⟨g1, _, _⟩ | ⟨_, g2, rfl, rfl⟩
    · omega
    · exact absurd g1 hne
    · exact ⟨rfl, rfl⟩
  clear h7
  generalize hv7 : errOf 2 = v7
  have Hv7 := aside hv7
  clear hv7
  go_wp2_with fail
  refine (error_at Hv7.out hg7).mono ?_
  rintro e w8 ⟨rfl, hb8⟩
  have hB8 : Below w.heap.size w w8 := hB7.trans (hb8.mono hB7.size)
  clear hb8 hB7 hs7 hg7
  have hs8 : ISl w8 w8.heap.size A n ns := Sl.more (Sl.below Hs.out hB8) hB8.size
  have hg8 : ErrVar w8 := Hg.out.below (errVar_lt Hg.out) hB8
  go_wp2_with fail
  refine (middle_any ns A n cap w8 hs8 (by omega)).mono ?_
  rintro e w9 hr9
  obtain ⟨r9, q9, rfl, hb9, h9⟩ := PostPart.err hr9
  have hB9 : Below w.heap.size w w9 := hB8.trans (hb9.mono hB8.size)
  clear hb9 hB8 hs8 hg8
  have hs9 : ISl w9 w9.heap.size A n ns := Sl.more (Sl.below Hs.out hB9) hB9.size
  have hg9 : ErrVar w9 := Hg.out.below (errVar_lt Hg.out) hB9
  clear hr9
  obtain ⟨rfl, rfl⟩ : q9 = 0 ∧ r9 = r5 := by
    have hl := Hlen.out
    rcases h9 with ⟨_, _, _, rfl, g3⟩ | ⟨g1, _, _⟩ | ⟨_, g2, _, _⟩
    · exact ⟨rfl, (by rw [hl] at g3; simpa [idx_half] using g3 : IsRank ns ((n - 1) / 2) r9).uniq hr5⟩
    · exact absurd g1 hne
    · omega
  clear h9
  generalize hv9 : errOf 0 = v9
  have Hv9 := aside hv9
  clear hv9
  go_wp2_with fail
  refine (error_at Hv9.out hg9).mono ?_
  rintro e w10 ⟨rfl, hb10⟩
  have hB10 : Below w.heap.size w w10 := hB9.trans (hb10.mono hB9.size)
  go_wp2
  all_goals go_ret
  all_goals exact ⟨by simp, hB10⟩

set_option maxRecDepth 100000 in
set_option maxHeartbeats 4000000 in
theorem tells_hi_hi (k : Int) (hk : (n : Int) ≤ k) (p : Int) (hp : 100 < p) (hg : ErrVar w) (hs : ISl w w.heap.size A n ns) (hreach : n * 8 ≤ 140737488351232) (hpos : 0 < n) :
    Calls Tryd.prog 4 #[.slice A n cap, .int .i64 k, .int .i64 p] w (LawPost w) := by
  have hne : ns ≠ [] := ne_nil_of_len (by have := hs.len; omega)
  have Hlen := aside hs.len
  have Hg := aside hg
  have Hs := aside hs
  clear hg hs
  have hn0 : ((n : Int) == 0) = false := by simp; omega
  have Hhalf : Hid (((n : Int) - 1) / 2 = (((n - 1) / 2 : Nat) : Int)) := by show ((n : Int) - 1) / 2 = (((n - 1) / 2 : Nat) : Int); omega
  go_enter Tryd.func4, Tryd.ntmps4
  go_wp2_with fail
  refine (ranked_any _).mono ?_
  rintro e w1 ⟨rfl, hb1⟩
  have hB1 : Below w.heap.size w w1 := hb1
  have hs1 : ISl w1 w1.heap.size A n ns := Sl.more (Sl.below Hs.out hB1) hB1.size
  have hg1 : ErrVar w1 := Hg.out.below (errVar_lt Hg.out) hB1
  go_wp2_with fail
  refine (rank_any ns k A n cap w1 hs1 (by omega)).mono ?_
  rintro e w3 hr3
  obtain ⟨r3, q3, rfl, hb3, h3⟩ := hr3.err
  have hB3 : Below w.heap.size w w3 := hB1.trans (hb3.mono hB1.size)
  clear hb3 hB1 hs1 hg1
  have hs3 : ISl w3 w3.heap.size A n ns := Sl.more (Sl.below Hs.out hB3) hB3.size
  have hg3 : ErrVar w3 := Hg.out.below (errVar_lt Hg.out) hB3
  clear hr3
  obtain ⟨rfl, rfl⟩ : q3 = 2 ∧ r3 = 0 := by
    have hl := Hlen.out
    rcases h3 with ⟨_, _, rfl, g3⟩ | ⟨g1, _, _⟩ | ⟨_, g2, rfl, rfl⟩
    · omega
    · exact absurd g1 hne
    · exact ⟨rfl, rfl⟩
  clear h3
  generalize hv3 : errOf 2 = v3
  have Hv3 := aside hv3
  clear hv3
  go_wp2_with fail
  refine (error_at Hv3.out hg3).mono ?_
  rintro e w4 ⟨rfl, hb4⟩
  have hB4 : Below w.heap.size w w4 := hB3.trans (hb4.mono hB3.size)
  clear hb4 hB3 hs3 hg3
  have hs4 : ISl w4 w4.heap.size A n ns := Sl.more (Sl.below Hs.out hB4) hB4.size
  have hg4 : ErrVar w4 := Hg.out.below (errVar_lt Hg.out) hB4
  go_wp2_with fail
  rw [Hhalf.out]
  refine (ref_any ns ((n - 1) / 2) A n cap w4 hs4 hreach (by omega)).mono ?_
  rintro e w5 ⟨r5, rfl, hr5, hb5⟩
  have hB5 : Below w.heap.size w w5 := hB4.trans (hb5.mono hB4.size)
  clear hb5 hB4 hs4 hg4
  have hs5 : ISl w5 w5.heap.size A n ns := Sl.more (Sl.below Hs.out hB5) hB5.size
  have hg5 : ErrVar w5 := Hg.out.below (errVar_lt Hg.out) hB5
  go_wp2_with fail
  refine (part_any ns p A n cap w5 hs5 (by omega)).mono ?_
  rintro e w7 hr7
  obtain ⟨r7, q7, rfl, hb7, h7⟩ := hr7.err
  have hB7 : Below w.heap.size w w7 := hB5.trans (hb7.mono hB5.size)
  clear hb7 hB5 hs5 hg5
  have hs7 : ISl w7 w7.heap.size A n ns := Sl.more (Sl.below Hs.out hB7) hB7.size
  have hg7 : ErrVar w7 := Hg.out.below (errVar_lt Hg.out) hB7
  clear hr7
  obtain ⟨rfl, rfl⟩ : q7 = 2 ∧ r7 = 0 := by
    rcases h7 with ⟨_, _, _, rfl, g3⟩ | ⟨g1, _, _⟩ | ⟨_, g2, rfl, rfl⟩
    · omega
    · exact absurd g1 hne
    · exact ⟨rfl, rfl⟩
  clear h7
  generalize hv7 : errOf 2 = v7
  have Hv7 := aside hv7
  clear hv7
  go_wp2_with fail
  refine (error_at Hv7.out hg7).mono ?_
  rintro e w8 ⟨rfl, hb8⟩
  have hB8 : Below w.heap.size w w8 := hB7.trans (hb8.mono hB7.size)
  clear hb8 hB7 hs7 hg7
  have hs8 : ISl w8 w8.heap.size A n ns := Sl.more (Sl.below Hs.out hB8) hB8.size
  have hg8 : ErrVar w8 := Hg.out.below (errVar_lt Hg.out) hB8
  go_wp2_with fail
  refine (middle_any ns A n cap w8 hs8 (by omega)).mono ?_
  rintro e w9 hr9
  obtain ⟨r9, q9, rfl, hb9, h9⟩ := PostPart.err hr9
  have hB9 : Below w.heap.size w w9 := hB8.trans (hb9.mono hB8.size)
  clear hb9 hB8 hs8 hg8
  have hs9 : ISl w9 w9.heap.size A n ns := Sl.more (Sl.below Hs.out hB9) hB9.size
  have hg9 : ErrVar w9 := Hg.out.below (errVar_lt Hg.out) hB9
  clear hr9
  obtain ⟨rfl, rfl⟩ : q9 = 0 ∧ r9 = r5 := by
    have hl := Hlen.out
    rcases h9 with ⟨_, _, _, rfl, g3⟩ | ⟨g1, _, _⟩ | ⟨_, g2, _, _⟩
    · exact ⟨rfl, (by rw [hl] at g3; simpa [idx_half] using g3 : IsRank ns ((n - 1) / 2) r9).uniq hr5⟩
    · exact absurd g1 hne
    · omega
  clear h9
  generalize hv9 : errOf 0 = v9
  have Hv9 := aside hv9
  clear hv9
  go_wp2_with fail
  refine (error_at Hv9.out hg9).mono ?_
  rintro e w10 ⟨rfl, hb10⟩
  have hB10 : Below w.heap.size w w10 := hB9.trans (hb10.mono hB9.size)
  go_wp2
  all_goals go_ret
  all_goals exact ⟨by simp, hB10⟩
end
end Go.Proofs.YtelmllngcbihjaaDoor
