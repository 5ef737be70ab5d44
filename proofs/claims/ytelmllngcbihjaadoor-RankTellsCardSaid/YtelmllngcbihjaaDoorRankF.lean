/- RankTells: any numbers, any place, any part. Condition: errors.errorType reads as the program's text lays it (the card ties it). -/
import Derived.Test.YtelmllngcbihjaaDoorRankL
namespace Go.Proofs.YtelmllngcbihjaaDoor
open Go.RowKit Go.ChangeShapes Go.WideShapes Go.ChangeAt

set_option maxRecDepth 100000 in
set_option maxHeartbeats 4000000 in
theorem tells_nil (A : Option Addr) (cap : Nat) (w : World) (k p : Int) (hg : ErrVar w) (hs : ISl w w.heap.size A 0 []) :
    Calls Tryd.prog 4 #[.slice A 0 cap, .int .i64 k, .int .i64 p] w (LawPost w) := by
  have Hg := aside hg
  have Hs := aside hs
  clear hg hs
  go_enter Tryd.func4, Tryd.ntmps4
  go_wp2_with fail
  refine (ranked_any _).mono ?_
  rintro e w1 ⟨rfl, hb1⟩
  have hB1 : Below w.heap.size w w1 := hb1
  have hs1 : ISl w1 w1.heap.size A 0 [] := Sl.more (Sl.below Hs.out hB1) hB1.size
  have hg1 : ErrVar w1 := Hg.out.below (errVar_lt Hg.out) hB1
  go_wp2_with fail
  refine (rank_any [] k A 0 cap w1 hs1 (by omega)).mono ?_
  rintro e w3 hr
  obtain ⟨r3, q3, rfl, hb3, h3⟩ := PostRank.err hr
  have hB3 : Below w.heap.size w w3 := hB1.trans (hb3.mono hB1.size)
  clear hb3 hB1 hs1 hg1
  have hs3 : ISl w3 w3.heap.size A 0 [] := Sl.more (Sl.below Hs.out hB3) hB3.size
  have hg3 : ErrVar w3 := Hg.out.below (errVar_lt Hg.out) hB3
  clear hr
  obtain ⟨rfl, rfl⟩ : q3 = 5 ∧ r3 = 0 := by
    rcases h3 with ⟨_, h2, _, _⟩ | ⟨_, rfl, rfl⟩ | ⟨g1, _, _, _⟩
    · simp at h2; omega
    · exact ⟨rfl, rfl⟩
    · exact absurd rfl g1
  clear h3
  generalize hv : errOf 5 = v3
  have Hv3 := aside hv
  clear hv
  go_wp2_with fail
  refine (error_at Hv3.out hg3).mono ?_
  rintro e w4 ⟨rfl, hb4⟩
  have hB4 : Below w.heap.size w w4 := hB3.trans (hb4.mono hB3.size)
  clear hb4 hB3 hs3 hg3
  have hs4 : ISl w4 w4.heap.size A 0 [] := Sl.more (Sl.below Hs.out hB4) hB4.size
  have hg4 : ErrVar w4 := Hg.out.below (errVar_lt Hg.out) hB4
  go_wp2_with fail
  refine (part_any [] p A 0 cap w4 hs4 (by omega)).mono ?_
  rintro e w7 hr
  obtain ⟨r7, q7, rfl, hb7, h7⟩ := PostPart.err hr
  have hB7 : Below w.heap.size w w7 := hB4.trans (hb7.mono hB4.size)
  clear hb7 hB4 hs4 hg4
  have hs7 : ISl w7 w7.heap.size A 0 [] := Sl.more (Sl.below Hs.out hB7) hB7.size
  have hg7 : ErrVar w7 := Hg.out.below (errVar_lt Hg.out) hB7
  clear hr
  obtain ⟨rfl, rfl⟩ : q7 = 5 ∧ r7 = 0 := by
    rcases h7 with ⟨_, _, h2, _⟩ | ⟨_, rfl, rfl⟩ | ⟨g1, _, _, _⟩
    · exact absurd rfl h2
    · exact ⟨rfl, rfl⟩
    · exact absurd rfl g1
  clear h7
  generalize hv : errOf 5 = v7
  have Hv7 := aside hv
  clear hv
  go_wp2_with fail
  refine (error_at Hv7.out hg7).mono ?_
  rintro e w8 ⟨rfl, hb8⟩
  have hB8 : Below w.heap.size w w8 := hB7.trans (hb8.mono hB7.size)
  clear hb8 hB7 hs7 hg7
  have hs8 : ISl w8 w8.heap.size A 0 [] := Sl.more (Sl.below Hs.out hB8) hB8.size
  have hg8 : ErrVar w8 := Hg.out.below (errVar_lt Hg.out) hB8
  go_wp2_with fail
  refine (middle_any [] A 0 cap w8 hs8 (by omega)).mono ?_
  rintro e w9 hr
  obtain ⟨r9, q9, rfl, hb9, h9⟩ := PostPart.err hr
  have hB9 : Below w.heap.size w w9 := hB8.trans (hb9.mono hB8.size)
  clear hb9 hB8 hs8 hg8
  have hs9 : ISl w9 w9.heap.size A 0 [] := Sl.more (Sl.below Hs.out hB9) hB9.size
  have hg9 : ErrVar w9 := Hg.out.below (errVar_lt Hg.out) hB9
  clear hr
  obtain ⟨rfl, rfl⟩ : q9 = 5 ∧ r9 = 0 := by
    rcases h9 with ⟨_, _, h2, _⟩ | ⟨_, rfl, rfl⟩ | ⟨g1, _, _, _⟩
    · exact absurd rfl h2
    · exact ⟨rfl, rfl⟩
    · exact absurd rfl g1
  clear h9
  generalize hv : errOf 5 = v9
  have Hv9 := aside hv
  clear hv
  go_wp2_with fail
  refine (error_at Hv9.out hg9).mono ?_
  rintro e w10 ⟨rfl, hb10⟩
  have hB10 : Below w.heap.size w w10 := hB9.trans (hb10.mono hB9.size)
  go_wp2
  all_goals go_ret
  all_goals exact ⟨by simp, hB10⟩

/-- What the law's arguments are. -/
theorem rankTells_walk {H : Type} {enc : TypeId × Value → H} (W : World) (args : Array Value) (ds : List (DataW H)) (ps : List MemPlace) (hg : ErrVar W)
    (h : LawPre enc Tryd.prog Tryd.f4 W args ds ps) : Calls Tryd.prog 4 args W (LawPost W) := by
  obtain ⟨hA, ⟨base, hval⟩, hlt, hsz⟩ := h
  rw [Tryd.params4] at hA hval hsz
  obtain ⟨v0, v1, v2, d0, d1, d2, p0, p1, p2, rfl, rfl, rfl, h0, h1, h2⟩ := trodAll_three hA
  obtain ⟨A, n, c', zs, rfl, hc1, hc2, hs, hwf, hx⟩ := open_intSlice (hval 0 _ v0 rfl rfl) h0 (fun x hx => hlt x (by simp [hx]))
  obtain ⟨k, rfl, rfl, rfl, _⟩ := open_int Tryd.underlying3 (hval 1 _ v1 rfl rfl) h1
  obtain ⟨p, rfl, rfl, rfl, _⟩ := open_int Tryd.underlying3 (hval 2 _ v2 rfl rfl) h2
  have hr := reach_ints hsz (j := 0) rfl rfl Tryd.underlying22 (by kernel_rfl) hx
  rcases Nat.eq_zero_or_pos n with h0 | hpos
  · subst h0
    obtain rfl := nil_of_len hs.len
    exact tells_nil A c' W k p hg hs
  · by_cases k0 : k < 0
    · by_cases p0 : p < 0
      · exact tells_lo_lo zs A n c' W k k0 p p0 hg hs hr hpos
      · by_cases p1 : 100 < p
        · exact tells_lo_hi zs A n c' W k k0 p p1 hg hs hr hpos
        · obtain ⟨q, rfl⟩ := Int.eq_ofNat_of_zero_le (show 0 ≤ p by omega)
          exact tells_lo_ok zs A n c' W k k0 q (by omega) hg hs hr hpos
    · by_cases k1 : (n : Int) ≤ k
      · by_cases p0 : p < 0
        · exact tells_hi_lo zs A n c' W k k1 p p0 hg hs hr hpos
        · by_cases p1 : 100 < p
          · exact tells_hi_hi zs A n c' W k k1 p p1 hg hs hr hpos
          · obtain ⟨q, rfl⟩ := Int.eq_ofNat_of_zero_le (show 0 ≤ p by omega)
            exact tells_hi_ok zs A n c' W k k1 q (by omega) hg hs hr hpos
      · obtain ⟨j, rfl⟩ := Int.eq_ofNat_of_zero_le (show 0 ≤ k by omega)
        by_cases p0 : p < 0
        · exact tells_ok_lo zs A n c' W j (by omega) p p0 hg hs hr hpos
        · by_cases p1 : 100 < p
          · exact tells_ok_hi zs A n c' W j (by omega) p p1 hg hs hr hpos
          · obtain ⟨q, rfl⟩ := Int.eq_ofNat_of_zero_le (show 0 ≤ p by omega)
            exact tells_ok_ok zs A n c' W j (by omega) q (by omega) hg hs hr hpos

set_option maxRecDepth 100000 in
theorem rankTells_lifted (os : Os) (started : os.Started) (H : Type) (enc : TypeId × Value → H) :
    ReturnsInHanded {} Tryd.checked os 4 .any (fun w args => (Rows.rankTellsSpec.pre enc Tryd.prog Tryd.f4 [] false w args ∧ laidMetH Tryd.prog laidList w) ∧ sizedMet enc Tryd.prog Tryd.f4 (OpenSpec.ofChange Rows.rankTellsSpec) false w args)
      (Rows.rankTellsSpec.post enc Tryd.prog Tryd.f4 false true false false) :=
  door_lifted (n := 3) #[.slice none 0 0, .int .i64 0, .int .i64 0] 8 started (by kernel_rfl) Tryd.func4 (by kernel_rfl) (by kernel_rfl) (by kernel_rfl) (by kernel_rfl) (by kernel_rfl)
    rfl (by kernel_rfl) (by kernel_rfl) (by kernel_rfl) (fun ds h => by match ds, h with | [a, b, c], _ => rfl) rankTells_walk

theorem RankTells_row : Rows.RankTellsSaid :=
  OpenClaim.holds_of_wide 4 Tryd.f4 rfl rfl rfl rfl rfl rfl rfl ⟨rfl, rfl, rfl, rfl, rfl⟩ rfl rfl rfl rfl rfl (by kernel_rfl) Tryd.func4 (by kernel_rfl)
    (of_decide_eq_true (by kernel_rfl)) (by unfold Func.isWrapper; rw [if_neg (of_decide_eq_false (by kernel_rfl))]; exact ⟨rfl, rfl⟩)
    (fun os started H enc _ => rankTells_lifted os started H enc)

theorem rankTells_noStand : ∀ t ∈ Tryd.f4.params.toList, Tryd.prog.wantsStandIn t = false :=
  List.all_eq_true.1 (show Tryd.f4.params.toList.all (fun t => !Tryd.prog.wantsStandIn t) = true by kernel_rfl) |> fun h t ht => by simpa using h t ht

/-- The statement: the card. -/
theorem RankTells_holds : Rows.RankTellsCardSaid :=
  Claim7.holds_tied_plain_at .later [] [.handle] true (true, "ab15b4ad66dd0eb8ff0af2bc4957a566a7b51571730ef51aafdca94f14045efb") true
    RankTells_row (fun _ h => by cases h) (by kernel_rfl) (fun _ h => by cases h) rankTells_row_tie rfl ⟨rfl, rfl⟩ (by kernel_rfl) rfl
    (fun f fn hf hfn => by
      obtain rfl : f = 4 := Option.some.inj ((show Tryd.prog.funcNamed "moneyer/moneyerlaw6.RankTells" = some 4 by kernel_rfl).symm.trans hf) |>.symm
      obtain rfl : fn = Tryd.f4 := (Option.some.inj (Tryd.func4.symm.trans hfn)).symm
      exact ⟨by kernel_rfl, fun j t ht => rankTells_noStand t (by
        have h2 : (Tryd.f4.params.toList)[j]? = some t := by simpa using ht
        exact List.mem_of_getElem? h2)⟩)
    (by kernel_rfl)
#print axioms RankTells_holds
end Go.Proofs.YtelmllngcbihjaaDoor
