/- moneyerref3.Final, at every channel. No condition. -/
import Derived.Test.YtpkclbemgmaahaaDoorLaneRb
namespace Go.Proofs.YtpkclbemgmaahaaDoor
open Go.RowKit Go.ChangeShapes Go.WideShapes Go.ChangeAt

theorem errF {w w1 : World} {a1 a2 : Value} (hB : Below w.heap.size w w1) : Below w.heap.size w ((w1.setCell ⟨w.heap.size + 1, 0, none⟩ a1).setCell ⟨w.heap.size + 1, 1, none⟩ a2) := by
  iterate 2 refine Below.setCell ?_ (by exact Nat.le_succ _) _
  exact hB
theorem errF2 {w w1 : World} {a1 a2 : Value} {c : Obj} (hB : Below w.heap.size w w1) (hz : w.heap.size ≤ w1.heap.size) : Below w.heap.size w (((w1.setCell ⟨w.heap.size + 1, 0, none⟩ a1).setCell ⟨w.heap.size + 1, 1, none⟩ a2).alloc c) :=
  (errF hB).alloc (by simp [World.setCell]; exact hz) _
theorem errF3 {w w1 : World} {a0 a1 a2 : Value} {o : Nat} {c : Obj} (hB : Below w.heap.size w w1) (hz : w.heap.size ≤ w1.heap.size) : Below w.heap.size w ((((w1.setCell ⟨w.heap.size + 1 + 1, o, none⟩ a0).setCell ⟨w.heap.size + 1, 0, none⟩ a1).setCell ⟨w.heap.size + 1, 1, none⟩ a2).alloc c) :=
  errF2 (hB.setCell (by show w.heap.size ≤ w.heap.size + 1 + 1; omega) _) (by simp [World.setCell]; exact hz)

set_option maxHeartbeats 16000000 in
set_option maxRecDepth 100000 in
theorem final_any (ps : List (Int × Int)) (A : Option Addr) (n c : Nat) (cl tu wh : Int) (ch : Bool) (now : Int) (w : World) (hp : PSl w w.heap.size A n ps) :
    Calls Tryd.prog 17 #[chV A n c cl tu wh ch, .int .i64 now] w (fun e w' => Below w.heap.size w w' ∧ e = .returned (.tuple #[outE (endsQ n ps cl tu wh ch now) (endsD ps cl tu ch), .int .i64 (endsQ n ps cl tu wh ch now)])) := by
  simp only [chV]
  go_enter Tryd.func17, Tryd.ntmps17
  go_wp2_with fail
  refine (fault_any ps _ _ c cl tu wh ch _ ((((hp.alloc (Nat.le_refl _) _).more (B' := (w.alloc _).heap.size) (by simp)).alloc (Nat.le_refl _) _ |>.more (B' := ((w.alloc _).alloc _).heap.size) (by simp)).alloc (Nat.le_refl _) _ |>.more (by simp))).mono ?_
  rintro e w1 ⟨rfl, hb⟩
  have hB : Below w.heap.size w w1 := ((((Below.refl _ _).alloc (Nat.le_refl _) _).alloc (by simp) _).alloc (by first | (simp; done) | (simp; omega)) _).trans (hb.mono (by first | (simp; done) | (simp; omega)))
  have hz := hb.size
  have d0 := hb.cell (p := ⟨w.heap.size, 0, none⟩) (by first | (simp; done) | (simp; omega))
  have d1 := hb.cell (p := ⟨w.heap.size, 1, none⟩) (by first | (simp; done) | (simp; omega))
  have d2 := hb.cell (p := ⟨w.heap.size, 2, none⟩) (by first | (simp; done) | (simp; omega))
  have d3 := hb.cell (p := ⟨w.heap.size, 3, none⟩) (by first | (simp; done) | (simp; omega))
  have d4 := hb.cell (p := ⟨w.heap.size, 4, none⟩) (by first | (simp; done) | (simp; omega))
  have r0 := hb.cell (p := ⟨w.heap.size + 1, 0, none⟩) (by first | (simp; done) | (simp; omega))
  have r1 := hb.cell (p := ⟨w.heap.size + 1, 1, none⟩) (by first | (simp; done) | (simp; omega))
  have s0 := hb.cell (p := ⟨w.heap.size + 2, 0, none⟩) (by simp)
  have s1 := hb.cell (p := ⟨w.heap.size + 2, 1, none⟩) (by simp)
  have f2 := fun o => hb.frozen (p := ⟨w.heap.size + 2, o, none⟩) (by simp)
  have f0 := fun o => hb.frozen (p := ⟨w.heap.size, o, none⟩) (by first | (simp; done) | (simp; omega))
  have f1 := fun o => hb.frozen (p := ⟨w.heap.size + 1, o, none⟩) (by first | (simp; done) | (simp; omega))
  simp [go_sem, World.cell?_alloc_past, World.frozen?_alloc_past] at d0 d1 d2 d3 d4 r0 r1 s0 s1 f2 f0 f1 hz
  have k0 : w.heap.size < w1.heap.size := by omega
  have k1 : w.heap.size + 1 < w1.heap.size := by omega
  have k2' : w.heap.size + 1 + 1 < w1.heap.size := by omega
  have HB := aside hB
  have HP := aside hp
  clear hb hp
  by_cases h0 : checkQ n ps cl tu wh ch = 0
  rotate_left
  · have HE : Hid (endsQ n ps cl tu wh ch now = checkQ n ps cl tu wh ch) := aside (by unfold endsQ; rw [if_pos h0])
    have H0 := aside h0
    have e0 : (checkQ n ps cl tu wh ch == 0) = false := by simpa using h0
    have e1 : (checkQ n ps cl tu wh ch != 0) = true := by simpa using h0
    clear h0
    go_wp2
    refine bodyPost_ret (v := .tuple #[.agg #[.int .i64 0, .int .i64 0], .int .i64 (checkQ n ps cl tu wh ch)]) (by simp only [results, Tryd.results17, chV]; go_simp) rfl ?_
    exact ⟨errF HB.out, by rw [HE.out, outE_bad H0.out]⟩
  rw [h0]
  have HK := aside (checkQ_ok h0)
  have HN := aside (turnsQ_ok HK.out.1)
  by_cases hn : now < wh
  · have HE : Hid (endsQ n ps cl tu wh ch now = 2) := aside (by unfold endsQ; rw [if_neg (by simp [h0]), if_pos hn])
    go_wp2
    refine bodyPost_ret (v := .tuple #[.agg #[.int .i64 0, .int .i64 0], .int .i64 2]) (by simp only [results, Tryd.results17, chV]; go_simp) rfl ?_
    exact ⟨errF HB.out, by rw [HE.out, outE_bad (by decide)]⟩
  have hn' : wh ≤ now := by omega
  by_cases hT : TimeIn now
  rotate_left
  · have HE : Hid (endsQ n ps cl tu wh ch now = 2) := aside (by unfold endsQ; rw [if_neg (by simp [h0]), if_neg hn, if_pos hT])
    have HT := aside hT
    clear hT h0 hn
    go_wp2_with (first | (go_at_call 24; refine (height_bad _ HT.out _).mono ?_; rintro e w' ⟨rfl, rfl⟩) | fail)
    refine bodyPost_ret (v := .tuple #[.agg #[.int .i64 0, .int .i64 0], .int .i64 2]) (by simp only [results, Tryd.results17, chV]; go_simp) rfl ?_
    exact ⟨errF HB.out, by rw [HE.out, outE_bad (by decide)]⟩
  have HT := aside hT
  by_cases hc : cl = 0
  · have HE : Hid (endsQ n ps cl tu wh ch now = 11) := aside (by unfold endsQ; rw [if_neg (by simp [h0]), if_neg hn, if_neg (by simpa using hT), if_pos hc])
    subst hc
    clear hT h0 hn
    go_wp2_with (first | (go_at_call 24; refine (height_ok _ HT.out _).mono ?_; rintro e w' ⟨rfl, rfl⟩) | fail)
    refine bodyPost_ret (v := .tuple #[.agg #[.int .i64 0, .int .i64 0], .int .i64 11]) (by simp only [results, Tryd.results17, chV]; go_simp) rfl ?_
    exact ⟨errF HB.out, by rw [HE.out, outE_bad (by decide)]⟩
  have b0 : (cl == 0) = false := by simpa using hc
  have ws : wrap64 (now - wh) = now - wh := by have := HK.out; unfold wrap64; unfold TimeIn at hT; omega
  by_cases he : now - wh < 100 ∧ ch = false
  · have HE : Hid (endsQ n ps cl tu wh ch now = 8) := aside (by unfold endsQ; rw [if_neg (by simp [h0]), if_neg hn, if_neg (by simpa using hT), if_neg hc, if_pos he])
    obtain ⟨he1, rfl⟩ := he
    clear hT h0 hn hc
    go_wp2_with (first | (go_at_call 24; refine (height_ok _ HT.out _).mono ?_; rintro e w' ⟨rfl, rfl⟩) | fail)
    refine bodyPost_ret (v := .tuple #[.agg #[.int .i64 0, .int .i64 0], .int .i64 8]) (by simp only [results, Tryd.results17, chV]; go_simp) rfl ?_
    exact ⟨errF HB.out, by rw [HE.out, outE_bad (by decide)]⟩
  have HE : Hid (endsQ n ps cl tu wh ch now = 0) := aside (by unfold endsQ; rw [if_neg (by simp [h0]), if_neg hn, if_neg (by simpa using hT), if_neg hc, if_neg he])
  have hlen := HP.out.len
  obtain ⟨t, htt⟩ : ∃ t : Nat, tu = (t : Int) := ⟨tu.toNat, by have := HK.out; omega⟩
  subst htt
  have htn : t < n := by have := HK.out; omega
  obtain ⟨b, off, rfl, hlt, c0, c1⟩ := HP.out.at_ htn
  have hmem := HN.out.2.2 (ps.getD t (0, 0)) (by rw [List.getD_eq_getElem?_getD, List.getElem?_eq_getElem (by omega), Option.getD_some]; exact List.getElem_mem _)
  have hD : endsD ps cl t ch = if ch = true then (if cl = 1 then (0, (ps.getD t (0, 0)).1 + (ps.getD t (0, 0)).2) else ((ps.getD t (0, 0)).1 + (ps.getD t (0, 0)).2, 0)) else ps.getD t (0, 0) := by simp only [endsD, turnAt, Int.toNat_natCast]
  have e0 := (hB.cell (p := ⟨b, off + t * 2, none⟩) hlt).trans c0
  have e1 := (hB.cell (p := ⟨b, off + t * 2 + 1, none⟩) hlt).trans c1
  generalize ps.getD t (0, 0) = p at e0 e1 hmem hD
  obtain ⟨x, y⟩ := p
  simp only [] at e0 e1 hmem hD
  have HD := aside hD
  have wx : wrap64 (x + y) = x + y := by unfold wrap64; unfold MoneyIn at hmem; omega
  have i1 : (t : Int) < (n : Int) := by omega
  have i2 : (0 : Int) ≤ (t : Int) := by omega
  have k2 : b < w1.heap.size := by omega
  have k3 : (w1.alloc (.cells #[.int .i64 x, .int .i64 y] 30)).heap.size = w1.heap.size + 1 := by simp
  have hcc : cl = 1 ∨ cl = 2 := by have := HK.out; omega
  clear hmem c0 c1 hD hB k3 hc h0 hT hn hlen
  cases ch
  · have he' : (now - wh < 100) = False := by simp only [eq_iff_iff, iff_false]; simp at he; omega
    clear he hcc
    go_wp2_with (first | (go_at_call 24; refine (height_ok _ HT.out _).mono ?_; rintro e w' ⟨rfl, rfl⟩) | fail)
    refine bodyPost_ret (v := .tuple #[.agg #[.int .i64 x, .int .i64 y], .int .i64 0]) (by simp only [results, Tryd.results17, chV]; go_simp) rfl ?_
    exact ⟨errF2 HB.out (Nat.le_of_lt k0), by rw [HE.out, outE_ok, HD.out]; rfl⟩
  · clear he
    rcases hcc with rfl | rfl
    · go_wp2_with (first | (go_at_call 24; refine (height_ok _ HT.out _).mono ?_; rintro e w' ⟨rfl, rfl⟩) | fail)
      all_goals refine bodyPost_ret (v := .tuple #[.agg #[.int .i64 0, .int .i64 (x + y)], .int .i64 0]) (by simp only [results, Tryd.results17, chV]; go_simp) rfl ?_
      all_goals exact ⟨errF3 HB.out (Nat.le_of_lt k0), by rw [HE.out, outE_ok, HD.out]; rfl⟩
    · go_wp2_with (first | (go_at_call 24; refine (height_ok _ HT.out _).mono ?_; rintro e w' ⟨rfl, rfl⟩) | fail)
      all_goals refine bodyPost_ret (v := .tuple #[.agg #[.int .i64 (x + y), .int .i64 0], .int .i64 0]) (by simp only [results, Tryd.results17, chV]; go_simp) rfl ?_
      all_goals exact ⟨errF3 HB.out (Nat.le_of_lt k0), by rw [HE.out, outE_ok, HD.out]; rfl⟩
end Go.Proofs.YtpkclbemgmaahaaDoor
