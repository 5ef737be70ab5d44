/- moneyerref3.Shut, at every channel. No condition. -/
import Derived.Test.YtpkclbemgmaahaaDoorLaneRb
namespace Go.Proofs.YtpkclbemgmaahaaDoor
open Go.RowKit Go.ChangeShapes Go.WideShapes Go.ChangeAt

set_option maxHeartbeats 16000000 in
set_option maxRecDepth 100000 in
theorem shut_any (ps : List (Int × Int)) (A : Option Addr) (n c : Nat) (cl tu wh : Int) (ch : Bool) (who turn now : Int) (w : World) (hp : PSl w w.heap.size A n ps) :
    Calls Tryd.prog 13 #[chV A n c cl tu wh ch, .int .i64 who, .int .i64 turn, .int .i64 now] w (fun e w' => Below w.heap.size w w' ∧ e = .returned (.tuple #[outV (closeQ n ps cl tu wh ch who turn now) A n c (who + 1) turn now ch, .int .i64 (closeQ n ps cl tu wh ch who turn now)])) := by
  simp only [chV]
  go_enter Tryd.func13, Tryd.ntmps13
  go_wp2_with fail
  refine (fault_any ps _ _ c cl tu wh ch _ (((hp.alloc (Nat.le_refl _) _).more (B' := (w.alloc _).heap.size) (by simp)).alloc (Nat.le_refl _) _ |>.more (by simp))).mono ?_
  rintro e w1 ⟨rfl, hb⟩
  have hB : Below w.heap.size w w1 := (((Below.refl _ _).alloc (Nat.le_refl _) _).alloc (by simp) _).trans (hb.mono (by first | (simp; done) | (simp; omega)))
  have hz := hb.size
  have d0 := hb.cell (p := ⟨w.heap.size, 0, none⟩) (by first | (simp; done) | (simp; omega))
  have d1 := hb.cell (p := ⟨w.heap.size, 1, none⟩) (by first | (simp; done) | (simp; omega))
  have d2 := hb.cell (p := ⟨w.heap.size, 2, none⟩) (by first | (simp; done) | (simp; omega))
  have d3 := hb.cell (p := ⟨w.heap.size, 3, none⟩) (by first | (simp; done) | (simp; omega))
  have d4 := hb.cell (p := ⟨w.heap.size, 4, none⟩) (by first | (simp; done) | (simp; omega))
  have r0 := hb.cell (p := ⟨w.heap.size + 1, 0, none⟩) (by simp)
  have r1 := hb.cell (p := ⟨w.heap.size + 1, 1, none⟩) (by simp)
  have r2 := hb.cell (p := ⟨w.heap.size + 1, 2, none⟩) (by simp)
  have r3 := hb.cell (p := ⟨w.heap.size + 1, 3, none⟩) (by simp)
  have r4 := hb.cell (p := ⟨w.heap.size + 1, 4, none⟩) (by simp)
  have f0 := fun o => hb.frozen (p := ⟨w.heap.size, o, none⟩) (by first | (simp; done) | (simp; omega))
  have f1 := fun o => hb.frozen (p := ⟨w.heap.size + 1, o, none⟩) (by simp)
  simp [go_sem, World.cell?_alloc_past, World.frozen?_alloc_past] at d0 d1 d2 d3 d4 r0 r1 r2 r3 r4 f0 f1 hz
  have k0 : w.heap.size < w1.heap.size := by omega
  have k1 : w.heap.size + 1 < w1.heap.size := by omega
  have HB := aside hB
  clear hb hp hB
  by_cases h0 : checkQ n ps cl tu wh ch = 0
  rotate_left
  · have HE : Hid (closeQ n ps cl tu wh ch who turn now = checkQ n ps cl tu wh ch) := aside (by unfold closeQ; rw [if_pos h0])
    have H0 := aside h0
    have e0 : (checkQ n ps cl tu wh ch == 0) = false := by simpa using h0
    have e1 : (checkQ n ps cl tu wh ch != 0) = true := by simpa using h0
    clear h0
    go_wp2
    refine bodyPost_ret (v := .tuple #[chV none 0 0 0 0 0 false, .int .i64 (checkQ n ps cl tu wh ch)]) (by simp only [results, Tryd.results13, chV]; go_simp) rfl ?_
    exact ⟨errR HB.out, by rw [HE.out, outV_bad H0.out]⟩
  rw [h0]
  obtain ⟨-, hcl0, -, -, -, -, -, -, -⟩ := checkQ_ok h0
  by_cases hw : who ≠ 0 ∧ who ≠ 1
  · have HE : Hid (closeQ n ps cl tu wh ch who turn now = 2) := aside (by unfold closeQ; rw [if_neg (by simp [h0]), if_pos hw])
    have hw2 : who < 0 ∨ (0 ≤ who ∧ 1 < who) := by omega
    clear hw
    rcases hw2 with hw2 | ⟨hw2, hw3⟩
    all_goals go_wp2
    all_goals refine bodyPost_ret (v := .tuple #[chV none 0 0 0 0 0 false, .int .i64 2]) (by simp only [results, Tryd.results13, chV]; go_simp) rfl ?_
    all_goals exact ⟨errR HB.out, by rw [HE.out, outV_bad (by decide)]⟩
  have hw0 : 0 ≤ who := by omega
  have hw1 : who ≤ 1 := by omega
  by_cases ht : turn < 0
  · have HE : Hid (closeQ n ps cl tu wh ch who turn now = 2) := aside (by unfold closeQ; rw [if_neg (by simp [h0]), if_neg hw, if_pos ht])
    go_wp2
    refine bodyPost_ret (v := .tuple #[chV none 0 0 0 0 0 false, .int .i64 2]) (by simp only [results, Tryd.results13, chV]; go_simp) rfl ?_
    exact ⟨errR HB.out, by rw [HE.out, outV_bad (by decide)]⟩
  have ht' : 0 ≤ turn := by omega
  by_cases hn : (n : Int) ≤ turn
  · have HE : Hid (closeQ n ps cl tu wh ch who turn now = 2) := aside (by unfold closeQ; rw [if_neg (by simp [h0]), if_neg hw, if_neg ht, if_pos hn])
    go_wp2
    refine bodyPost_ret (v := .tuple #[chV none 0 0 0 0 0 false, .int .i64 2]) (by simp only [results, Tryd.results13, chV]; go_simp) rfl ?_
    exact ⟨errR HB.out, by rw [HE.out, outV_bad (by decide)]⟩
  have hn' : turn < (n : Int) := by omega
  by_cases hT : TimeIn now
  rotate_left
  · have HE : Hid (closeQ n ps cl tu wh ch who turn now = 2) := aside (by unfold closeQ; rw [if_neg (by simp [h0]), if_neg hw, if_neg ht, if_neg hn, if_pos hT])
    have HT := aside hT
    clear hw hT h0 ht hn
    go_wp2_with (first | (go_at_call 24; refine (height_bad _ HT.out _).mono ?_; rintro e w' ⟨rfl, rfl⟩) | fail)
    refine bodyPost_ret (v := .tuple #[chV none 0 0 0 0 0 false, .int .i64 2]) (by simp only [results, Tryd.results13, chV]; go_simp) rfl ?_
    exact ⟨errR HB.out, by rw [HE.out, outV_bad (by decide)]⟩
  have HT := aside hT
  by_cases hc : cl = 0
  · have HE : Hid (closeQ n ps cl tu wh ch who turn now = 0) := aside (by unfold closeQ; rw [if_neg (by simp [h0]), if_neg hw, if_neg ht, if_neg hn, if_neg (by simpa using hT), if_neg (by simpa using hc)])
    have hww : wrap64 (who + 1) = who + 1 := by unfold wrap64; omega
    subst hc
    clear hw hT h0 ht hn
    go_wp2_with (first | (go_at_call 24; refine (height_ok _ HT.out _).mono ?_; rintro e w' ⟨rfl, rfl⟩) | fail)
    refine bodyPost_ret (v := .tuple #[chV A n c (who + 1) turn now ch, .int .i64 0]) (by simp only [results, Tryd.results13, chV]; go_simp) rfl ?_
    refine ⟨?_, by rw [HE.out, outV_ok]⟩
    refine set5_below (Nat.le_succ _) ?_
    iterate 3 refine Below.setCell ?_ (by exact Nat.le_refl _) _
    exact HB.out
  · have HE : Hid (closeQ n ps cl tu wh ch who turn now = 11) := aside (by unfold closeQ; rw [if_neg (by simp [h0]), if_neg hw, if_neg ht, if_neg hn, if_neg (by simpa using hT), if_pos hc])
    have hc' : 0 < cl := by omega
    clear hw hT h0 ht hn hc
    go_wp2_with (first | (go_at_call 24; refine (height_ok _ HT.out _).mono ?_; rintro e w' ⟨rfl, rfl⟩) | fail)
    refine bodyPost_ret (v := .tuple #[chV none 0 0 0 0 0 false, .int .i64 11]) (by simp only [results, Tryd.results13, chV]; go_simp) rfl ?_
    exact ⟨errR HB.out, by rw [HE.out, outV_bad (by decide)]⟩
end Go.Proofs.YtpkclbemgmaahaaDoor
