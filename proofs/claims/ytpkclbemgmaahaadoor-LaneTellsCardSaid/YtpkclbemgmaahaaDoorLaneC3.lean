/- lane.Ends, at every channel. No condition. -/
import Derived.Test.YtpkclbemgmaahaaDoorLaneQ
namespace Go.Proofs.YtpkclbemgmaahaaDoor
open Go.RowKit Go.ChangeShapes Go.WideShapes Go.ChangeAt

theorem err_doneE {w w1 : World} {a1 a2 : Value} (hB : Below w.heap.size w w1) : Below w.heap.size w ((w1.setCell ⟨w.heap.size + 1, 0, none⟩ a1).setCell ⟨w.heap.size + 1, 1, none⟩ a2) := by
  iterate 2 refine Below.setCell ?_ (by exact Nat.le_succ _) _
  exact hB
theorem err_doneE2 {w w1 : World} {a1 a2 : Value} {c : Obj} (hB : Below w.heap.size w w1) (hz : w.heap.size ≤ w1.heap.size) : Below w.heap.size w (((w1.setCell ⟨w.heap.size + 1, 0, none⟩ a1).setCell ⟨w.heap.size + 1, 1, none⟩ a2).alloc c) :=
  (err_doneE hB).alloc (by simp [World.setCell]; exact hz) _
theorem err_doneE3 {w w1 : World} {a1 a2 : Value} {c d : Obj} (hB : Below w.heap.size w w1) (hz : w.heap.size ≤ w1.heap.size) : Below w.heap.size w ((((w1.setCell ⟨w.heap.size + 1, 0, none⟩ a1).setCell ⟨w.heap.size + 1, 1, none⟩ a2).alloc c).alloc d) :=
  (err_doneE2 hB hz).alloc (by simp [World.setCell]; omega) _

set_option maxHeartbeats 8000000 in
set_option maxRecDepth 100000 in
theorem ends_err (ps : List (Int × Int)) (A : Option Addr) (n c : Nat) (cl tu wh : Int) (ch : Bool) (now : Int) (w : World) (hp : PSl w w.heap.size A n ps) (hq : endsQ n ps cl tu wh ch now ≠ 0) :
    Calls Tryd.prog 18 #[chV A n c cl tu wh ch, .int .i64 now] w (fun e w' => Below w.heap.size w w' ∧ e = .returned (.tuple #[.agg #[.int .i64 0, .int .i64 0], errV (endsQ n ps cl tu wh ch now)])) := by
  have HQ := aside hq
  clear hq
  simp only [chV]
  go_enter Tryd.func18, Tryd.ntmps18
  go_wp2_with fail
  refine (check_any ps _ _ c cl tu wh ch _ (((hp.alloc (Nat.le_refl _) _).more (B' := (w.alloc _).heap.size) (by simp)).alloc (Nat.le_refl _) _ |>.more (by simp))).mono ?_
  rintro e w1 ⟨rfl, hb⟩
  have hB : Below w.heap.size w w1 := (((Below.refl _ _).alloc (Nat.le_refl _) _).alloc (by simp) _).trans (hb.mono (by simp; omega))
  have hz := hb.size
  have d0 := hb.cell (p := ⟨w.heap.size, 0, none⟩) (by simp; omega)
  have d1 := hb.cell (p := ⟨w.heap.size, 1, none⟩) (by simp; omega)
  have d2 := hb.cell (p := ⟨w.heap.size, 2, none⟩) (by simp; omega)
  have d3 := hb.cell (p := ⟨w.heap.size, 3, none⟩) (by simp; omega)
  have d4 := hb.cell (p := ⟨w.heap.size, 4, none⟩) (by simp; omega)
  have r0 := hb.cell (p := ⟨w.heap.size + 1, 0, none⟩) (by simp)
  have r1 := hb.cell (p := ⟨w.heap.size + 1, 1, none⟩) (by simp)
  have f0 := fun o => hb.frozen (p := ⟨w.heap.size, o, none⟩) (by simp; omega)
  have f1 := fun o => hb.frozen (p := ⟨w.heap.size + 1, o, none⟩) (by simp)
  simp [go_sem, World.cell?_alloc_past, World.frozen?_alloc_past] at d0 d1 d2 d3 d4 r0 r1 f0 f1 hz
  have k0 : w.heap.size < w1.heap.size := by omega
  have k1 : w.heap.size + 1 < w1.heap.size := by omega
  have HB := aside hB
  clear hb hp hB
  by_cases h0 : checkQ n ps cl tu wh ch = 0
  rotate_left
  · have HE : endsQ n ps cl tu wh ch now = checkQ n ps cl tu wh ch := by unfold endsQ; rw [if_pos h0]
    have HE := aside HE
    have H0 := aside h0
    rw [errV_ne h0]
    clear h0
    go_wp2
    refine bodyPost_ret (v := .tuple #[.agg #[.int .i64 0, .int .i64 0], .iface 26 (.int .i64 (checkQ n ps cl tu wh ch))]) (by simp only [results, Tryd.results18, chV]; go_simp) rfl ?_
    exact ⟨err_doneE HB.out, by rw [HE.out, errV_ne H0.out]⟩
  rw [h0, errV_0]
  obtain ⟨-, hc0, hc2, -, -, hw0, hw1, -, -⟩ := checkQ_ok h0
  by_cases hw : now < wh
  · have HE : endsQ n ps cl tu wh ch now = 2 := by unfold endsQ; rw [if_neg (by simp [h0]), if_pos hw]
    have HE := aside HE
    clear h0
    go_wp2
    refine bodyPost_ret (v := .tuple #[.agg #[.int .i64 0, .int .i64 0], .iface 26 (.int .i64 2)]) (by simp only [results, Tryd.results18, chV]; go_simp) rfl ?_
    exact ⟨err_doneE HB.out, by rw [HE.out, errV_2]⟩
  have hw' : wh ≤ now := by omega
  by_cases hT : TimeIn now
  rotate_left
  · have HE : endsQ n ps cl tu wh ch now = 2 := by unfold endsQ; rw [if_neg (by simp [h0]), if_neg hw, if_pos hT]
    have HE := aside HE
    have HT := aside hT
    clear h0 hw hT
    go_wp2_with (first | (go_at_call 23; refine (time_bad _ HT.out _).mono ?_; rintro e w' ⟨rfl, rfl⟩) | fail)
    refine bodyPost_ret (v := .tuple #[.agg #[.int .i64 0, .int .i64 0], .iface 26 (.int .i64 2)]) (by simp only [results, Tryd.results18, chV]; go_simp) rfl ?_
    exact ⟨err_doneE HB.out, by rw [HE.out, errV_2]⟩
  have ws : wrap64 (now - wh) = now - wh := by unfold wrap64; unfold TimeIn at hT; omega
  by_cases hc : cl = 0
  · have HE : endsQ n ps cl tu wh ch now = 11 := by unfold endsQ; rw [if_neg (by simp [h0]), if_neg hw, if_neg (by simpa using hT), if_pos hc]
    have HE := aside HE
    have HT := aside hT
    clear h0 hw hT
    subst hc
    go_wp2_with (first | (go_at_call 23; refine (time_ok _ HT.out _).mono ?_; rintro e w' ⟨rfl, rfl⟩) | fail)
    refine bodyPost_ret (v := .tuple #[.agg #[.int .i64 0, .int .i64 0], .iface 26 (.int .i64 11)]) (by simp only [results, Tryd.results18, chV]; go_simp) rfl ?_
    exact ⟨err_doneE HB.out, by rw [HE.out, errV_11]⟩
  by_cases he : now - wh < 100 ∧ ch = false
  · have HE : endsQ n ps cl tu wh ch now = 8 := by unfold endsQ; rw [if_neg (by simp [h0]), if_neg hw, if_neg (by simpa using hT), if_neg hc, if_pos he]
    have HE := aside HE
    have HT := aside hT
    have b0 : (cl == 0) = false := by simpa using hc
    clear h0 hw hT hc
    obtain ⟨he1, rfl⟩ := he
    go_wp2_with (first | (go_at_call 23; refine (time_ok _ HT.out _).mono ?_; rintro e w' ⟨rfl, rfl⟩) | fail)
    refine bodyPost_ret (v := .tuple #[.agg #[.int .i64 0, .int .i64 0], .iface 26 (.int .i64 8)]) (by simp only [results, Tryd.results18, chV]; go_simp) rfl ?_
    exact ⟨err_doneE HB.out, by rw [HE.out, errV_8]⟩
  · exact absurd (by unfold endsQ; rw [if_neg (by simp [h0]), if_neg hw, if_neg (by simpa using hT), if_neg hc, if_neg he]) HQ.out

theorem endsQ_ok {n : Nat} {ps : List (Int × Int)} {cl tu wh : Int} {ch : Bool} {now : Int} (hq : endsQ n ps cl tu wh ch now = 0) :
    checkQ n ps cl tu wh ch = 0 ∧ wh ≤ now ∧ TimeIn now ∧ cl ≠ 0 ∧ (ch = true ∨ 100 ≤ now - wh) := by
  unfold endsQ at hq
  by_cases h0 : checkQ n ps cl tu wh ch = 0
  rotate_left
  · rw [if_pos h0] at hq; exact absurd hq h0
  rw [if_neg (by simp [h0])] at hq
  by_cases hw : now < wh
  · rw [if_pos hw] at hq; exact absurd hq (by decide)
  rw [if_neg hw] at hq
  by_cases hT : TimeIn now
  rotate_left
  · rw [if_pos hT] at hq; exact absurd hq (by decide)
  rw [if_neg (by simpa using hT)] at hq
  by_cases hc : cl = 0
  · rw [if_pos hc] at hq; exact absurd hq (by decide)
  rw [if_neg hc] at hq
  by_cases he : now - wh < 100 ∧ ch = false
  · rw [if_pos he] at hq; exact absurd hq (by decide)
  refine ⟨h0, by omega, hT, hc, ?_⟩
  cases ch
  · right
    simp only [and_true] at he
    omega
  · exact .inl rfl

def PostEnds (n : Nat) (ps : List (Int × Int)) (cl tu wh : Int) (ch : Bool) (now : Int) (w : World) (e : Ending) (w' : World) : Prop := Below w.heap.size w w' ∧
  ((endsQ n ps cl tu wh ch now = 0 ∧ e = .returned (.tuple #[.agg #[.int .i64 (endsD ps cl tu ch).1, .int .i64 (endsD ps cl tu ch).2], .nilIface])) ∨
   (endsQ n ps cl tu wh ch now ≠ 0 ∧ e = .returned (.tuple #[.agg #[.int .i64 0, .int .i64 0], errV (endsQ n ps cl tu wh ch now)])))

set_option maxHeartbeats 8000000 in
set_option maxRecDepth 100000 in
theorem ends_ok (ps : List (Int × Int)) (A : Option Addr) (n c : Nat) (cl tu wh : Int) (ch : Bool) (now : Int) (w : World) (hp : PSl w w.heap.size A n ps)
    (h0 : checkQ n ps cl tu wh ch = 0) (hw : wh ≤ now) (hT : TimeIn now) (hc : cl ≠ 0) (hd : ch = true ∨ 100 ≤ now - wh) :
    Calls Tryd.prog 18 #[chV A n c cl tu wh ch, .int .i64 now] w (fun e w' => Below w.heap.size w w' ∧ e = .returned (.tuple #[.agg #[.int .i64 (endsD ps cl tu ch).1, .int .i64 (endsD ps cl tu ch).2], .nilIface])) := by
  have H0 := aside h0
  have HT := aside hT
  have hlen := hp.len
  obtain ⟨ht, hc0, hc2, ht0, ht1, hw0, hw1, -, -⟩ := checkQ_ok h0
  obtain ⟨-, -, hall⟩ := turnsQ_ok ht
  obtain ⟨t, rfl⟩ : ∃ t : Nat, tu = (t : Int) := ⟨tu.toNat, by omega⟩
  have htn : t < n := by omega
  obtain ⟨b, off, rfl, hlt, c0, c1⟩ := hp.at_ htn
  have hmem := hall (ps.getD t (0, 0)) (by rw [List.getD_eq_getElem?_getD, List.getElem?_eq_getElem (by omega), Option.getD_some]; exact List.getElem_mem _)
  have hD : endsD ps cl t ch = if ch = true then (if cl = 1 then (0, (ps.getD t (0, 0)).1 + (ps.getD t (0, 0)).2) else ((ps.getD t (0, 0)).1 + (ps.getD t (0, 0)).2, 0)) else ps.getD t (0, 0) := by simp only [endsD, turnAt, Int.toNat_natCast]
  rw [hD]
  generalize ps.getD t (0, 0) = p at c0 c1 hmem ⊢
  obtain ⟨x, y⟩ := p
  simp only [] at c0 c1 hmem ⊢
  have HMem := aside hmem
  have HCL := aside (And.intro hc (And.intro hc0 hc2))
  have HWH := aside (And.intro hw (And.intro hw0 hw1))
  have HD := aside hd
  have HTN := aside htn
  clear hall ht h0 hT hmem hD hc hc0 hc2 hw hw0 hw1 hd htn ht0 ht1 hlen
  simp only [chV]
  go_enter Tryd.func18, Tryd.ntmps18
  go_wp2_with fail
  refine (check_any ps _ _ c cl (t : Int) wh ch _ (((hp.alloc (Nat.le_refl _) _).more (B' := (w.alloc _).heap.size) (by simp)).alloc (Nat.le_refl _) _ |>.more (by simp))).mono ?_
  rintro e w1 ⟨rfl, hb⟩
  have hB : Below w.heap.size w w1 := (((Below.refl _ _).alloc (Nat.le_refl _) _).alloc (by simp) _).trans (hb.mono (by simp; omega))
  have hz := hb.size
  have d0 := hb.cell (p := ⟨w.heap.size, 0, none⟩) (by simp; omega)
  have d1 := hb.cell (p := ⟨w.heap.size, 1, none⟩) (by simp; omega)
  have d2 := hb.cell (p := ⟨w.heap.size, 2, none⟩) (by simp; omega)
  have d3 := hb.cell (p := ⟨w.heap.size, 3, none⟩) (by simp; omega)
  have d4 := hb.cell (p := ⟨w.heap.size, 4, none⟩) (by simp; omega)
  have r0 := hb.cell (p := ⟨w.heap.size + 1, 0, none⟩) (by simp)
  have r1 := hb.cell (p := ⟨w.heap.size + 1, 1, none⟩) (by simp)
  have f0 := fun o => hb.frozen (p := ⟨w.heap.size, o, none⟩) (by simp; omega)
  have f1 := fun o => hb.frozen (p := ⟨w.heap.size + 1, o, none⟩) (by simp)
  simp [go_sem, World.cell?_alloc_past, World.frozen?_alloc_past] at d0 d1 d2 d3 d4 r0 r1 f0 f1 hz
  have k0 : w.heap.size < w1.heap.size := by omega
  have k1 : w.heap.size + 1 < w1.heap.size := by omega
  have HB := aside hB
  have e0 := (hB.cell (p := ⟨b, off + t * 2, none⟩) hlt).trans c0
  have e1 := (hB.cell (p := ⟨b, off + t * 2 + 1, none⟩) hlt).trans c1
  have k2 : b < w1.heap.size := by omega
  clear hb hp hB c0 c1
  rw [H0.out, errV_0]
  have ws : wrap64 (now - wh) = now - wh := by have := HWH.out; have := HT.out; unfold wrap64; unfold TimeIn at this; omega
  have wx : wrap64 (x + y) = x + y := by have hmem := HMem.out; unfold wrap64; unfold MoneyIn at hmem; omega
  have b0 : (cl == 0) = false := by simpa using HCL.out.1
  have i1 : (t : Int) < (n : Int) := by have := HTN.out; omega
  have i2 : (0 : Int) ≤ (t : Int) := by omega
  have hw : wh ≤ now := HWH.out.1
  have hd := HD.out
  cases ch
  · have hd' : (now - wh < 100) = False := by simp only [eq_iff_iff, iff_false]; simp at hd; omega
    clear hd
    go_wp2_with (first | (go_at_call 23; refine (time_ok _ HT.out _).mono ?_; rintro e w' ⟨rfl, rfl⟩) | fail)
    refine bodyPost_ret (v := .tuple #[.agg #[.int .i64 x, .int .i64 y], .nilIface]) (by simp only [results, Tryd.results18, chV]; go_simp) rfl ?_
    exact ⟨err_doneE2 HB.out (Nat.le_of_lt k0), rfl⟩
  · clear hd
    have hcc : cl = 1 ∨ cl = 2 := by have := HCL.out; omega
    rcases hcc with rfl | rfl
    · go_wp2_with (first | (go_at_call 23; refine (time_ok _ HT.out _).mono ?_; rintro e w' ⟨rfl, rfl⟩) | fail)
      all_goals refine bodyPost_ret (v := .tuple #[.agg #[.int .i64 0, .int .i64 (x + y)], .nilIface]) (by simp only [results, Tryd.results18, chV]; go_simp) rfl ?_
      all_goals exact ⟨err_doneE3 HB.out (Nat.le_of_lt k0), rfl⟩
    · go_wp2_with (first | (go_at_call 23; refine (time_ok _ HT.out _).mono ?_; rintro e w' ⟨rfl, rfl⟩) | fail)
      all_goals refine bodyPost_ret (v := .tuple #[.agg #[.int .i64 (x + y), .int .i64 0], .nilIface]) (by simp only [results, Tryd.results18, chV]; go_simp) rfl ?_
      all_goals exact ⟨err_doneE3 HB.out (Nat.le_of_lt k0), rfl⟩

/-- lane.Ends, at every channel. -/
theorem ends_any (ps : List (Int × Int)) (A : Option Addr) (n c : Nat) (cl tu wh : Int) (ch : Bool) (now : Int) (w : World) (hp : PSl w w.heap.size A n ps) :
    Calls Tryd.prog 18 #[chV A n c cl tu wh ch, .int .i64 now] w (PostEnds n ps cl tu wh ch now w) := by
  by_cases hq : endsQ n ps cl tu wh ch now = 0
  · obtain ⟨h0, hw, hT, hc, hd⟩ := endsQ_ok hq
    exact (ends_ok ps A n c cl tu wh ch now w hp h0 hw hT hc hd).mono fun e w' h => ⟨h.1, .inl ⟨hq, h.2⟩⟩
  · exact (ends_err ps A n c cl tu wh ch now w hp hq).mono fun e w' h => ⟨h.1, .inr ⟨hq, h.2⟩⟩
end Go.Proofs.YtpkclbemgmaahaaDoor
