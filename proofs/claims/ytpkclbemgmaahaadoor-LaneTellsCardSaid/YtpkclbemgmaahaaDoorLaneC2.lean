/- lane.Show, at every channel. No condition. -/
import Derived.Test.YtpkclbemgmaahaaDoorLaneQ
namespace Go.Proofs.YtpkclbemgmaahaaDoor
open Go.RowKit Go.ChangeShapes Go.WideShapes Go.ChangeAt

set_option maxHeartbeats 16000000 in
set_option maxRecDepth 100000 in
theorem show_err (ps : List (Int × Int)) (A : Option Addr) (n c : Nat) (cl tu wh : Int) (ch : Bool) (who now : Int) (w : World) (hp : PSl w w.heap.size A n ps) (hq : showQ n ps cl tu wh ch who now ≠ 0) :
    Calls Tryd.prog 16 #[chV A n c cl tu wh ch, .int .i64 who, .int .i64 now] w (fun e w' => Below w.heap.size w w' ∧ e = .returned (.tuple #[chV none 0 0 0 0 0 false, errV (showQ n ps cl tu wh ch who now)])) := by
  have HQ := aside hq
  clear hq
  simp only [chV]
  go_enter Tryd.func16, Tryd.ntmps16
  go_wp2_with fail
  refine (check_any ps _ _ c cl tu wh ch _ (((hp.alloc (Nat.le_refl _) _).more (B' := (w.alloc _).heap.size) (by simp)).alloc (Nat.le_refl _) _ |>.more (by simp))).mono ?_
  rintro e w1 ⟨rfl, hb⟩
  have hB : Below w.heap.size w w1 := (((Below.refl _ _).alloc (Nat.le_refl _) _).alloc (by simp) _).trans (hb.mono (by simp; omega))
  have hz := hb.size
  have d0 := hb.cell (p := ⟨w.heap.size, 0, none⟩) (by simp; omega)
  have d1 := hb.cell (p := ⟨w.heap.size, 1, none⟩) (by simp; omega)
  have d2 := hb.cell (p := ⟨w.heap.size, 2, none⟩) (by simp; omega)
  have d3 := hb.cell (p := ⟨w.heap.size, 3, none⟩) (by simp; omega)
  have d4 := hb.cell (p := ⟨w.heap.size, 4, none⟩) (by simp; omega)
  have r0 := hb.cell (p := ⟨w.heap.size + 1, 0, none⟩) (by simp)
  have r1 := hb.cell (p := ⟨w.heap.size + 1, 1, none⟩) (by simp)
  have r2 := hb.cell (p := ⟨w.heap.size + 1, 2, none⟩) (by simp)
  have r3 := hb.cell (p := ⟨w.heap.size + 1, 3, none⟩) (by simp)
  have r4 := hb.cell (p := ⟨w.heap.size + 1, 4, none⟩) (by simp)
  have f0 := fun o => hb.frozen (p := ⟨w.heap.size, o, none⟩) (by simp; omega)
  have f1 := fun o => hb.frozen (p := ⟨w.heap.size + 1, o, none⟩) (by simp)
  simp [go_sem, World.cell?_alloc_past, World.frozen?_alloc_past] at d0 d1 d2 d3 d4 r0 r1 r2 r3 r4 f0 f1 hz
  have k0 : w.heap.size < w1.heap.size := by omega
  have k1 : w.heap.size + 1 < w1.heap.size := by omega
  have HB := aside hB
  clear hb hp hB
  by_cases h0 : checkQ n ps cl tu wh ch = 0
  rotate_left
  · have HE : showQ n ps cl tu wh ch who now = checkQ n ps cl tu wh ch := by unfold showQ; rw [if_pos h0]
    have HE := aside HE
    have H0 := aside h0
    rw [errV_ne h0]
    clear h0
    go_wp2
    refine bodyPost_ret (v := .tuple #[chV none 0 0 0 0 0 false, .iface 26 (.int .i64 (checkQ n ps cl tu wh ch))]) (by simp only [results, Tryd.results16, chV]; go_simp) rfl ?_
    exact ⟨err_done HB.out, by rw [HE.out, errV_ne H0.out]; rfl⟩
  rw [h0, errV_0]
  have HK := aside (checkQ_ok h0)
  have HN := aside (turnsQ_ok HK.out.1)
  by_cases hw : who ≠ 0 ∧ who ≠ 1
  · have HE : showQ n ps cl tu wh ch who now = 2 := by unfold showQ; rw [if_neg (by simp [h0]), if_pos hw]
    have HE := aside HE
    clear h0
    obtain ⟨hf0, hf1⟩ := hw
    have b0 : (who != 0) = true := by simpa using hf0
    have b1 : (who != 1) = true := by simpa using hf1
    go_wp2
    refine bodyPost_ret (v := .tuple #[chV none 0 0 0 0 0 false, .iface 26 (.int .i64 2)]) (by simp only [results, Tryd.results16, chV]; go_simp) rfl ?_
    exact ⟨err_done HB.out, by rw [HE.out, errV_2]; rfl⟩
  have hw' : who = 0 ∨ who = 1 := by omega
  by_cases hn : now < wh
  · have HE : showQ n ps cl tu wh ch who now = 2 := by unfold showQ; rw [if_neg (by simp [h0]), if_neg hw, if_pos hn]
    have HE := aside HE
    clear h0 hw
    rcases hw' with rfl | rfl
    all_goals go_wp2
    all_goals refine bodyPost_ret (v := .tuple #[chV none 0 0 0 0 0 false, .iface 26 (.int .i64 2)]) (by simp only [results, Tryd.results16, chV]; go_simp) rfl ?_
    all_goals exact ⟨err_done HB.out, by rw [HE.out, errV_2]; rfl⟩
  have hn' : wh ≤ now := by omega
  by_cases hT : TimeIn now
  rotate_left
  · have HE : showQ n ps cl tu wh ch who now = 2 := by unfold showQ; rw [if_neg (by simp [h0]), if_neg hw, if_neg hn, if_pos hT]
    have HE := aside HE
    have HT := aside hT
    clear h0 hw hn hT
    rcases hw' with rfl | rfl
    all_goals go_wp2_with (first | (go_at_call 23; refine (time_bad _ HT.out _).mono ?_; rintro e w' ⟨rfl, rfl⟩) | fail)
    all_goals refine bodyPost_ret (v := .tuple #[chV none 0 0 0 0 0 false, .iface 26 (.int .i64 2)]) (by simp only [results, Tryd.results16, chV]; go_simp) rfl ?_
    all_goals exact ⟨err_done HB.out, by rw [HE.out, errV_2]; rfl⟩
  have HT := aside hT
  by_cases hc : cl = 0
  · have HE : showQ n ps cl tu wh ch who now = 11 := by unfold showQ; rw [if_neg (by simp [h0]), if_neg hw, if_neg hn, if_neg (by simpa using hT), if_pos hc]
    have HE := aside HE
    clear h0 hw hn hT
    subst hc
    rcases hw' with rfl | rfl
    all_goals go_wp2_with (first | (go_at_call 23; refine (time_ok _ HT.out _).mono ?_; rintro e w' ⟨rfl, rfl⟩) | fail)
    all_goals refine bodyPost_ret (v := .tuple #[chV none 0 0 0 0 0 false, .iface 26 (.int .i64 11)]) (by simp only [results, Tryd.results16, chV]; go_simp) rfl ?_
    all_goals exact ⟨err_done HB.out, by rw [HE.out, errV_11]; rfl⟩
  by_cases hd : cl = who + 1
  · have HE : showQ n ps cl tu wh ch who now = 11 := by unfold showQ; rw [if_neg (by simp [h0]), if_neg hw, if_neg hn, if_neg (by simpa using hT), if_neg hc, if_pos hd]
    have HE := aside HE
    clear h0 hw hn hT hc
    subst hd
    rcases hw' with rfl | rfl
    all_goals go_wp2_with (first | (go_at_call 23; refine (time_ok _ HT.out _).mono ?_; rintro e w' ⟨rfl, rfl⟩) | fail)
    all_goals refine bodyPost_ret (v := .tuple #[chV none 0 0 0 0 0 false, .iface 26 (.int .i64 11)]) (by simp only [results, Tryd.results16, chV]; go_simp) rfl ?_
    all_goals exact ⟨err_done HB.out, by rw [HE.out, errV_11]; rfl⟩
  have b0 : (cl == 0) = false := by simpa using hc
  have b1 : (cl == who + 1) = false := by simpa using hd
  have w1' : wrap64 ((n : Int) - 1) = (n : Int) - 1 := by have := HN.out; unfold wrap64; omega
  by_cases ht : tu = (n : Int) - 1
  · have HE : showQ n ps cl tu wh ch who now = 11 := by unfold showQ; rw [if_neg (by simp [h0]), if_neg hw, if_neg hn, if_neg (by simpa using hT), if_neg hc, if_neg hd, if_pos ht]
    have HE := aside HE
    have b2 : (tu == (n : Int) - 1) = true := by simpa using ht
    clear h0 hw hn hT hc hd ht
    rcases hw' with rfl | rfl
    · have b1 : (cl == 1) = false := b1
      go_wp2_with (first | (go_at_call 23; refine (time_ok _ HT.out _).mono ?_; rintro e w' ⟨rfl, rfl⟩) | fail)
      refine bodyPost_ret (v := .tuple #[chV none 0 0 0 0 0 false, .iface 26 (.int .i64 11)]) (by simp only [results, Tryd.results16, chV]; go_simp) rfl ?_
      exact ⟨err_done HB.out, by rw [HE.out, errV_11]; rfl⟩
    · have b1 : (cl == 2) = false := b1
      go_wp2_with (first | (go_at_call 23; refine (time_ok _ HT.out _).mono ?_; rintro e w' ⟨rfl, rfl⟩) | fail)
      refine bodyPost_ret (v := .tuple #[chV none 0 0 0 0 0 false, .iface 26 (.int .i64 11)]) (by simp only [results, Tryd.results16, chV]; go_simp) rfl ?_
      exact ⟨err_done HB.out, by rw [HE.out, errV_11]; rfl⟩
  have b2 : (tu == (n : Int) - 1) = false := by simpa using ht
  have ws : wrap64 (now - wh) = now - wh := by have := HK.out; unfold wrap64; unfold TimeIn at hT; omega
  by_cases he : 100 ≤ now - wh
  · have HE : showQ n ps cl tu wh ch who now = 8 := by unfold showQ; rw [if_neg (by simp [h0]), if_neg hw, if_neg hn, if_neg (by simpa using hT), if_neg hc, if_neg hd, if_neg ht, if_pos he]
    have HE := aside HE
    clear h0 hw hn hT hc hd ht
    rcases hw' with rfl | rfl
    · have b1 : (cl == 1) = false := b1
      go_wp2_with (first | (go_at_call 23; refine (time_ok _ HT.out _).mono ?_; rintro e w' ⟨rfl, rfl⟩) | fail)
      refine bodyPost_ret (v := .tuple #[chV none 0 0 0 0 0 false, .iface 26 (.int .i64 8)]) (by simp only [results, Tryd.results16, chV]; go_simp) rfl ?_
      exact ⟨err_done HB.out, by rw [HE.out, errV_8]; rfl⟩
    · have b1 : (cl == 2) = false := b1
      go_wp2_with (first | (go_at_call 23; refine (time_ok _ HT.out _).mono ?_; rintro e w' ⟨rfl, rfl⟩) | fail)
      refine bodyPost_ret (v := .tuple #[chV none 0 0 0 0 0 false, .iface 26 (.int .i64 8)]) (by simp only [results, Tryd.results16, chV]; go_simp) rfl ?_
      exact ⟨err_done HB.out, by rw [HE.out, errV_8]; rfl⟩
  · exact absurd (by unfold showQ; rw [if_neg (by simp [h0]), if_neg hw, if_neg hn, if_neg (by simpa using hT), if_neg hc, if_neg hd, if_neg ht, if_neg he]) HQ.out

theorem showQ_ok {n : Nat} {ps : List (Int × Int)} {cl tu wh : Int} {ch : Bool} {who now : Int} (hq : showQ n ps cl tu wh ch who now = 0) :
    checkQ n ps cl tu wh ch = 0 ∧ (who = 0 ∨ who = 1) ∧ wh ≤ now ∧ TimeIn now ∧ cl ≠ 0 ∧ cl ≠ who + 1 ∧ tu ≠ (n : Int) - 1 ∧ now - wh < 100 := by
  unfold showQ at hq
  by_cases h0 : checkQ n ps cl tu wh ch = 0
  rotate_left
  · rw [if_pos h0] at hq; exact absurd hq h0
  rw [if_neg (by simp [h0])] at hq
  by_cases hw : who ≠ 0 ∧ who ≠ 1
  · rw [if_pos hw] at hq; exact absurd hq (by decide)
  rw [if_neg hw] at hq
  by_cases hn : now < wh
  · rw [if_pos hn] at hq; exact absurd hq (by decide)
  rw [if_neg hn] at hq
  by_cases hT : TimeIn now
  rotate_left
  · rw [if_pos hT] at hq; exact absurd hq (by decide)
  rw [if_neg (by simpa using hT)] at hq
  by_cases hc : cl = 0
  · rw [if_pos hc] at hq; exact absurd hq (by decide)
  rw [if_neg hc] at hq
  by_cases hd : cl = who + 1
  · rw [if_pos hd] at hq; exact absurd hq (by decide)
  rw [if_neg hd] at hq
  by_cases ht : tu = (n : Int) - 1
  · rw [if_pos ht] at hq; exact absurd hq (by decide)
  rw [if_neg ht] at hq
  by_cases he : 100 ≤ now - wh
  · rw [if_pos he] at hq; exact absurd hq (by decide)
  exact ⟨h0, by omega, by omega, hT, hc, hd, ht, by omega⟩

theorem show_done {w w3 : World} {A : Option Addr} {N n c : Nat} {ps : List (Int × Int)} {a0 a1 v0 v1 v2 v3 v4 : Value} {cl tu wh : Int} {ch : Bool} (hB : Below w.heap.size w w3) (hp : PSl w3 w3.heap.size A n ps) (hf : Far N A) (hN : w.heap.size + 1 + 1 ≤ N) :
    Below w.heap.size w (set5 ((w3.setCell ⟨w.heap.size, 0, none⟩ a0).setCell ⟨w.heap.size, 4, none⟩ a1) (w.heap.size + 1) v0 v1 v2 v3 v4) ∧
      ∃ A' c', Ending.returned (.tuple #[chV A n c cl tu wh ch, .nilIface]) = Ending.returned (.tuple #[chV A' n c' cl tu wh ch, .nilIface]) ∧
        PSl (set5 ((w3.setCell ⟨w.heap.size, 0, none⟩ a0).setCell ⟨w.heap.size, 4, none⟩ a1) (w.heap.size + 1) v0 v1 v2 v3 v4)
          (set5 ((w3.setCell ⟨w.heap.size, 0, none⟩ a0).setCell ⟨w.heap.size, 4, none⟩ a1) (w.heap.size + 1) v0 v1 v2 v3 v4).heap.size A' n ps ∧ Far w.heap.size A' := by
  refine ⟨set5_below (Nat.le_succ _) ?_, A, c, rfl, ?_, hf.mono (by omega)⟩
  · iterate 2 refine Below.setCell ?_ (by exact Nat.le_refl _) _
    exact hB
  · have e : ∀ (u : World) (p : Addr) (v : Value), (u.setCell p v).heap.size = u.heap.size := by intro u p v; simp [World.setCell]
    rw [set5_size]
    refine PSl.set5 ?_ hf (by omega)
    simp only [e]
    iterate 2 refine PSl.setC ?_ hf (by simp; omega) _
    exact hp

set_option maxHeartbeats 8000000 in
set_option maxRecDepth 100000 in
theorem show_ok (ps : List (Int × Int)) (A : Option Addr) (n c : Nat) (cl tu wh : Int) (ch : Bool) (who now : Int) (w : World) (hp : PSl w w.heap.size A n ps)
    (h0 : checkQ n ps cl tu wh ch = 0) (hw : who = 0 ∨ who = 1) (hn : wh ≤ now) (hT : TimeIn now) (hc : cl ≠ 0) (hd : cl ≠ who + 1) (ht : tu ≠ (n : Int) - 1) (he : now - wh < 100) :
    Calls Tryd.prog 16 #[chV A n c cl tu wh ch, .int .i64 who, .int .i64 now] w (fun e w' => Below w.heap.size w w' ∧ ∃ A' c', e = .returned (.tuple #[chV A' n c' cl tu wh true, .nilIface]) ∧ PSl w' w'.heap.size A' n ps ∧ Far w.heap.size A') := by
  have H0 := aside h0
  have HT := aside hT
  have HK := aside (checkQ_ok h0)
  have HN := aside (turnsQ_ok HK.out.1)
  have HC := aside (And.intro hc (And.intro hd (And.intro ht (And.intro hn he))))
  clear h0 hT hc hd ht hn he
  simp only [chV]
  go_enter Tryd.func16, Tryd.ntmps16
  go_wp2_with fail
  refine (check_any ps _ _ c cl tu wh ch _ (((hp.alloc (Nat.le_refl _) _).more (B' := (w.alloc _).heap.size) (by simp)).alloc (Nat.le_refl _) _ |>.more (by simp))).mono ?_
  rintro e w1 ⟨rfl, hb⟩
  have hB : Below w.heap.size w w1 := (((Below.refl _ _).alloc (Nat.le_refl _) _).alloc (by simp) _).trans (hb.mono (by simp; omega))
  have hz := hb.size
  have d0 := hb.cell (p := ⟨w.heap.size, 0, none⟩) (by simp; omega)
  have d1 := hb.cell (p := ⟨w.heap.size, 1, none⟩) (by simp; omega)
  have d2 := hb.cell (p := ⟨w.heap.size, 2, none⟩) (by simp; omega)
  have d3 := hb.cell (p := ⟨w.heap.size, 3, none⟩) (by simp; omega)
  have d4 := hb.cell (p := ⟨w.heap.size, 4, none⟩) (by simp; omega)
  have r0 := hb.cell (p := ⟨w.heap.size + 1, 0, none⟩) (by simp)
  have r1 := hb.cell (p := ⟨w.heap.size + 1, 1, none⟩) (by simp)
  have r2 := hb.cell (p := ⟨w.heap.size + 1, 2, none⟩) (by simp)
  have r3 := hb.cell (p := ⟨w.heap.size + 1, 3, none⟩) (by simp)
  have r4 := hb.cell (p := ⟨w.heap.size + 1, 4, none⟩) (by simp)
  have f0 := fun o => hb.frozen (p := ⟨w.heap.size, o, none⟩) (by simp; omega)
  have f1 := fun o => hb.frozen (p := ⟨w.heap.size + 1, o, none⟩) (by simp)
  simp [go_sem, World.cell?_alloc_past, World.frozen?_alloc_past] at d0 d1 d2 d3 d4 r0 r1 r2 r3 r4 f0 f1 hz
  have k0 : w.heap.size < w1.heap.size := by omega
  have k1 : w.heap.size + 1 < w1.heap.size := by omega
  have HB := aside hB
  have HP := aside ((Sl.below hp hB).more hB.size)
  clear hb hp hB
  rw [H0.out, errV_0]
  have b0 : (cl == 0) = false := by simpa using HC.out.1
  have b1 : (cl == who + 1) = false := by simpa using HC.out.2.1
  have b2 : (tu == (n : Int) - 1) = false := by simpa using HC.out.2.2.1
  have w1' : wrap64 ((n : Int) - 1) = (n : Int) - 1 := by have := HN.out; unfold wrap64; omega
  have ws : wrap64 (now - wh) = now - wh := by have := HK.out; have hT := HT.out; unfold wrap64; unfold TimeIn at hT; omega
  have hn : wh ≤ now := HC.out.2.2.2.1
  have he : now - wh < 100 := HC.out.2.2.2.2
  have hq : who = 0 ∧ (cl == 1) = false ∨ who = 1 ∧ (cl == 2) = false := by
    rcases hw with rfl | rfl
    · exact .inl ⟨rfl, b1⟩
    · exact .inr ⟨rfl, b1⟩
  clear b1 hw
  rcases hq with ⟨rfl, b1⟩ | ⟨rfl, b1⟩
  all_goals go_wp2_with (first | (go_at_call 23; refine (time_ok _ HT.out _).mono ?_; rintro e w' ⟨rfl, rfl⟩) | fail)
  all_goals refine (clone_any ps A n c _ HP.out HN.out.1 HN.out.2.1).mono ?_
  all_goals rintro e w2 ⟨A2, c2, rfl, hown, hb2⟩
  all_goals have t0 := (hb2.cell (p := ⟨w.heap.size, 0, none⟩) k0).trans d0
  all_goals have t1 := (hb2.cell (p := ⟨w.heap.size, 1, none⟩) k0).trans d1
  all_goals have t2 := (hb2.cell (p := ⟨w.heap.size, 2, none⟩) k0).trans d2
  all_goals have t3 := (hb2.cell (p := ⟨w.heap.size, 3, none⟩) k0).trans d3
  all_goals have t4 := (hb2.cell (p := ⟨w.heap.size, 4, none⟩) k0).trans d4
  all_goals have s0 := (hb2.cell (p := ⟨w.heap.size + 1, 0, none⟩) k1).trans r0
  all_goals have s1 := (hb2.cell (p := ⟨w.heap.size + 1, 1, none⟩) k1).trans r1
  all_goals have s2 := (hb2.cell (p := ⟨w.heap.size + 1, 2, none⟩) k1).trans r2
  all_goals have s3 := (hb2.cell (p := ⟨w.heap.size + 1, 3, none⟩) k1).trans r3
  all_goals have s4 := (hb2.cell (p := ⟨w.heap.size + 1, 4, none⟩) k1).trans r4
  all_goals have g0 := fun o => (hb2.frozen (p := ⟨w.heap.size, o, none⟩) k0).trans (f0 o)
  all_goals have g1 := fun o => (hb2.frozen (p := ⟨w.heap.size + 1, o, none⟩) k1).trans (f1 o)
  all_goals have z2 := hb2.size
  all_goals have l0 := Nat.lt_of_lt_of_le k0 z2
  all_goals have l1 := Nat.lt_of_lt_of_le k1 z2
  all_goals have HB2 := aside (HB.out.trans (hb2.mono (Nat.le_of_lt k0)))
  all_goals have HO := aside (PSl.ownR hown)
  all_goals clear hown hb2 HB d0 d1 d2 d3 d4 r0 r1 r2 r3 r4 f0 f1
  all_goals go_wp2
  all_goals refine bodyPost_ret (v := .tuple #[chV A2 n c2 cl tu wh true, .nilIface]) (by simp only [results, Tryd.results16, chV]; go_simp) rfl ?_
  all_goals exact show_done HB2.out HO.out.1 HO.out.2 hz

/-- lane.Show, at every channel. -/
theorem show_any (ps : List (Int × Int)) (A : Option Addr) (n c : Nat) (cl tu wh : Int) (ch : Bool) (who now : Int) (w : World) (hp : PSl w w.heap.size A n ps) :
    Calls Tryd.prog 16 #[chV A n c cl tu wh ch, .int .i64 who, .int .i64 now] w (PostCh (showQ n ps cl tu wh ch who now) n ps cl tu wh true w) := by
  by_cases hq : showQ n ps cl tu wh ch who now = 0
  · obtain ⟨h0, hw, hn, hT, hc, hd, ht, he⟩ := showQ_ok hq
    exact (show_ok ps A n c cl tu wh ch who now w hp h0 hw hn hT hc hd ht he).mono fun e w' h => ⟨h.1, .inl ⟨hq, h.2⟩⟩
  · exact (show_err ps A n c cl tu wh ch who now w hp hq).mono fun e w' h => ⟨h.1, .inr ⟨hq, h.2⟩⟩
end Go.Proofs.YtpkclbemgmaahaaDoor
