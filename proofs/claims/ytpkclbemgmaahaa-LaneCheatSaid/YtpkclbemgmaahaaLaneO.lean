/- LaneCheat: who tells an old turn loses all. No condition. -/
import Derived.Test.YtpkclbemgmaahaaLaneG
import Derived.Test.YtpkclbemgmaahaaLaneC1
import Derived.Test.YtpkclbemgmaahaaLaneC2
import Derived.Test.YtpkclbemgmaahaaLaneC3
import Derived.Deep.QuietTactic
import Derived.BigQuiet
namespace Go.Proofs.Ytpkclbemgmaahaa
open Go.RowKit Go.ChangeShapes Go.WideShapes Go.ChangeAt

theorem check_closed {s : Int} {n : Nat} {ps : List (Int × Int)} {who turn now : Int} (h : Chan s n ps) (hw : who = 0 ∨ who = 1) (h0 : 0 ≤ turn) (h1 : turn < (n : Int)) (hT : TimeIn now) : checkQ n ps (who + 1) turn now false = 0 := by
  have ht := (checkQ_ok h.2.1).1
  unfold TimeIn at hT
  unfold checkQ
  rw [if_neg (by simp [ht]), if_neg (by omega), if_neg (by simp; omega)]
theorem ends_closed {s : Int} {n : Nat} {ps : List (Int × Int)} {who turn now : Int} (h : Chan s n ps) (hw : who = 0 ∨ who = 1) (h0 : 0 ≤ turn) (h1 : turn < (n : Int)) (hT : TimeIn now) (hM : now + 100 ≤ 1073741824) : endsQ n ps (who + 1) turn now false (now + 100) = 0 := by
  unfold endsQ
  have hT' : TimeIn (now + 100) := by unfold TimeIn at *; omega
  rw [if_neg (by simp [check_closed h hw h0 h1 hT]), if_neg (by omega), if_neg (by simpa using hT'), if_neg (by omega), if_neg (by omega)]
theorem Chan.at_ {s : Int} {n : Nat} {ps : List (Int × Int)} (h : Chan s n ps) {k : Nat} (hk : k < n) : MoneyIn (ps.getD k (0, 0)).1 ∧ MoneyIn (ps.getD k (0, 0)).2 ∧ (ps.getD k (0, 0)).1 + (ps.getD k (0, 0)).2 = s := by
  have hl := h.1
  exact h.all.2.2 _ (by rw [List.getD_eq_getElem?_getD, List.getElem?_eq_getElem (by omega), Option.getD_some]; exact List.getElem_mem _)

/-- Who told a turn cannot show it. -/
theorem show_own (ps : List (Int × Int)) (A : Option Addr) (n c : Nat) (cl tu wh : Int) (ch : Bool) (who now : Int) (w : World) (hp : PSl w w.heap.size A n ps) (ht : cl = who + 1) :
    Calls Try.prog 13 #[.agg #[.slice A n c, .int .i64 cl, .int .i64 tu, .int .i64 wh, .bool ch], .int .i64 who, .int .i64 now] w
      (fun e w' => Below w.heap.size w w' ∧ ∃ q, e = .returned (.tuple #[.agg #[.slice none 0 0, .int .i64 0, .int .i64 0, .int .i64 0, .bool false], .iface 45 (.int .i64 q)])) := by
  refine (show_any ps A n c cl tu wh ch who now w hp).mono ?_
  rintro e w' ⟨hb, ⟨hq, _⟩ | ⟨hq, rfl⟩⟩
  · exact absurd ht (showQ_ok hq).2.2.2.2.2.1
  · exact ⟨hb, _, by rw [errV_ne hq]; rfl⟩
theorem show_dec {s : Int} {n : Nat} {ps : List (Int × Int)} {who turn now later : Int} (h : Chan s n ps) (hw : who = 0 ∨ who = 1) (h0 : 0 ≤ turn) (h1 : turn < (n : Int)) (hT : TimeIn now) (hne : turn ≠ (n : Int) - 1) (hl : now ≤ later) (hM : later ≤ 1073741824) :
    (later - now < 100 → showQ n ps (who + 1) turn now false (1 - who) later = 0) ∧ (100 ≤ later - now → showQ n ps (who + 1) turn now false (1 - who) later ≠ 0) := by
  have hT' : TimeIn later := by unfold TimeIn at *; omega
  have e : showQ n ps (who + 1) turn now false (1 - who) later = if 100 ≤ later - now then 8 else 0 := by
    unfold showQ
    rw [if_neg (by simp [check_closed h hw h0 h1 hT]), if_neg (by omega), if_neg (by omega), if_neg (by simpa using hT'), if_neg (by omega), if_neg (by omega), if_neg hne]
  rw [e]
  refine ⟨fun k => if_neg (by omega), fun k => ?_⟩
  rw [if_pos k]
  decide
theorem ends_cheat {s : Int} {n : Nat} {ps : List (Int × Int)} {who turn now later : Int} (h : Chan s n ps) (hw : who = 0 ∨ who = 1) (h0 : 0 ≤ turn) (h1 : turn < (n : Int)) (hT : TimeIn now) (hne : turn ≠ (n : Int) - 1) (hl : now ≤ later) (hM : later ≤ 1073741824) :
    endsQ n ps (who + 1) turn now true later = 0 := by
  have hT' : TimeIn later := by unfold TimeIn at *; omega
  have ht := (checkQ_ok h.2.1).1
  have hc : checkQ n ps (who + 1) turn now true = 0 := by
    unfold TimeIn at hT
    unfold checkQ
    rw [if_neg (by simp [ht]), if_neg (by omega), if_neg (by simp; omega)]
  unfold endsQ
  rw [if_neg (by simp [hc]), if_neg (by omega), if_neg (by simpa using hT'), if_neg (by omega), if_neg (by simp)]
theorem endsD_cheat {s : Int} {n : Nat} {ps : List (Int × Int)} {cl turn : Int} (h : Chan s n ps) (h0 : 0 ≤ turn) (h1 : turn < (n : Int)) : endsD ps cl turn true = if cl = 1 then (0, s) else (s, 0) := by
  obtain ⟨t, rfl⟩ : ∃ t : Nat, turn = (t : Int) := ⟨turn.toNat, by omega⟩
  have := (h.at_ (k := t) (by omega)).2.2
  simp only [endsD, turnAt, Int.toNat_natCast, if_true, this]
/-- A channel from a function, told. -/
theorem ch_told {q : Int} {n : Nat} {ps : List (Int × Int)} {cl tu wh : Int} {ch : Bool} {w w' : World} {e : Ending} (h : PostCh q n ps cl tu wh ch w e w') (hq : q = 0) :
    Below w.heap.size w w' ∧ ∃ A' c', e = .returned (.tuple #[chV A' n c' cl tu wh ch, .nilIface]) ∧ PSl w' w'.heap.size A' n ps := by
  rcases h with ⟨hb, ⟨_, A', c', h1, h2, _⟩ | ⟨h1, _⟩⟩
  · exact ⟨hb, A', c', h1, h2⟩
  · exact absurd hq h1

set_option maxHeartbeats 16000000 in
set_option maxRecDepth 100000 in
theorem cheat_any (a b who turn now later : Int) (zs ys : List Int) (A1 A2 : Option Addr) (n1 n2 p1 p2 : Nat) (w : World)
    (hz : ISl w w.heap.size A1 n1 zs) (hy : ISl w w.heap.size A2 n2 ys) :
    Calls Try.prog 6 #[.int .i64 a, .int .i64 b, .slice A1 n1 p1, .slice A2 n2 p2, .int .i64 who, .int .i64 turn, .int .i64 now, .int .i64 later] w (LawPost w) := by
  go_enter Try.func6, Try.ntmps6
  go_wp2_with fail
  refine (laned_any _).mono ?_
  rintro e wl ⟨rfl, hbl⟩
  have hzl := hbl.size
  by_cases h40 : 60 < n1
  · have h40' : (60 : Int) < (n1 : Int) := by omega
    go_wp2
    go_ret
    exact ⟨rfl, hbl⟩
  have h40' : ((60 : Int) < (n1 : Int)) = False := by simp only [eq_iff_iff, iff_false]; omega
  go_wp2_with fail
  refine (laid_any a b zs ys A1 A2 n1 n2 p1 p2 _ ((Sl.below hz hbl).more hzl) ((Sl.below hy hbl).more hzl) (by omega)).mono ?_
  rintro e w1 ⟨hbN, hr⟩
  have hB1 : Below w.heap.size w w1 := hbl.trans (hbN.mono hzl)
  have hzN := hbN.size
  rcases hr with ⟨hq, A0, n0, c0, qs, rfl, hp0, hf0, hC⟩ | ⟨hq, rfl⟩
  rotate_left
  · clear hq
    have HB := aside hB1
    simp only [chV]
    clear hbN hB1 hbl
    go_wp2
    go_ret
    exact ⟨rfl, HB.out.alloc HB.out.size _⟩
  have HCh := aside (chan_new hq)
  clear hq
  have HP0 := aside hp0
  have HC := aside hC
  have HB1 := aside hB1
  clear hbN hp0 hf0 hbl hC hz hy
  simp only [chV]
  have hn50 : 1 ≤ n0 ∧ n0 ≤ 50 := ⟨HC.out.all.1, HC.out.all.2.1⟩
  have ws1 : wrap64 ((n0 : Int) - 1) = (n0 : Int) - 1 := by unfold wrap64; omega
  go_wp2_with fail
  refine (close_any qs A0 n0 c0 0 0 0 false who turn now _ ((HP0.out.alloc (Nat.le_refl _) _).more (by simp))).mono ?_
  rintro e w3 ⟨hb3, ⟨hq3, A3, c3, rfl, hp3, hf3⟩ | ⟨hq3, rfl⟩⟩
  rotate_left
  · rw [errV_ne hq3]
    simp only [chV]
    have HB3 := aside (HB1.out.trans (((Below.refl _ _).alloc HB1.out.size _).trans (hb3.mono (by have := HB1.out.size; simp; omega))))
    clear hb3 hq3 hB1
    go_wp2
    go_ret
    exact ⟨rfl, HB3.out.alloc HB3.out.size _⟩
  obtain ⟨-, hw, ht0, ht1, hT, -⟩ := closeQ_ok hq3
  have z3' := hb3.size
  have z3 := z3'
  simp only [World.size_alloc] at z3
  have HB3 := aside (HB1.out.trans (((Below.refl _ _).alloc HB1.out.size _).trans (hb3.mono (by have := HB1.out.size; simp; omega))))
  have HP3 := aside hp3
  have HPC := aside ((Sl.below ((Sl.alloc HP0.out (Nat.le_refl _) (.cells #[.slice A0 n0 c0, .int .i64 0, .int .i64 0, .int .i64 0, .bool false] 26)).more (B' := (w1.alloc (.cells #[.slice A0 n0 c0, .int .i64 0, .int .i64 0, .int .i64 0, .bool false] 26)).heap.size) (by simp)) hb3).more z3')
  have l3 : w1.heap.size < w3.heap.size := by omega
  have e0 := ((chAt_alloc (A := A0) (n := n0) (c := c0) (cl := 0) (tu := 0) (wh := 0) (ch := false) w1).below hb3 (by simp)).c0
  simp only [chV]
  clear hb3 hq3 hp3 hf3 hB1 z3'
  by_cases hA : turn = (n0 : Int) - 1
  · have b2 : (turn == (n0 : Int) - 1) = true := by simpa using hA
    clear hA hT
    go_wp2
    go_ret
    exact ⟨rfl, HB3.out.alloc HB3.out.size _⟩
  have b2 : (turn == (n0 : Int) - 1) = false := by simpa using hA
  by_cases hL : later < now
  · clear hA hT
    go_wp2
    go_ret
    exact ⟨rfl, HB3.out.alloc HB3.out.size _⟩
  have hL' : now ≤ later := by omega
  by_cases hM : 1073741824 < later
  · clear hA hT hL
    go_wp2
    go_ret
    exact ⟨rfl, HB3.out.alloc HB3.out.size _⟩
  have hM' : later ≤ 1073741824 := by omega
  have HS := aside (show_dec HC.out hw ht0 ht1 hT hA hL' hM')
  have HE := aside (ends_cheat HC.out hw ht0 ht1 hT hA hL' hM')
  have HED := aside (endsD_cheat (cl := who + 1) HC.out ht0 ht1)
  have ws : wrap64 (later - now) = later - now := by unfold TimeIn at hT; unfold wrap64; omega
  clear hA hL hM hT
  rcases hw with rfl | rfl
  · have hD : (0 : Int) + 1 = 1 := rfl
    have hown : (0 : Int) + 1 = 1 := rfl
    go_wp2_with fail
    refine (show_own qs A3 n0 c3 1 turn now false 0 later _ ((HP3.out.alloc (Nat.le_refl _) _).more (by simp)) rfl).mono ?_
    rintro e w4 ⟨hb4, q4, rfl⟩
    have z4' := hb4.size
    have z4 := z4'
    simp only [World.size_alloc] at z4
    have DA := (chAt_alloc (A := A3) (n := n0) (c := c3) (cl := 1) (tu := turn) (wh := now) (ch := false) w3).below hb4 (by simp)
    obtain ⟨d0, d1, d2, d3, d4, df⟩ := DA
    have q0 := (hb4.cell (p := ⟨w1.heap.size, 0, none⟩) (by simp; omega)).trans ((World.cell?_alloc_lt _ _ ⟨w1.heap.size, 0, none⟩ l3).trans e0)
    have HB4 := aside (HB3.out.trans (((Below.refl _ _).alloc HB3.out.size _).trans (hb4.mono (by have := HB3.out.size; simp; omega))))
    have HP4 := aside ((Sl.below ((Sl.alloc HP3.out (Nat.le_refl _) (.cells #[.slice A3 n0 c3, .int .i64 1, .int .i64 turn, .int .i64 now, .bool false] 26)).more (B' := (w3.alloc (.cells #[.slice A3 n0 c3, .int .i64 1, .int .i64 turn, .int .i64 now, .bool false] 26)).heap.size) (by simp)) hb4).more z4')
    have HC4 := aside ((Sl.below ((Sl.alloc HPC.out (Nat.le_refl _) (.cells #[.slice A3 n0 c3, .int .i64 1, .int .i64 turn, .int .i64 now, .bool false] 26)).more (B' := (w3.alloc (.cells #[.slice A3 n0 c3, .int .i64 1, .int .i64 turn, .int .i64 now, .bool false] 26)).heap.size) (by simp)) hb4).more z4')
    have k4 : w3.heap.size < w4.heap.size := by omega
    have l4 : w1.heap.size < w4.heap.size := by omega
    clear hb4 z4' e0
    go_wp2_with fail
    refine (show_any qs A3 n0 c3 1 turn now false 1 later _ ((HP4.out.alloc (Nat.le_refl _) _).more (by simp))).mono ?_
    intro e w5 h5
    by_cases hlt : later - now < 100
    · obtain ⟨hb5, A5, c5, rfl, hp5⟩ := ch_told h5 (HS.out.1 hlt)
      have z5' := hb5.size
      have z5 := z5'
      simp only [World.size_alloc] at z5
      have l5 : w1.heap.size < w5.heap.size := by omega
      have u0 := (hb5.cell (p := ⟨w1.heap.size, 0, none⟩) (by simp; omega)).trans ((World.cell?_alloc_lt _ _ ⟨w1.heap.size, 0, none⟩ l4).trans q0)
      have HB5 := aside (HB4.out.trans (((Below.refl _ _).alloc HB4.out.size _).trans (hb5.mono (by have := HB4.out.size; simp; omega))))
      have HC5 := aside ((Sl.below ((Sl.alloc HC4.out (Nat.le_refl _) (.cells #[.slice none 0 0, .int .i64 0, .int .i64 0, .int .i64 0, .bool false] 26)).more (B' := (w4.alloc (.cells #[.slice none 0 0, .int .i64 0, .int .i64 0, .int .i64 0, .bool false] 26)).heap.size) (by simp)) hb5).more z5')
      have HP5 := aside hp5
      simp only [chV]
      clear hb5 z5' q0 d0 d1 d2 d3 d4 df hp5 h5
      go_wp2_with fail
      refine (ends_any qs A5 n0 c5 1 turn now true later _ ((HP5.out.alloc (Nat.le_refl _) _).more (by simp))).mono ?_
      rintro e w6 ⟨hb6, ⟨-, rfl⟩ | ⟨hq6, -⟩⟩
      rotate_left
      · exact absurd HE.out hq6
      rw [show endsD qs 1 turn true = (0, a + b) from (show endsD qs 1 turn true = _ from HED.out).trans (if_pos rfl)]
      simp only []
      have z6' := hb6.size
      have z6 := z6'
      simp only [World.size_alloc] at z6
      have l6 : w1.heap.size < w6.heap.size := by omega
      have t0 := (hb6.cell (p := ⟨w1.heap.size, 0, none⟩) (by simp; omega)).trans ((World.cell?_alloc_lt _ _ ⟨w1.heap.size, 0, none⟩ l5).trans u0)
      have HB6 := aside (HB5.out.trans (((Below.refl _ _).alloc HB5.out.size _).trans (hb6.mono (by have := HB5.out.size; simp; omega))))
      have HC6 := aside ((Sl.below ((Sl.alloc HC5.out (Nat.le_refl _) (.cells #[.slice A5 n0 c5, .int .i64 1, .int .i64 turn, .int .i64 now, .bool true] 26)).more (B' := (w5.alloc (.cells #[.slice A5 n0 c5, .int .i64 1, .int .i64 turn, .int .i64 now, .bool true] 26)).heap.size) (by simp)) hb6).more z6')
      clear hb6 z6' u0
      obtain ⟨V, hV⟩ : ∃ V, V = w6.alloc (.cells #[.int .i64 0, .int .i64 (a + b)] 32) := ⟨_, rfl⟩
      have s0 : V.cell? ⟨w6.heap.size, 0, none⟩ = some (.int .i64 (0)) := by rw [hV]; exact World.cell?_alloc_at _ _ _ _ rfl
      have s1 : V.cell? ⟨w6.heap.size, 1, none⟩ = some (.int .i64 (a + b)) := by rw [hV]; exact World.cell?_alloc_at _ _ _ _ rfl
      have s2 : V.cell? ⟨w1.heap.size, 0, none⟩ = some (.slice A0 n0 c0) := by rw [hV]; exact (World.cell?_alloc_lt _ _ ⟨w1.heap.size, 0, none⟩ l6).trans t0
      have sz : w6.heap.size < V.heap.size := by rw [hV]; simp
      have HBV := aside (show Below w.heap.size w V by rw [hV]; exact HB6.out.alloc HB6.out.size _)
      have HCV := aside (show PSl V V.heap.size A0 n0 qs by rw [hV]; exact (Sl.alloc HC6.out (Nat.le_refl _) _).more (by simp))
      have g3 : wrap64 (a + b) = a + b := by have := HCh.out.2; unfold MoneyIn at this; unfold wrap64; omega
      go_wp2_with fail
      rw [← hV]
      clear hV t0
      go_loopw [28] (fun v28 wr => ∃ (k : Nat), k ≤ n0 ∧ v28 = .int .i64 k ∧ Below V.heap.size V wr) (fun v28 _ => n0 - (intOf v28).toNat)
      case atStart => exact ⟨0, Nat.zero_le _, rfl, Below.refl _ _⟩
      case round =>
        obtain ⟨k, hk, rfl, hb⟩ := hrel
        have hbz := hb.size
        have r0 := (hb.cell (p := ⟨w6.heap.size, 0, none⟩) sz).trans s0
        have r1 := (hb.cell (p := ⟨w6.heap.size, 1, none⟩) sz).trans s1
        have r2 := (hb.cell (p := ⟨w1.heap.size, 0, none⟩) (by show w1.heap.size < V.heap.size; omega)).trans s2
        have lw1 : w1.heap.size < wr.heap.size := by omega
        have lw6 : w6.heap.size < wr.heap.size := by omega
        by_cases k1 : k < n0
        · obtain ⟨b3, o3, rfl, lt3, x0, x1⟩ := PSl.at_ HCV.out k1
          have hmem := HC.out.at_ k1
          generalize qs.getD k (0, 0) = p at x0 x1 hmem
          obtain ⟨x, y⟩ := p
          simp only [] at x0 x1 hmem
          have y0 := (hb.cell (p := ⟨b3, o3 + k * 2, none⟩) lt3).trans x0
          have y1 := (hb.cell (p := ⟨b3, o3 + k * 2 + 1, none⟩) lt3).trans x1
          have g0 : (a + b < y) = False := by unfold MoneyIn at hmem; simp only [eq_iff_iff, iff_false]; omega
          have i1 : (k : Int) < (n0 : Int) := by omega
          have i4 : (0 : Int) ≤ (k : Int) := by omega
          have l7 : b3 < wr.heap.size := by omega
          clear x0 x1 hmem s0 s1 s2
          go_wp2_with fail
          go_quiet (fail)
          go_wp2
          exact ⟨⟨k + 1, by omega, rfl, ⟨hb.os, hb.tape, hb.output, hb.size, hb.block⟩⟩, by simp [intOf]; omega⟩
        · have i1 : ((k : Int) < (n0 : Int)) = False := by simp only [eq_iff_iff, iff_false]; omega
          have HBW := aside (HBV.out.trans (hb.mono HBV.out.size))
          clear hb s0 s1 s2
          go_wp2
          go_ret
          exact ⟨rfl, HBW.out⟩
    · have hlt' : 100 ≤ later - now := by omega
      rcases h5 with ⟨hb5, ⟨hq5, -⟩ | ⟨hq5, rfl⟩⟩
      · exact absurd hq5 (HS.out.2 hlt')
      have HB5 := aside (HB4.out.trans (((Below.refl _ _).alloc HB4.out.size _).trans (hb5.mono (by have := HB4.out.size; simp; omega))))
      rw [errV_ne hq5]
      simp only [chV]
      clear hb5 hq5 hlt q0 d0 d1 d2 d3 d4 df
      go_wp2
      go_ret
      exact ⟨rfl, HB5.out.alloc HB5.out.size _⟩
  · have hD : (0 : Int) + 1 = 1 := rfl
    have hown : (1 : Int) + 1 = 2 := rfl
    go_wp2_with fail
    refine (show_own qs A3 n0 c3 2 turn now false 1 later _ ((HP3.out.alloc (Nat.le_refl _) _).more (by simp)) rfl).mono ?_
    rintro e w4 ⟨hb4, q4, rfl⟩
    have z4' := hb4.size
    have z4 := z4'
    simp only [World.size_alloc] at z4
    have DA := (chAt_alloc (A := A3) (n := n0) (c := c3) (cl := 2) (tu := turn) (wh := now) (ch := false) w3).below hb4 (by simp)
    obtain ⟨d0, d1, d2, d3, d4, df⟩ := DA
    have q0 := (hb4.cell (p := ⟨w1.heap.size, 0, none⟩) (by simp; omega)).trans ((World.cell?_alloc_lt _ _ ⟨w1.heap.size, 0, none⟩ l3).trans e0)
    have HB4 := aside (HB3.out.trans (((Below.refl _ _).alloc HB3.out.size _).trans (hb4.mono (by have := HB3.out.size; simp; omega))))
    have HP4 := aside ((Sl.below ((Sl.alloc HP3.out (Nat.le_refl _) (.cells #[.slice A3 n0 c3, .int .i64 2, .int .i64 turn, .int .i64 now, .bool false] 26)).more (B' := (w3.alloc (.cells #[.slice A3 n0 c3, .int .i64 2, .int .i64 turn, .int .i64 now, .bool false] 26)).heap.size) (by simp)) hb4).more z4')
    have HC4 := aside ((Sl.below ((Sl.alloc HPC.out (Nat.le_refl _) (.cells #[.slice A3 n0 c3, .int .i64 2, .int .i64 turn, .int .i64 now, .bool false] 26)).more (B' := (w3.alloc (.cells #[.slice A3 n0 c3, .int .i64 2, .int .i64 turn, .int .i64 now, .bool false] 26)).heap.size) (by simp)) hb4).more z4')
    have k4 : w3.heap.size < w4.heap.size := by omega
    have l4 : w1.heap.size < w4.heap.size := by omega
    clear hb4 z4' e0
    go_wp2_with fail
    refine (show_any qs A3 n0 c3 2 turn now false 0 later _ ((HP4.out.alloc (Nat.le_refl _) _).more (by simp))).mono ?_
    intro e w5 h5
    by_cases hlt : later - now < 100
    · obtain ⟨hb5, A5, c5, rfl, hp5⟩ := ch_told h5 (HS.out.1 hlt)
      have z5' := hb5.size
      have z5 := z5'
      simp only [World.size_alloc] at z5
      have l5 : w1.heap.size < w5.heap.size := by omega
      have u0 := (hb5.cell (p := ⟨w1.heap.size, 0, none⟩) (by simp; omega)).trans ((World.cell?_alloc_lt _ _ ⟨w1.heap.size, 0, none⟩ l4).trans q0)
      have HB5 := aside (HB4.out.trans (((Below.refl _ _).alloc HB4.out.size _).trans (hb5.mono (by have := HB4.out.size; simp; omega))))
      have HC5 := aside ((Sl.below ((Sl.alloc HC4.out (Nat.le_refl _) (.cells #[.slice none 0 0, .int .i64 0, .int .i64 0, .int .i64 0, .bool false] 26)).more (B' := (w4.alloc (.cells #[.slice none 0 0, .int .i64 0, .int .i64 0, .int .i64 0, .bool false] 26)).heap.size) (by simp)) hb5).more z5')
      have HP5 := aside hp5
      simp only [chV]
      clear hb5 z5' q0 d0 d1 d2 d3 d4 df hp5 h5
      go_wp2_with fail
      refine (ends_any qs A5 n0 c5 2 turn now true later _ ((HP5.out.alloc (Nat.le_refl _) _).more (by simp))).mono ?_
      rintro e w6 ⟨hb6, ⟨-, rfl⟩ | ⟨hq6, -⟩⟩
      rotate_left
      · exact absurd HE.out hq6
      rw [show endsD qs 2 turn true = (a + b, 0) from (show endsD qs 2 turn true = _ from HED.out).trans (if_neg (by decide))]
      simp only []
      have z6' := hb6.size
      have z6 := z6'
      simp only [World.size_alloc] at z6
      have l6 : w1.heap.size < w6.heap.size := by omega
      have t0 := (hb6.cell (p := ⟨w1.heap.size, 0, none⟩) (by simp; omega)).trans ((World.cell?_alloc_lt _ _ ⟨w1.heap.size, 0, none⟩ l5).trans u0)
      have HB6 := aside (HB5.out.trans (((Below.refl _ _).alloc HB5.out.size _).trans (hb6.mono (by have := HB5.out.size; simp; omega))))
      have HC6 := aside ((Sl.below ((Sl.alloc HC5.out (Nat.le_refl _) (.cells #[.slice A5 n0 c5, .int .i64 2, .int .i64 turn, .int .i64 now, .bool true] 26)).more (B' := (w5.alloc (.cells #[.slice A5 n0 c5, .int .i64 2, .int .i64 turn, .int .i64 now, .bool true] 26)).heap.size) (by simp)) hb6).more z6')
      clear hb6 z6' u0
      obtain ⟨V, hV⟩ : ∃ V, V = w6.alloc (.cells #[.int .i64 (a + b), .int .i64 0] 32) := ⟨_, rfl⟩
      have s0 : V.cell? ⟨w6.heap.size, 0, none⟩ = some (.int .i64 (a + b)) := by rw [hV]; exact World.cell?_alloc_at _ _ _ _ rfl
      have s1 : V.cell? ⟨w6.heap.size, 1, none⟩ = some (.int .i64 (0)) := by rw [hV]; exact World.cell?_alloc_at _ _ _ _ rfl
      have s2 : V.cell? ⟨w1.heap.size, 0, none⟩ = some (.slice A0 n0 c0) := by rw [hV]; exact (World.cell?_alloc_lt _ _ ⟨w1.heap.size, 0, none⟩ l6).trans t0
      have sz : w6.heap.size < V.heap.size := by rw [hV]; simp
      have HBV := aside (show Below w.heap.size w V by rw [hV]; exact HB6.out.alloc HB6.out.size _)
      have HCV := aside (show PSl V V.heap.size A0 n0 qs by rw [hV]; exact (Sl.alloc HC6.out (Nat.le_refl _) _).more (by simp))
      have g3 : wrap64 (a + b) = a + b := by have := HCh.out.2; unfold MoneyIn at this; unfold wrap64; omega
      go_wp2_with fail
      rw [← hV]
      clear hV t0
      go_loopw [28] (fun v28 wr => ∃ (k : Nat), k ≤ n0 ∧ v28 = .int .i64 k ∧ Below V.heap.size V wr) (fun v28 _ => n0 - (intOf v28).toNat)
      case atStart => exact ⟨0, Nat.zero_le _, rfl, Below.refl _ _⟩
      case round =>
        obtain ⟨k, hk, rfl, hb⟩ := hrel
        have hbz := hb.size
        have r0 := (hb.cell (p := ⟨w6.heap.size, 0, none⟩) sz).trans s0
        have r1 := (hb.cell (p := ⟨w6.heap.size, 1, none⟩) sz).trans s1
        have r2 := (hb.cell (p := ⟨w1.heap.size, 0, none⟩) (by show w1.heap.size < V.heap.size; omega)).trans s2
        have lw1 : w1.heap.size < wr.heap.size := by omega
        have lw6 : w6.heap.size < wr.heap.size := by omega
        by_cases k1 : k < n0
        · obtain ⟨b3, o3, rfl, lt3, x0, x1⟩ := PSl.at_ HCV.out k1
          have hmem := HC.out.at_ k1
          generalize qs.getD k (0, 0) = p at x0 x1 hmem
          obtain ⟨x, y⟩ := p
          simp only [] at x0 x1 hmem
          have y0 := (hb.cell (p := ⟨b3, o3 + k * 2, none⟩) lt3).trans x0
          have y1 := (hb.cell (p := ⟨b3, o3 + k * 2 + 1, none⟩) lt3).trans x1
          have g0 : (a + b < x) = False := by unfold MoneyIn at hmem; simp only [eq_iff_iff, iff_false]; omega
          have i1 : (k : Int) < (n0 : Int) := by omega
          have i4 : (0 : Int) ≤ (k : Int) := by omega
          have l7 : b3 < wr.heap.size := by omega
          clear x0 x1 hmem s0 s1 s2
          go_wp2_with fail
          go_quiet (fail)
          go_wp2
          exact ⟨⟨k + 1, by omega, rfl, ⟨hb.os, hb.tape, hb.output, hb.size, hb.block⟩⟩, by simp [intOf]; omega⟩
        · have i1 : ((k : Int) < (n0 : Int)) = False := by simp only [eq_iff_iff, iff_false]; omega
          have HBW := aside (HBV.out.trans (hb.mono HBV.out.size))
          clear hb s0 s1 s2
          go_wp2
          go_ret
          exact ⟨rfl, HBW.out⟩
    · have hlt' : 100 ≤ later - now := by omega
      rcases h5 with ⟨hb5, ⟨hq5, -⟩ | ⟨hq5, rfl⟩⟩
      · exact absurd hq5 (HS.out.2 hlt')
      have HB5 := aside (HB4.out.trans (((Below.refl _ _).alloc HB4.out.size _).trans (hb5.mono (by have := HB4.out.size; simp; omega))))
      rw [errV_ne hq5]
      simp only [chV]
      clear hb5 hq5 hlt q0 d0 d1 d2 d3 d4 df
      go_wp2
      go_ret
      exact ⟨rfl, HB5.out.alloc HB5.out.size _⟩

/-- What the law's arguments are. -/
theorem laneCheat_walk {H : Type} {enc : TypeId × Value → H} (W : World) (args : Array Value) (ds : List (DataW H)) (ps : List MemPlace)
    (h : LawPre enc Try.prog Try.f6 W args ds ps) : Calls Try.prog 6 args W (LawPost W) := by
  obtain ⟨hA, ⟨base, hval⟩, hlt, hsz⟩ := h
  rw [Try.params6] at hA hval hsz
  obtain ⟨v0, l0, d0, m0, p0, r0, ea, rfl, rfl, h0, hA⟩ := trodAll_cons hA
  obtain ⟨v1, l1, d1, m1, p1, r1, rfl, rfl, rfl, h1, hA⟩ := trodAll_cons hA
  obtain ⟨v2, l2, d2, m2, p2, r2, rfl, rfl, rfl, h2, hA⟩ := trodAll_cons hA
  obtain ⟨v3, l3, d3, m3, p3, r3, rfl, rfl, rfl, h3, hA⟩ := trodAll_cons hA
  obtain ⟨v4, l4, d4, m4, p4, r4, rfl, rfl, rfl, h4, hA⟩ := trodAll_cons hA
  obtain ⟨v5, l5, d5, m5, p5, r5, rfl, rfl, rfl, h5, hA⟩ := trodAll_cons hA
  obtain ⟨v6, l6, d6, m6, p6, r6, rfl, rfl, rfl, h6, hA⟩ := trodAll_cons hA
  obtain ⟨v7, l7, d7, m7, p7, r7, rfl, rfl, rfl, h7, hA⟩ := trodAll_cons hA
  obtain ⟨rfl, rfl, rfl⟩ := trodAll_nil hA
  obtain rfl : args = #[v0, v1, v2, v3, v4, v5, v6, v7] := by
    cases args
    simpa using ea
  obtain ⟨x0, rfl, rfl, rfl, _⟩ := open_int Try.underlying3 (hval 0 _ v0 rfl rfl) h0
  obtain ⟨x1, rfl, rfl, rfl, _⟩ := open_int Try.underlying3 (hval 1 _ v1 rfl rfl) h1
  obtain ⟨A2, n2, c2, z2, rfl, hc2, _, hs2, wz2, hx2⟩ := open_intSlice (hval 2 _ v2 rfl rfl) h2 (fun x hx => hlt x (by simp [hx]))
  obtain ⟨A3, n3, c3, z3, rfl, hc3, _, hs3, wz3, hx3⟩ := open_intSlice (hval 3 _ v3 rfl rfl) h3 (fun x hx => hlt x (by simp [hx]))
  obtain ⟨x4, rfl, rfl, rfl, _⟩ := open_int Try.underlying3 (hval 4 _ v4 rfl rfl) h4
  obtain ⟨x5, rfl, rfl, rfl, _⟩ := open_int Try.underlying3 (hval 5 _ v5 rfl rfl) h5
  obtain ⟨x6, rfl, rfl, rfl, _⟩ := open_int Try.underlying3 (hval 6 _ v6 rfl rfl) h6
  obtain ⟨x7, rfl, rfl, rfl, _⟩ := open_int Try.underlying3 (hval 7 _ v7 rfl rfl) h7
  exact cheat_any x0 x1 x4 x5 x6 x7 z2 z3 A2 A3 n2 n3 c2 c3 W hs2 hs3

set_option maxRecDepth 100000 in
theorem laneCheat_lifted (os : Os) (started : os.Started) (H : Type) (enc : TypeId × Value → H) :
    ReturnsInHanded {} Try.checked os 6 .any (Rows.laneCheatSpec.pre6 enc Try.prog Try.f6 Rows.laneCheatRow.domain false) (Rows.laneCheatSpec.post enc Try.prog Try.f6 false true false false) :=
  law_lifted (C := Try.checked) (B := 4) (n := 8) Try.own started (by kernel_rfl) Try.func6
      (ChangeSpec.witness6 (enc := enc) (C := Try.checked) false ⟨#[], #[.int .i64 0, .int .i64 0, .slice none 0 0, .slice none 0 0, .int .i64 0, .int .i64 0, .int .i64 0, .int .i64 0], []⟩ 8 (by kernel_rfl) (by kernel_rfl) (by kernel_rfl) (by kernel_rfl))
      rfl Try.underlying4 (by kernel_rfl) Try.laidOut (by kernel_rfl) (by kernel_rfl) (fun ds h => by match ds, h with | [a, b, c, d, e, f, g, h], _ => rfl) laneCheat_walk

/-- The statement. -/
theorem LaneCheat_holds : Rows.LaneCheatSaid :=
  OpenClaim.holds_of_wide 6 Try.f6 rfl rfl rfl rfl rfl rfl rfl ⟨rfl, rfl, rfl, rfl, rfl⟩ rfl rfl rfl rfl rfl (by kernel_rfl) Try.func6 (by kernel_rfl)
    (of_decide_eq_true (by kernel_rfl)) (by unfold Func.isWrapper; first | (rw [if_pos (by decide +kernel)]; kernel_rfl) | (rw [if_neg (by decide +kernel)]; exact ⟨rfl, rfl⟩))
    (fun os started H enc _ => laneCheat_lifted os started H enc)
#print axioms LaneCheat_holds
end Go.Proofs.Ytpkclbemgmaahaa
