/- moneyerref3.LaneFault: what is wrong with a channel. No condition. -/
import Derived.Test.YtpkclbemgmaahaaDoorLaneS
import Derived.Deep.QuietTactic
import Derived.BigQuiet
namespace Go.Proofs.YtpkclbemgmaahaaDoor
open Go.RowKit Go.ChangeShapes Go.WideShapes Go.ChangeAt

def PostInt (k : Int) (w : World) (e : Ending) (w' : World) : Prop := e = .returned (.int .i64 k) ∧ Below w.heap.size w w'

set_option maxRecDepth 100000 in
theorem money_ok (m : Int) (hm : MoneyIn m) (w : World) : Calls Tryd.prog 19 #[.int .i64 m] w (fun e w' => e = .returned (.bool true) ∧ w' = w) := by
  obtain ⟨h0, h1⟩ := hm
  go_enter Tryd.func19, Tryd.ntmps19
  go_wp2
  go_ret
  exact ⟨by simp [h0, h1], rfl⟩
set_option maxRecDepth 100000 in
theorem money_bad (m : Int) (hm : ¬ MoneyIn m) (w : World) : Calls Tryd.prog 19 #[.int .i64 m] w (fun e w' => e = .returned (.bool false) ∧ w' = w) := by
  have hway : m < 0 ∨ (0 ≤ m ∧ 1125899906842624 < m) := by unfold MoneyIn at hm; omega
  clear hm
  rcases hway with h | ⟨h, h'⟩
  all_goals go_enter Tryd.func19, Tryd.ntmps19
  all_goals go_wp2
  all_goals go_ret
  all_goals exact ⟨by first | rfl | (simp; omega), rfl⟩
set_option maxRecDepth 100000 in
theorem height_ok (m : Int) (hm : TimeIn m) (w : World) : Calls Tryd.prog 24 #[.int .i64 m] w (fun e w' => e = .returned (.bool true) ∧ w' = w) := by
  obtain ⟨h0, h1⟩ := hm
  go_enter Tryd.func24, Tryd.ntmps24
  go_wp2
  go_ret
  exact ⟨by simp [h0, h1], rfl⟩
set_option maxRecDepth 100000 in
theorem height_bad (m : Int) (hm : ¬ TimeIn m) (w : World) : Calls Tryd.prog 24 #[.int .i64 m] w (fun e w' => e = .returned (.bool false) ∧ w' = w) := by
  have hway : m < 0 ∨ (0 ≤ m ∧ 1073741824 < m) := by unfold TimeIn at hm; omega
  clear hm
  rcases hway with h | ⟨h, h'⟩
  all_goals go_enter Tryd.func24, Tryd.ntmps24
  all_goals go_wp2
  all_goals go_ret
  all_goals exact ⟨by first | rfl | (simp; omega), rfl⟩

set_option maxHeartbeats 8000000 in
set_option maxRecDepth 100000 in
theorem fault_len (ps : List (Int × Int)) (A : Option Addr) (n c : Nat) (cl tu wh : Int) (ch : Bool) (w : World) (hn : n < 1 ∨ 50 < n) :
    Calls Tryd.prog 9 #[.agg #[.slice A n c, .int .i64 cl, .int .i64 tu, .int .i64 wh, .bool ch]] w (PostInt (checkQ n ps cl tu wh ch) w) := by
  have ht : turnsQ n ps = 3 := by unfold turnsQ; rw [if_pos hn]
  have HQ : Hid (checkQ n ps cl tu wh ch = 3) := aside (by unfold checkQ; rw [ht, if_pos (by decide)])
  clear ht
  rw [HQ.out]
  rcases hn with hn | hn
  · obtain rfl : n = 0 := by omega
    clear hn
    go_enter Tryd.func9, Tryd.ntmps9
    go_wp2
    go_ret
    exact ⟨rfl, (Below.refl _ _).alloc (Nat.le_refl _) _⟩
  · have b0 : ((n : Int) == 0) = false := by simp; omega
    have b1 : (50 : Int) < (n : Int) := by omega
    clear hn
    go_enter Tryd.func9, Tryd.ntmps9
    go_wp2
    go_ret
    exact ⟨rfl, (Below.refl _ _).alloc (Nat.le_refl _) _⟩

theorem checkQ_turns {n : Nat} {ps : List (Int × Int)} {cl tu wh : Int} {ch : Bool} (h : turnsQ n ps ≠ 0) : checkQ n ps cl tu wh ch = turnsQ n ps := by unfold checkQ; rw [if_pos h]

set_option maxHeartbeats 16000000 in
set_option maxRecDepth 100000 in
theorem fault_in (ps : List (Int × Int)) (A : Option Addr) (n c : Nat) (cl tu wh : Int) (ch : Bool) (w : World) (hp : PSl w w.heap.size A n ps) (a0 : 1 ≤ n) (a1 : n ≤ 50) :
    Calls Tryd.prog 9 #[.agg #[.slice A n c, .int .i64 cl, .int .i64 tu, .int .i64 wh, .bool ch]] w (PostInt (checkQ n ps cl tu wh ch) w) := by
  have hlen := hp.len
  have HTQ : Hid (turnsQ n ps = turnsFrom ((ps.getD 0 (0, 0)).1 + (ps.getD 0 (0, 0)).2) ps) := aside (by unfold turnsQ; rw [if_neg (by omega)])
  have b0 : ((n : Int) == 0) = false := by simp; omega
  have b1 : ((50 : Int) < (n : Int)) = False := by simp only [eq_iff_iff, iff_false]; omega
  have ws : IntKind.i64.wrap ((n : Int) - 1) = (n : Int) - 1 := by rw [IntKind.wrap_i64]; omega
  have ws' : wrap64 ((n : Int) - 1) = (n : Int) - 1 := by unfold wrap64; omega
  go_enter Tryd.func9, Tryd.ntmps9
  go_wp2_with fail
  go_loopw [3] (fun v3 wr => ∃ (k : Nat), k ≤ n ∧ v3 = .int .i64 k ∧ Below w.heap.size w wr ∧ w.heap.size < wr.heap.size ∧ ChAt wr w.heap.size A n c cl tu wh ch ∧ Hid (0 < k → MoneyIn (ps.getD 0 (0, 0)).1 ∧ MoneyIn (ps.getD 0 (0, 0)).2) ∧ Hid (turnsFrom ((ps.getD 0 (0, 0)).1 + (ps.getD 0 (0, 0)).2) ps = turnsFrom ((ps.getD 0 (0, 0)).1 + (ps.getD 0 (0, 0)).2) (ps.drop k))) (fun v3 _ => n - (intOf v3).toNat)
  case atStart => exact ⟨0, Nat.zero_le _, rfl, (Below.refl _ _).alloc (Nat.le_refl _) _, by simp, chAt_alloc _, aside (fun h => absurd h (by decide)), aside rfl⟩
  case round =>
    obtain ⟨k, hk, rfl, hb, hsz, ⟨d0, d1, d2, d3, d4, df⟩, HK, HT⟩ := hrel
    have hbz := hb.size
    by_cases k1 : k < n
    · have HD := turnsFrom_drop (s := (ps.getD 0 (0, 0)).1 + (ps.getD 0 (0, 0)).2) (ps := ps) (k := k) (by omega)
      obtain ⟨b, off, rfl, hlt, c0, c1⟩ := hp.at_ k1
      obtain ⟨b', off', hA, _, f0, f1⟩ := hp.at_ (k := 0) (by omega)
      obtain ⟨rfl, rfl⟩ : b' = b ∧ off' = off := by
        injection hA with hA
        injection hA with h1 h2
        exact ⟨h1.symm, h2.symm⟩
      clear hA
      simp only [Nat.zero_mul, Nat.add_zero] at f0 f1
      have HP : k = 0 → ps.getD k (0, 0) = ps.getD 0 (0, 0) := fun h => by rw [h]
      generalize ps.getD k (0, 0) = p at c0 c1 HD HP
      generalize ps.getD 0 (0, 0) = q at f0 f1 HD HT HK HP HTQ ⊢
      obtain ⟨x, y⟩ := p
      obtain ⟨x0, y0⟩ := q
      simp only [] at c0 c1 f0 f1 HD HT HK HTQ
      have HPa := aside HP
      clear HP
      have e0 := (hb.cell (p := ⟨b', off' + k * 2, none⟩) hlt).trans c0
      have e1 := (hb.cell (p := ⟨b', off' + k * 2 + 1, none⟩) hlt).trans c1
      have g0 := (hb.cell (p := ⟨b', off', none⟩) hlt).trans f0
      have g1 := (hb.cell (p := ⟨b', off' + 1, none⟩) hlt).trans f1
      have l0 : b' < wr.heap.size := by omega
      clear c0 c1 f0 f1
      have i1 : (k : Int) < (n : Int) := by omega
      have i4 : (0 : Int) ≤ (k : Int) := by omega
      have HE := aside HD
      clear HD
      by_cases m0 : MoneyIn x
      · have HM0 := aside m0
        obtain ⟨ma, mb⟩ := m0
        by_cases m1 : MoneyIn y
        · have HM1 := aside m1
          obtain ⟨mc, md⟩ := m1
          have hq : MoneyIn x0 ∧ MoneyIn y0 := by
            by_cases h0 : 0 < k
            · exact HK.out h0
            · have := HPa.out (by omega)
              injection this with h1 h2
              subst h1 h2
              exact ⟨HM0.out, HM1.out⟩
          have HQ := aside hq
          obtain ⟨⟨me, mf⟩, mg, mh⟩ := hq
          have ws1 : wrap64 (x + y) = x + y := by unfold wrap64; omega
          have ws2 : wrap64 (x0 + y0) = x0 + y0 := by unfold wrap64; omega
          go_wp2_with (first | (go_at_call_of 19 (Value.int IntKind.i64 x); refine (money_ok x HM0.out _).mono ?_; rintro e w' ⟨rfl, rfl⟩) | (go_at_call_of 19 (Value.int IntKind.i64 y); refine (money_ok y HM1.out _).mono ?_; rintro e w' ⟨rfl, rfl⟩) | fail)
          obtain ⟨V, hV, r0, r1, r2, r3, BV⟩ : ∃ V, V = wr.alloc (.cells #[.int .i64 x, .int .i64 y] 30) ∧ V.cell? ⟨wr.heap.size, 0, none⟩ = some (.int .i64 x) ∧ V.cell? ⟨wr.heap.size, 1, none⟩ = some (.int .i64 y) ∧ V.cell? ⟨b', off', none⟩ = some (.int .i64 x0) ∧ V.cell? ⟨b', off' + 1, none⟩ = some (.int .i64 y0) ∧ Below wr.heap.size wr V :=
            ⟨_, rfl, World.cell?_alloc_at _ _ _ _ rfl, World.cell?_alloc_at _ _ _ _ rfl, (World.cell?_alloc_lt _ _ ⟨b', off', none⟩ l0).trans g0, (World.cell?_alloc_lt _ _ ⟨b', off' + 1, none⟩ l0).trans g1, (Below.refl _ _).alloc (Nat.le_refl _) _⟩
          have t0 := (BV.cell (p := ⟨w.heap.size, 0, none⟩) hsz).trans d0
          have BC : ChAt V w.heap.size (some ⟨b', off', none⟩) n c cl tu wh ch := ChAt.below ⟨d0, d1, d2, d3, d4, df⟩ BV hsz
          have BC := aside BC
          have BW := aside (hb.trans (BV.mono hbz))
          have BZ := aside (Nat.lt_of_lt_of_le hsz BV.size)
          rw [← hV]
          clear hV e0 e1 g0 g1 d0 d1 d2 d3 d4 df BV hb
          by_cases hs : x + y = x0 + y0
          · have HS := aside hs
            have bs : (x + y != x0 + y0) = false := by simp [hs]
            clear hs
            go_quiet (fail)
            go_wp2
            exact ⟨⟨k + 1, by omega, rfl, ⟨BW.out.os, BW.out.tape, BW.out.output, BW.out.size, BW.out.block⟩, BZ.out, ⟨BC.out.c0, BC.out.c1, BC.out.c2, BC.out.c3, BC.out.c4, BC.out.fz⟩, aside (fun _ => HQ.out), aside (by rw [HT.out, HE.out, if_pos HM0.out, if_pos HM1.out, if_pos HS.out])⟩, by simp [intOf]; omega⟩
          · have HS := aside hs
            have bs : (x + y != x0 + y0) = true := by simpa using hs
            clear hs
            go_quiet (fail)
            go_wp2
            go_ret
            have ht : turnsQ n ps = 9 := by rw [HTQ.out, HT.out, HE.out, if_pos HM0.out, if_pos HM1.out, if_neg HS.out]
            exact ⟨by rw [checkQ_turns (by rw [ht]; decide), ht]; rfl, ⟨BW.out.os, BW.out.tape, BW.out.output, BW.out.size, BW.out.block⟩⟩
        · have HM1 := aside m1
          clear m1
          have BV := aside (hb.alloc hbz (.cells #[.int .i64 x, .int .i64 y] 30))
          have ht : turnsQ n ps = 2 := by rw [HTQ.out, HT.out, HE.out, if_pos HM0.out, if_neg HM1.out]
          have HQ : Hid (checkQ n ps cl tu wh ch = 2) := aside (by rw [checkQ_turns (by rw [ht]; decide), ht])
          clear ht
          go_wp2_with (first | (go_at_call_of 19 (Value.int IntKind.i64 x); refine (money_ok x HM0.out _).mono ?_; rintro e w' ⟨rfl, rfl⟩) | (go_at_call_of 19 (Value.int IntKind.i64 y); refine (money_bad y HM1.out _).mono ?_; rintro e w' ⟨rfl, rfl⟩))
          go_ret
          exact ⟨by rw [HQ.out]; rfl, BV.out⟩
      · have HM0 := aside m0
        clear m0
        have BV := aside (hb.alloc hbz (.cells #[.int .i64 x, .int .i64 y] 30))
        have ht : turnsQ n ps = 2 := by rw [HTQ.out, HT.out, HE.out, if_neg HM0.out]
        have HQ : Hid (checkQ n ps cl tu wh ch = 2) := aside (by rw [checkQ_turns (by rw [ht]; decide), ht])
        clear ht
        go_wp2_with (first | (go_at_call_of 19 (Value.int IntKind.i64 x); refine (money_bad x HM0.out _).mono ?_; rintro e w' ⟨rfl, rfl⟩))
        go_ret
        exact ⟨by rw [HQ.out]; rfl, BV.out⟩
    · have i1 : ((k : Int) < (n : Int)) = False := by simp only [eq_iff_iff, iff_false]; omega
      obtain rfl : k = n := by omega
      have hz : turnsQ k ps = 0 := by
        rw [HTQ.out, HT.out, List.drop_of_length_le (by omega)]
        rfl
      have HQ := aside hz
      have HB := aside hb
      clear hz k1 hb HT HK HTQ
      go_wp2
      all_goals go_ret
      all_goals clear d0 d1 d2 d3 d4 df ws ws'
      all_goals cases ch
      all_goals first
        | (exfalso; simp at *; done)
        | (exfalso; simp at *; omega)
        | exact ⟨by rw [checkQ_2 HQ.out (by first | omega | (simp at *; done) | (simp at *; omega))]; rfl, HB.out⟩
        | exact ⟨by rw [checkQ_11 HQ.out (by first | omega | (simp at *; done) | (simp at *; omega)) (by first | omega | (simp at *; done) | (simp at *; omega))]; rfl, HB.out⟩
        | exact ⟨by rw [checkQ_0 HQ.out (by first | omega | (simp at *; done) | (simp at *; omega)) (by first | omega | (simp at *; done) | (simp at *; omega))]; rfl, HB.out⟩
        | exact ⟨by rw [checkQ_11 HQ.out (by first | omega | (simp at *; done) | (simp at *; omega)) (by first | (simp_all; done) | (simp_all; omega))]; rfl, HB.out⟩
        | exact ⟨by rw [checkQ_0 HQ.out (by first | omega | (simp at *; done) | (simp at *; omega)) (by first | (simp_all; done) | (simp_all; omega))]; rfl, HB.out⟩

/-- moneyerref3.LaneFault, at every channel. -/
theorem fault_any (ps : List (Int × Int)) (A : Option Addr) (n c : Nat) (cl tu wh : Int) (ch : Bool) (w : World) (hp : PSl w w.heap.size A n ps) :
    Calls Tryd.prog 9 #[.agg #[.slice A n c, .int .i64 cl, .int .i64 tu, .int .i64 wh, .bool ch]] w (PostInt (checkQ n ps cl tu wh ch) w) := by
  by_cases hn : n < 1 ∨ 50 < n
  · exact fault_len ps A n c cl tu wh ch w hn
  · exact fault_in ps A n c cl tu wh ch w hp (by omega) (by omega)
end Go.Proofs.YtpkclbemgmaahaaDoor
