/- LaneSums: nothing is lost. No condition. -/
import Derived.Test.YtpkclbemgmaahaaLaneG
import Derived.Test.YtpkclbemgmaahaaLaneC1
import Derived.Test.YtpkclbemgmaahaaLaneC3
import Derived.Deep.QuietTactic
import Derived.BigQuiet
namespace Go.Proofs.Ytpkclbemgmaahaa
open Go.RowKit Go.ChangeShapes Go.WideShapes Go.ChangeAt

theorem check_closed {s : Int} {n : Nat} {ps : List (Int × Int)} {who turn now : Int} (h : Chan s n ps) (hw : who = 0 ∨ who = 1) (h0 : 0 ≤ turn) (h1 : turn < (n : Int)) (hT : TimeIn now) : checkQ n ps (who + 1) turn now false = 0 := by
  have ht := (checkQ_ok h.2.1).1
  unfold TimeIn at hT
  unfold checkQ
  rw [if_neg (by simp [ht]), if_neg (by omega), if_neg (by simp; omega)]
theorem ends_closed {s : Int} {n : Nat} {ps : List (Int × Int)} {who turn now : Int} (h : Chan s n ps) (hw : who = 0 ∨ who = 1) (h0 : 0 ≤ turn) (h1 : turn < (n : Int)) (hT : TimeIn now) (hM : now + 100 ≤ 1073741824) : endsQ n ps (who + 1) turn now false (now + 100) = 0 := by
  unfold endsQ
  have hT' : TimeIn (now + 100) := by unfold TimeIn at *; omega
  rw [if_neg (by simp [check_closed h hw h0 h1 hT]), if_neg (by omega), if_neg (by simpa using hT'), if_neg (by omega), if_neg (by omega)]
theorem Chan.at_ {s : Int} {n : Nat} {ps : List (Int × Int)} (h : Chan s n ps) {k : Nat} (hk : k < n) : MoneyIn (ps.getD k (0, 0)).1 ∧ MoneyIn (ps.getD k (0, 0)).2 ∧ (ps.getD k (0, 0)).1 + (ps.getD k (0, 0)).2 = s := by
  have hl := h.1
  exact h.all.2.2 _ (by rw [List.getD_eq_getElem?_getD, List.getElem?_eq_getElem (by omega), Option.getD_some]; exact List.getElem_mem _)

set_option maxHeartbeats 16000000 in
set_option maxRecDepth 100000 in
theorem sums_any (a b who turn now : Int) (zs ys : List Int) (A1 A2 : Option Addr) (n1 n2 p1 p2 : Nat) (w : World)
    (hz : ISl w w.heap.size A1 n1 zs) (hy : ISl w w.heap.size A2 n2 ys) :
    Calls Try.prog 4 #[.int .i64 a, .int .i64 b, .slice A1 n1 p1, .slice A2 n2 p2, .int .i64 who, .int .i64 turn, .int .i64 now] w (LawPost w) := by
  go_enter Try.func4, Try.ntmps4
  go_wp2_with fail
  refine (laned_any _).mono ?_
  rintro e wl ⟨rfl, hbl⟩
  have hzl := hbl.size
  by_cases h40 : 60 < n1
  · have h40' : (60 : Int) < (n1 : Int) := by omega
    go_wp2
    go_ret
    exact ⟨rfl, hbl⟩
  have h40' : ((60 : Int) < (n1 : Int)) = False := by simp only [eq_iff_iff, iff_false]; omega
  go_wp2_with fail
  refine (laid_any a b zs ys A1 A2 n1 n2 p1 p2 _ ((Sl.below hz hbl).more hzl) ((Sl.below hy hbl).more hzl) (by omega)).mono ?_
  rintro e w1 ⟨hbN, hr⟩
  have hB1 : Below w.heap.size w w1 := hbl.trans (hbN.mono hzl)
  have hzN := hbN.size
  rcases hr with ⟨hq, A0, n0, c0, qs, rfl, hp0, hf0, hC⟩ | ⟨hq, rfl⟩
  rotate_left
  · clear hq
    have HB := aside hB1
    simp only [chV]
    clear hbN hB1 hbl
    go_wp2
    go_ret
    exact ⟨rfl, HB.out.alloc HB.out.size _⟩
  have HCh := aside (chan_new hq)
  clear hq
  have HP0 := aside hp0
  have HC := aside hC
  have HB1 := aside hB1
  clear hbN hp0 hf0 hbl hC hz hy
  simp only [chV]
  go_wp2_with fail
  have hn50 : n0 ≤ 50 := HC.out.all.2.1
  go_loopw [18] (fun v18 wr => ∃ (k : Nat), k ≤ n0 ∧ v18 = .int .i64 k ∧ Below w1.heap.size w1 wr ∧ w1.heap.size < wr.heap.size ∧ ChAt wr w1.heap.size A0 n0 c0 0 0 0 false) (fun v18 _ => n0 - (intOf v18).toNat)
  case atStart => exact ⟨0, Nat.zero_le _, rfl, (Below.refl _ _).alloc (Nat.le_refl _) _, by simp, chAt_alloc _⟩
  case round =>
    obtain ⟨k, hk, rfl, hb, hsz, ⟨d0, d1, d2, d3, d4, df⟩⟩ := hrel
    have hbz := hb.size
    have l0 : w1.heap.size < wr.heap.size := hsz
    by_cases k1 : k < n0
    · obtain ⟨b3, o3, rfl, lt3, x0, x1⟩ := HP0.out.at_ k1
      have hmem := HC.out.at_ k1
      generalize qs.getD k (0, 0) = p at x0 x1 hmem
      obtain ⟨x, y⟩ := p
      simp only [] at x0 x1 hmem
      have y0 := (hb.cell (p := ⟨b3, o3 + k * 2, none⟩) lt3).trans x0
      have y1 := (hb.cell (p := ⟨b3, o3 + k * 2 + 1, none⟩) lt3).trans x1
      obtain ⟨⟨m0, m1⟩, ⟨m2, m3⟩, m4⟩ := hmem
      have M4 := aside m4
      have g0 : (x < 0) = False := by simp only [eq_iff_iff, iff_false]; omega
      have g1 : (y < 0) = False := by simp only [eq_iff_iff, iff_false]; omega
      have g2 : wrap64 (x + y) = x + y := by unfold wrap64; omega
      have g3 : wrap64 (a + b) = a + b := by have := HCh.out.2; unfold MoneyIn at this; unfold wrap64; omega
      have g4 : (x + y != a + b) = false := by simp [m4]
      have i1 : (k : Int) < (n0 : Int) := by omega
      have i4 : (0 : Int) ≤ (k : Int) := by omega
      clear x0 x1 m4 m0 m1 m2 m3
      have l3 : b3 < wr.heap.size := by omega
      go_wp2_with fail
      go_quiet (fail)
      go_wp2
      exact ⟨⟨k + 1, by omega, rfl, ⟨hb.os, hb.tape, hb.output, hb.size, hb.block⟩, hsz, ⟨d0, d1, d2, d3, d4, df⟩⟩, by simp [intOf]; omega⟩
    · have i1 : ((k : Int) < (n0 : Int)) = False := by simp only [eq_iff_iff, iff_false]; omega
      have HBW := aside (HB1.out.trans (hb.mono (by omega)))
      have HPW := aside ((Sl.below HP0.out hb).more hbz)
      clear hb k1 hB1
      go_wp2_with fail
      refine (close_any qs A0 n0 c0 0 0 0 false who turn now _ HPW.out).mono ?_
      rintro e w3 ⟨hb3, ⟨hq3, A3, c3, rfl, hp3, -⟩ | ⟨hq3, rfl⟩⟩
      rotate_left
      · rw [errV_ne hq3]
        simp only [chV]
        have HB3 := aside (HBW.out.trans (hb3.mono (by have := HBW.out.size; omega)))
        clear hb3 hq3
        go_wp2
        go_ret
        exact ⟨rfl, HB3.out.alloc HB3.out.size _⟩
      obtain ⟨-, hw, ht0, ht1, hT, -⟩ := closeQ_ok hq3
      have hQE := aside (fun hM => ends_closed HC.out hw ht0 ht1 hT hM)
      have HT := aside hT
      have z3 := hb3.size
      have HB3 := aside (HBW.out.trans (hb3.mono (by have := HBW.out.size; omega)))
      have HP3 := aside hp3
      have HPC := aside ((Sl.below HPW.out hb3).more z3)
      have l3 : w1.heap.size < w3.heap.size := by omega
      have e0 := (hb3.cell (p := ⟨w1.heap.size, 0, none⟩) l0).trans d0
      obtain ⟨t, rfl⟩ : ∃ t : Nat, turn = (t : Int) := ⟨turn.toNat, by omega⟩
      have HTN := aside ht1
      have ws : wrap64 (now + 100) = now + 100 := by unfold TimeIn at hT; unfold wrap64; omega
      simp only [chV]
      clear hb3 hq3 hp3 hw ht0 ht1 hT d0 d1 d2 d3 d4 df
      go_wp2_with fail
      rw [ws]
      refine (ends_any qs A3 n0 c3 (who + 1) t now false (now + 100) _ ((HP3.out.alloc (Nat.le_refl _) _).more (by simp))).mono ?_
      rintro e w4 ⟨hb4, hr4⟩
      have z4' := hb4.size
      have z4 := z4'
      simp only [World.size_alloc] at z4
      have l4 : w1.heap.size < w4.heap.size := by omega
      have u0 := (hb4.cell (p := ⟨w1.heap.size, 0, none⟩) (by simp; omega)).trans ((World.cell?_alloc_lt _ _ ⟨w1.heap.size, 0, none⟩ l3).trans e0)
      have HB4 := aside (HB3.out.trans (((Below.refl _ _).alloc HB3.out.size _).trans (hb4.mono (by have := HB3.out.size; simp; omega))))
      have HPD := aside ((Sl.below ((Sl.alloc HPC.out (Nat.le_refl _) (.cells #[.slice A3 n0 c3, .int .i64 (who + 1), .int .i64 t, .int .i64 now, .bool false] 26)).more (B' := (w3.alloc (.cells #[.slice A3 n0 c3, .int .i64 (who + 1), .int .i64 t, .int .i64 now, .bool false] 26)).heap.size) (by simp)) hb4).more z4')
      clear hb4 z4'
      obtain ⟨b3, o3, rfl, lt3, x0, x1⟩ := PSl.at_ HPD.out (k := t) (by have := HTN.out; omega)
      have hmem := HC.out.at_ (k := t) (by have := HTN.out; omega)
      have hta : turnAt qs (t : Int) = qs.getD t (0, 0) := by simp only [turnAt, Int.toNat_natCast]
      have g3 : wrap64 (a + b) = a + b := by have := HCh.out.2; unfold MoneyIn at this; unfold wrap64; omega
      have hpe := pair_eq
      have i1 : (t : Int) < (n0 : Int) := HTN.out
      have i2 : (0 : Int) ≤ (t : Int) := by omega
      by_cases hM : now + 100 ≤ 1073741824
      · have hq0 := hQE.out hM
        have hM' : ((1073741824 : Int) < now + 100) = False := by simp only [eq_iff_iff, iff_false]; omega
        rcases hr4 with ⟨-, rfl⟩ | ⟨hq4, -⟩
        rotate_left
        · exact absurd hq0 hq4
        have hD : endsD qs (who + 1) t false = qs.getD t (0, 0) := by simp [endsD, hta]
        rw [hD]
        clear hD hta hq0 hM hQE
        generalize qs.getD t (0, 0) = p at x0 x1 hmem ⊢
        obtain ⟨x, y⟩ := p
        simp only [] at x0 x1 hmem ⊢
        have g2 : wrap64 (x + y) = x + y := by unfold MoneyIn at hmem; unfold wrap64; omega
        have g4 : (x + y == a + b) = true := by simp [hmem.2.2]
        clear hmem
        go_wp2_with fail
        obtain ⟨V, hV⟩ : ∃ V, V = w4.alloc (.cells #[.int .i64 x, .int .i64 y] 32) := ⟨_, rfl⟩
        have s0 : V.cell? ⟨w4.heap.size, 0, none⟩ = some (.int .i64 x) := by rw [hV]; exact World.cell?_alloc_at _ _ _ _ rfl
        have s1 : V.cell? ⟨w4.heap.size, 1, none⟩ = some (.int .i64 y) := by rw [hV]; exact World.cell?_alloc_at _ _ _ _ rfl
        have s2 := (World.cell?_alloc_lt w4 (.cells #[.int .i64 x, .int .i64 y] 32) ⟨w1.heap.size, 0, none⟩ l4).trans u0
        have s3 := (World.cell?_alloc_lt w4 (.cells #[.int .i64 x, .int .i64 y] 32) ⟨b3, o3 + t * 2, none⟩ lt3).trans x0
        have s4 := (World.cell?_alloc_lt w4 (.cells #[.int .i64 x, .int .i64 y] 32) ⟨b3, o3 + t * 2 + 1, none⟩ lt3).trans x1
        rw [← hV] at s2 s3 s4
        have BV := aside (show Below w.heap.size w V by rw [hV]; exact HB4.out.alloc HB4.out.size _)
        rw [← hV]
        clear hV u0 x0 x1 e0
        go_quiet (fail)
        go_wp2
        go_ret
        exact ⟨by first | rfl | simp, ⟨BV.out.os, BV.out.tape, BV.out.output, BV.out.size, BV.out.block⟩⟩
      · have hM' : (1073741824 : Int) < now + 100 := by omega
        have HBE := aside (HB4.out.alloc HB4.out.size (.cells #[.int .i64 0, .int .i64 0] 32))
        rcases hr4 with ⟨hq4, -⟩ | ⟨hq4, rfl⟩
        · exact absurd (endsQ_ok hq4).2.2.1 (by unfold TimeIn; omega)
        rw [errV_ne hq4]
        clear hq4 hM hQE hta x0 x1 hmem
        go_wp2_with fail
        obtain ⟨V, hV⟩ : ∃ V, V = w4.alloc (.cells #[.int .i64 0, .int .i64 0] 32) := ⟨_, rfl⟩
        rw [← hV] at HBE ⊢
        clear hV
        go_quiet (fail)
        go_wp2
        go_ret
        exact ⟨by first | rfl | simp, ⟨HBE.out.os, HBE.out.tape, HBE.out.output, HBE.out.size, HBE.out.block⟩⟩

/-- What the law's arguments are. -/
theorem laneSums_walk {H : Type} {enc : TypeId × Value → H} (W : World) (args : Array Value) (ds : List (DataW H)) (ps : List MemPlace)
    (h : LawPre enc Try.prog Try.f4 W args ds ps) : Calls Try.prog 4 args W (LawPost W) := by
  obtain ⟨hA, ⟨base, hval⟩, hlt, hsz⟩ := h
  rw [Try.params4] at hA hval hsz
  obtain ⟨v0, l0, d0, m0, p0, r0, ea, rfl, rfl, h0, hA⟩ := trodAll_cons hA
  obtain ⟨v1, l1, d1, m1, p1, r1, rfl, rfl, rfl, h1, hA⟩ := trodAll_cons hA
  obtain ⟨v2, l2, d2, m2, p2, r2, rfl, rfl, rfl, h2, hA⟩ := trodAll_cons hA
  obtain ⟨v3, l3, d3, m3, p3, r3, rfl, rfl, rfl, h3, hA⟩ := trodAll_cons hA
  obtain ⟨v4, l4, d4, m4, p4, r4, rfl, rfl, rfl, h4, hA⟩ := trodAll_cons hA
  obtain ⟨v5, l5, d5, m5, p5, r5, rfl, rfl, rfl, h5, hA⟩ := trodAll_cons hA
  obtain ⟨v6, l6, d6, m6, p6, r6, rfl, rfl, rfl, h6, hA⟩ := trodAll_cons hA
  obtain ⟨rfl, rfl, rfl⟩ := trodAll_nil hA
  obtain rfl : args = #[v0, v1, v2, v3, v4, v5, v6] := by
    cases args
    simpa using ea
  obtain ⟨x0, rfl, rfl, rfl, _⟩ := open_int Try.underlying3 (hval 0 _ v0 rfl rfl) h0
  obtain ⟨x1, rfl, rfl, rfl, _⟩ := open_int Try.underlying3 (hval 1 _ v1 rfl rfl) h1
  obtain ⟨A2, n2, c2, z2, rfl, hc2, _, hs2, wz2, hx2⟩ := open_intSlice (hval 2 _ v2 rfl rfl) h2 (fun x hx => hlt x (by simp [hx]))
  obtain ⟨A3, n3, c3, z3, rfl, hc3, _, hs3, wz3, hx3⟩ := open_intSlice (hval 3 _ v3 rfl rfl) h3 (fun x hx => hlt x (by simp [hx]))
  obtain ⟨x4, rfl, rfl, rfl, _⟩ := open_int Try.underlying3 (hval 4 _ v4 rfl rfl) h4
  obtain ⟨x5, rfl, rfl, rfl, _⟩ := open_int Try.underlying3 (hval 5 _ v5 rfl rfl) h5
  obtain ⟨x6, rfl, rfl, rfl, _⟩ := open_int Try.underlying3 (hval 6 _ v6 rfl rfl) h6
  exact sums_any x0 x1 x4 x5 x6 z2 z3 A2 A3 n2 n3 c2 c3 W hs2 hs3

set_option maxRecDepth 100000 in
theorem laneSums_lifted (os : Os) (started : os.Started) (H : Type) (enc : TypeId × Value → H) :
    ReturnsInHanded {} Try.checked os 4 .any (Rows.laneSumsSpec.pre6 enc Try.prog Try.f4 Rows.laneSumsRow.domain false) (Rows.laneSumsSpec.post enc Try.prog Try.f4 false true false false) :=
  law_lifted (C := Try.checked) (B := 4) (n := 7) Try.own started (by kernel_rfl) Try.func4
      (ChangeSpec.witness6 (enc := enc) (C := Try.checked) false ⟨#[], #[.int .i64 0, .int .i64 0, .slice none 0 0, .slice none 0 0, .int .i64 0, .int .i64 0, .int .i64 0], []⟩ 8 (by kernel_rfl) (by kernel_rfl) (by kernel_rfl) (by kernel_rfl))
      rfl Try.underlying4 (by kernel_rfl) Try.laidOut (by kernel_rfl) (by kernel_rfl) (fun ds h => by match ds, h with | [a, b, c, d, e, f, g], _ => rfl) laneSums_walk

/-- The statement. -/
theorem LaneSums_holds : Rows.LaneSumsSaid :=
  OpenClaim.holds_of_wide 4 Try.f4 rfl rfl rfl rfl rfl rfl rfl ⟨rfl, rfl, rfl, rfl, rfl⟩ rfl rfl rfl rfl rfl (by kernel_rfl) Try.func4 (by kernel_rfl)
    (of_decide_eq_true (by kernel_rfl)) (by unfold Func.isWrapper; first | (rw [if_pos (by decide +kernel)]; kernel_rfl) | (rw [if_neg (by decide +kernel)]; exact ⟨rfl, rfl⟩))
    (fun os started H enc _ => laneSums_lifted os started H enc)
#print axioms LaneSums_holds
end Go.Proofs.Ytpkclbemgmaahaa
