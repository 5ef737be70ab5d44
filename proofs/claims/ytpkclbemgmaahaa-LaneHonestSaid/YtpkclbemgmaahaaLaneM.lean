/- LaneHonest: who tells the last turn keeps it. No condition. -/
import Derived.Test.YtpkclbemgmaahaaLaneG
import Derived.Test.YtpkclbemgmaahaaLaneC1
import Derived.Test.YtpkclbemgmaahaaLaneC2
import Derived.Test.YtpkclbemgmaahaaLaneC3
import Derived.Deep.QuietTactic
import Derived.BigQuiet
namespace Go.Proofs.Ytpkclbemgmaahaa
open Go.RowKit Go.ChangeShapes Go.WideShapes Go.ChangeAt

theorem check_closed {s : Int} {n : Nat} {ps : List (Int × Int)} {who turn now : Int} (h : Chan s n ps) (hw : who = 0 ∨ who = 1) (h0 : 0 ≤ turn) (h1 : turn < (n : Int)) (hT : TimeIn now) : checkQ n ps (who + 1) turn now false = 0 := by
  have ht := (checkQ_ok h.2.1).1
  unfold TimeIn at hT
  unfold checkQ
  rw [if_neg (by simp [ht]), if_neg (by omega), if_neg (by simp; omega)]
theorem ends_closed {s : Int} {n : Nat} {ps : List (Int × Int)} {who turn now : Int} (h : Chan s n ps) (hw : who = 0 ∨ who = 1) (h0 : 0 ≤ turn) (h1 : turn < (n : Int)) (hT : TimeIn now) (hM : now + 100 ≤ 1073741824) : endsQ n ps (who + 1) turn now false (now + 100) = 0 := by
  unfold endsQ
  have hT' : TimeIn (now + 100) := by unfold TimeIn at *; omega
  rw [if_neg (by simp [check_closed h hw h0 h1 hT]), if_neg (by omega), if_neg (by simpa using hT'), if_neg (by omega), if_neg (by omega)]
theorem Chan.at_ {s : Int} {n : Nat} {ps : List (Int × Int)} (h : Chan s n ps) {k : Nat} (hk : k < n) : MoneyIn (ps.getD k (0, 0)).1 ∧ MoneyIn (ps.getD k (0, 0)).2 ∧ (ps.getD k (0, 0)).1 + (ps.getD k (0, 0)).2 = s := by
  have hl := h.1
  exact h.all.2.2 _ (by rw [List.getD_eq_getElem?_getD, List.getElem?_eq_getElem (by omega), Option.getD_some]; exact List.getElem_mem _)

/-- Where the last turn was told, nothing can be shown. -/
theorem show_last (ps : List (Int × Int)) (A : Option Addr) (n c : Nat) (cl tu wh : Int) (ch : Bool) (who now : Int) (w : World) (hp : PSl w w.heap.size A n ps) (ht : tu = (n : Int) - 1) :
    Calls Try.prog 13 #[.agg #[.slice A n c, .int .i64 cl, .int .i64 tu, .int .i64 wh, .bool ch], .int .i64 who, .int .i64 now] w
      (fun e w' => Below w.heap.size w w' ∧ ∃ q, e = .returned (.tuple #[.agg #[.slice none 0 0, .int .i64 0, .int .i64 0, .int .i64 0, .bool false], .iface 45 (.int .i64 q)])) := by
  refine (show_any ps A n c cl tu wh ch who now w hp).mono ?_
  rintro e w' ⟨hb, ⟨hq, _⟩ | ⟨hq, rfl⟩⟩
  · exact absurd ht (showQ_ok hq).2.2.2.2.2.2.1
  · exact ⟨hb, _, by rw [errV_ne hq]; rfl⟩

set_option maxHeartbeats 16000000 in
set_option maxRecDepth 100000 in
theorem honest_any (a b who now : Int) (zs ys xs : List Int) (A1 A2 A4 : Option Addr) (n1 n2 n4 p1 p2 p4 : Nat) (w : World)
    (hz : ISl w w.heap.size A1 n1 zs) (hy : ISl w w.heap.size A2 n2 ys) (hx : ISl w w.heap.size A4 n4 xs) :
    Calls Try.prog 5 #[.int .i64 a, .int .i64 b, .slice A1 n1 p1, .slice A2 n2 p2, .int .i64 who, .int .i64 now, .slice A4 n4 p4] w (LawPost w) := by
  go_enter Try.func5, Try.ntmps5
  go_wp2_with fail
  refine (laned_any _).mono ?_
  rintro e wl ⟨rfl, hbl⟩
  have hzl := hbl.size
  by_cases h40 : 60 < n1
  · have h40' : (60 : Int) < (n1 : Int) := by omega
    go_wp2
    go_ret
    exact ⟨rfl, hbl⟩
  have h40' : ((60 : Int) < (n1 : Int)) = False := by simp only [eq_iff_iff, iff_false]; omega
  by_cases h41 : 60 < n4
  · have h41' : (60 : Int) < (n4 : Int) := by omega
    go_wp2
    go_ret
    exact ⟨rfl, hbl⟩
  have h41' : ((60 : Int) < (n4 : Int)) = False := by simp only [eq_iff_iff, iff_false]; omega
  go_wp2_with fail
  refine (laid_any a b zs ys A1 A2 n1 n2 p1 p2 _ ((Sl.below hz hbl).more hzl) ((Sl.below hy hbl).more hzl) (by omega)).mono ?_
  rintro e w1 ⟨hbN, hr⟩
  have hB1 : Below w.heap.size w w1 := hbl.trans (hbN.mono hzl)
  have hzN := hbN.size
  rcases hr with ⟨hq, A0, n0, c0, qs, rfl, hp0, hf0, hC⟩ | ⟨hq, rfl⟩
  rotate_left
  · clear hq
    have HB := aside hB1
    simp only [chV]
    clear hbN hB1 hbl
    go_wp2
    go_ret
    exact ⟨rfl, HB.out.alloc HB.out.size _⟩
  have HCh := aside (chan_new hq)
  clear hq
  have HP0 := aside hp0
  have HC := aside hC
  have HB1 := aside hB1
  clear hbN hp0 hf0 hbl hC hz hy
  simp only [chV]
  have hj1 : 1 ≤ n0 ∧ n0 ≤ 50 := ⟨HC.out.all.1, HC.out.all.2.1⟩
  obtain ⟨j, hj⟩ : ∃ j, n0 = j + 1 := ⟨n0 - 1, by omega⟩
  have ws1 : wrap64 ((n0 : Int) - 1) = (j : Int) := by unfold wrap64; omega
  have HJ : Hid ((j : Int) = (n0 : Int) - 1) := aside (by omega)
  clear hj hj1
  go_wp2_with fail
  refine (close_any qs A0 n0 c0 0 0 0 false who j now _ ((HP0.out.alloc (Nat.le_refl _) _).more (by simp))).mono ?_
  rintro e w3 ⟨hb3, ⟨hq3, A3, c3, rfl, hp3, hf3⟩ | ⟨hq3, rfl⟩⟩
  rotate_left
  · rw [errV_ne hq3]
    simp only [chV]
    have HB3 := aside (HB1.out.trans (((Below.refl _ _).alloc HB1.out.size _).trans (hb3.mono (by have := HB1.out.size; simp; omega))))
    clear hb3 hq3 hB1
    go_wp2
    go_ret
    exact ⟨rfl, HB3.out.alloc HB3.out.size _⟩
  obtain ⟨-, hw, -, -, hT, -⟩ := closeQ_ok hq3
  have hQE := aside (fun hM => ends_closed HC.out hw (show (0 : Int) ≤ (j : Int) by omega) (by have := HJ.out; omega) hT hM)
  have HT := aside hT
  have z3' := hb3.size
  have z3 := z3'
  simp only [World.size_alloc] at z3
  have HB3 := aside (HB1.out.trans (((Below.refl _ _).alloc HB1.out.size _).trans (hb3.mono (by have := HB1.out.size; simp; omega))))
  have HP3 := aside hp3
  have HPC := aside ((Sl.below ((Sl.alloc HP0.out (Nat.le_refl _) (.cells #[.slice A0 n0 c0, .int .i64 0, .int .i64 0, .int .i64 0, .bool false] 26)).more (B' := (w1.alloc (.cells #[.slice A0 n0 c0, .int .i64 0, .int .i64 0, .int .i64 0, .bool false] 26)).heap.size) (by simp)) hb3).more z3')
  have l3 : w1.heap.size < w3.heap.size := by omega
  have e0 := ((chAt_alloc (A := A0) (n := n0) (c := c0) (cl := 0) (tu := 0) (wh := 0) (ch := false) w1).below hb3 (by simp)).c0
  have ws : wrap64 (now + 100) = now + 100 := by unfold TimeIn at hT; unfold wrap64; omega
  have ws2 : wrap64 (1 - who) = 1 - who := by unfold wrap64; omega
  have hn4 : n4 ≤ 60 := by omega
  have HXB := aside ((Sl.below hx HB3.out).more HB3.out.size)
  have HXW : ∀ b o, A4 = some ⟨b, o, none⟩ → 0 < n4 → b < w3.heap.size := by
    intro b o e hn
    obtain ⟨b', o', e', hlt, _⟩ := hx.at_ (k := 0) hn
    rw [e] at e'
    injection e' with e'
    injection e' with e1 e2
    have := HB3.out.size
    omega
  have HXW := aside HXW
  simp only [chV]
  clear hb3 hq3 hp3 hf3 hw hT hB1 z3' hx
  go_wp2_with fail
  simp only [ws1]
  have DB : Below w.heap.size w w3 := HB3.out
  go_loopw [21] (fun v21 wr => ∃ (k : Nat), k ≤ n4 ∧ v21 = .int .i64 k ∧ Below w3.heap.size w3 wr ∧ w3.heap.size < wr.heap.size ∧ ChAt wr w3.heap.size A3 n0 c3 (who + 1) j now false ∧ Hid (PSl wr wr.heap.size A3 n0 qs)) (fun v21 _ => n4 - (intOf v21).toNat)
  case atStart => exact ⟨0, Nat.zero_le _, rfl, (Below.refl _ _).alloc (Nat.le_refl _) _, by simp, chAt_alloc _, aside ((HP3.out.alloc (Nat.le_refl _) _).more (by simp))⟩
  case round =>
    obtain ⟨k, hk, rfl, hb, hsz, ⟨d0, d1, d2, d3, d4, df⟩, HP⟩ := hrel
    have hbz := hb.size
    have l0 : w3.heap.size < wr.heap.size := hsz
    by_cases k1 : k < n4
    · obtain ⟨b1, o1, rfl, hb1, hc1⟩ := ISl.at_ HXB.out k1
      have x1 : wr.cell? ⟨b1, o1 + k, none⟩ = some (.int .i64 (nth xs k)) := by rw [hb.cell (by exact hb1)]; exact hc1
      have i1 : (k : Int) < (n4 : Int) := by omega
      have i4 : (0 : Int) ≤ (k : Int) := by omega
      clear hc1
      have m1 : b1 < wr.heap.size := by omega
      go_wp2_with fail
      have HS0 := kept_drew7 ⟨d0, d1, d2, d3, d4, x1, x1⟩
      have HS1 := fun c => kept_alloc_drew7 (c := c) l0 m1 m1 ⟨d0, d1, d2, d3, d4, x1, x1⟩
      go_region_held3 (fun w' => w'.cell? ⟨w3.heap.size, 0, none⟩ = some (.slice A3 n0 c3) ∧ w'.cell? ⟨w3.heap.size, 1, none⟩ = some (.int .i64 (who + 1)) ∧ w'.cell? ⟨w3.heap.size, 2, none⟩ = some (.int .i64 j) ∧ w'.cell? ⟨w3.heap.size, 3, none⟩ = some (.int .i64 now) ∧ w'.cell? ⟨w3.heap.size, 4, none⟩ = some (.bool false) ∧ w'.cell? ⟨b1, o1 + k, none⟩ = some (.int .i64 (nth xs k)) ∧ w'.cell? ⟨b1, o1 + k, none⟩ = some (.int .i64 (nth xs k)))
        (with_reducible (first | exact HS0 | exact HS2 | exact HS1 _ | exact kept_alloc7 y0 y1 y2 HS2 | exact kept_set7 l0 m1 m1 HS2 | exact kept_set7 y0 y1 y2 (kept_alloc7 y0 y1 y2 HS2)))
        (first | (go_at_call 13; refine (show_last qs A3 n0 c3 (who + 1) j now false _ _ _ (by first | exact PSl.drewL HP.out | exact PSl.alloc_drewL HP.out _) HJ.out).mono ?_; rintro e w2 ⟨hb2, q', rfl⟩; (first | (with_reducible (have hbw := below_drew_allocL hb2; have nk := new_someL hb2; obtain ⟨hisn, ⟨c0, c1, c2, c3', c4⟩, cf, cl⟩ := nk)) | (have hbw := below_drewL hb2)); have kk := kept7 hbw l0 m1 m1 ⟨d0, d1, d2, d3, d4, x1, x1⟩ df; obtain ⟨HS2, y0, y1, y2, rf⟩ := kk; skip))
      all_goals (first
        | (have F : ∃ W, W = w2.alloc (.cells #[.slice none 0 0, .int .i64 0, .int .i64 0, .int .i64 0, .bool false] 26) ∧ AfterL wr W w2.heap.size none 0 0 0 0 0 false False [] := ⟨_, rfl, afterL_alloc hbw (fun h => h.elim)⟩
           obtain ⟨W, hW, F⟩ := F
           rw [← hW])
        | (have F : ∃ W, W = (((((w2.setCell ⟨wr.heap.size, 0, none⟩ (.slice none 0 0)).setCell ⟨wr.heap.size, 1, none⟩ (.int .i64 0)).setCell ⟨wr.heap.size, 2, none⟩ (.int .i64 0)).setCell ⟨wr.heap.size, 3, none⟩ (.int .i64 0)).setCell ⟨wr.heap.size, 4, none⟩ (.bool false)) ∧ AfterL wr W wr.heap.size none 0 0 0 0 0 false False [] := ⟨_, rfl, afterL_set hbw cl hisn cf (fun h => h.elim)⟩
           obtain ⟨W, hW, F⟩ := F
           rw [← hW]))
      all_goals clear hW HS0 HS1 HS2
      all_goals obtain ⟨Fb, Fg, Fl, ⟨n0', n1', n2', n3', n4, nf⟩, Fr⟩ := F
      all_goals have f0 := (Fb.cell (p := ⟨w3.heap.size, 0, none⟩) l0).trans d0
      all_goals have f1 := (Fb.cell (p := ⟨w3.heap.size, 1, none⟩) l0).trans d1
      all_goals have f2 := (Fb.cell (p := ⟨w3.heap.size, 2, none⟩) l0).trans d2
      all_goals have f3 := (Fb.cell (p := ⟨w3.heap.size, 3, none⟩) l0).trans d3
      all_goals have f4 := (Fb.cell (p := ⟨w3.heap.size, 4, none⟩) l0).trans d4
      all_goals have ff : ∀ i, W.frozen? ⟨w3.heap.size, i, none⟩ = false := fun i => (Fb.frozen (p := ⟨w3.heap.size, i, none⟩) l0).trans (df i)
      all_goals have Fw := hb.trans (Fb.mono (by omega))
      all_goals have FP := aside (Sl.more (Sl.below HP.out Fb) Fb.size)
      all_goals have Fs := Fb.size
      all_goals clear d0 d1 d2 d3 d4 x1 hb2 hbw
      all_goals go_wp2
      all_goals exact ⟨⟨k + 1, by omega, rfl, Fw, by omega, ⟨f0, f1, f2, f3, f4, ff⟩, FP⟩, by simp [intOf]; omega⟩
    · have i1 : ((k : Int) < (n4 : Int)) = False := by simp only [eq_iff_iff, iff_false]; omega
      have HBW := aside (HB3.out.trans (hb.mono (by have := HB3.out.size; omega)))
      have q0 := (hb.cell (p := ⟨w1.heap.size, 0, none⟩) l3).trans e0
      have HPW := aside ((Sl.below HPC.out hb).more hbz)
      have lw : w1.heap.size < wr.heap.size := by omega
      clear hb k1 e0
      go_wp2_with fail
      rw [ws]
      refine (ends_any qs A3 n0 c3 (who + 1) j now false (now + 100) _ HP.out).mono ?_
      rintro e w4 ⟨hb4, hr4⟩
      have z4 := hb4.size
      have l4 : w1.heap.size < w4.heap.size := by omega
      have u0 := (hb4.cell (p := ⟨w1.heap.size, 0, none⟩) lw).trans q0
      have HB4 := aside (HBW.out.trans (hb4.mono (by have := HBW.out.size; omega)))
      have HPD := aside ((Sl.below HPW.out hb4).more z4)
      have e0 := u0
      have HTN : Hid ((j : Int) < (n0 : Int)) := aside (by have := HJ.out; omega)
      clear hb4
      obtain ⟨b3, o3, rfl, lt3, x0, x1⟩ := PSl.at_ HPD.out (k := j) (by have := HTN.out; omega)
      have hmem := HC.out.at_ (k := j) (by have := HTN.out; omega)
      have hta : turnAt qs (j : Int) = qs.getD j (0, 0) := by simp only [turnAt, Int.toNat_natCast]
      have hpe := pair_eq
      have i1 : (j : Int) < (n0 : Int) := HTN.out
      have i2 : (0 : Int) ≤ (j : Int) := by omega
      by_cases hM : now + 100 ≤ 1073741824
      · have hq0 := hQE.out hM
        have hM' : ((1073741824 : Int) < now + 100) = False := by simp only [eq_iff_iff, iff_false]; omega
        rcases hr4 with ⟨-, rfl⟩ | ⟨hq4, -⟩
        rotate_left
        · exact absurd hq0 hq4
        have hD : endsD qs (who + 1) j false = qs.getD j (0, 0) := by simp [endsD, hta]
        rw [hD]
        clear hD hta hq0 hM hQE
        generalize qs.getD j (0, 0) = p at x0 x1 hmem ⊢
        obtain ⟨x, y⟩ := p
        simp only [] at x0 x1 hmem ⊢
        clear hmem
        go_wp2_with fail
        obtain ⟨V, hV⟩ : ∃ V, V = w4.alloc (.cells #[.int .i64 x, .int .i64 y] 32) := ⟨_, rfl⟩
        have s0 : V.cell? ⟨w4.heap.size, 0, none⟩ = some (.int .i64 x) := by rw [hV]; exact World.cell?_alloc_at _ _ _ _ rfl
        have s1 : V.cell? ⟨w4.heap.size, 1, none⟩ = some (.int .i64 y) := by rw [hV]; exact World.cell?_alloc_at _ _ _ _ rfl
        have s2 := (World.cell?_alloc_lt w4 (.cells #[.int .i64 x, .int .i64 y] 32) ⟨w1.heap.size, 0, none⟩ l4).trans u0
        have s3 := (World.cell?_alloc_lt w4 (.cells #[.int .i64 x, .int .i64 y] 32) ⟨b3, o3 + j * 2, none⟩ lt3).trans x0
        have s4 := (World.cell?_alloc_lt w4 (.cells #[.int .i64 x, .int .i64 y] 32) ⟨b3, o3 + j * 2 + 1, none⟩ lt3).trans x1
        rw [← hV] at s2 s3 s4
        have BV := aside (show Below w.heap.size w V by rw [hV]; exact HB4.out.alloc HB4.out.size _)
        rw [← hV]
        clear hV u0 x0 x1 e0
        go_quiet (fail)
        go_wp2
        go_ret
        exact ⟨by first | rfl | simp, ⟨BV.out.os, BV.out.tape, BV.out.output, BV.out.size, BV.out.block⟩⟩
      · have hM' : (1073741824 : Int) < now + 100 := by omega
        have HBE := aside (HB4.out.alloc HB4.out.size (.cells #[.int .i64 0, .int .i64 0] 32))
        rcases hr4 with ⟨hq4, -⟩ | ⟨hq4, rfl⟩
        · exact absurd (endsQ_ok hq4).2.2.1 (by unfold TimeIn; omega)
        rw [errV_ne hq4]
        clear hq4 hM hQE hta x0 x1 hmem
        go_wp2_with fail
        obtain ⟨V, hV⟩ : ∃ V, V = w4.alloc (.cells #[.int .i64 0, .int .i64 0] 32) := ⟨_, rfl⟩
        rw [← hV] at HBE ⊢
        clear hV
        go_quiet (fail)
        go_wp2
        go_ret
        exact ⟨by first | rfl | simp, ⟨HBE.out.os, HBE.out.tape, HBE.out.output, HBE.out.size, HBE.out.block⟩⟩

/-- What the law's arguments are. -/
theorem laneHonest_walk {H : Type} {enc : TypeId × Value → H} (W : World) (args : Array Value) (ds : List (DataW H)) (ps : List MemPlace)
    (h : LawPre enc Try.prog Try.f5 W args ds ps) : Calls Try.prog 5 args W (LawPost W) := by
  obtain ⟨hA, ⟨base, hval⟩, hlt, hsz⟩ := h
  rw [Try.params5] at hA hval hsz
  obtain ⟨v0, l0, d0, m0, p0, r0, ea, rfl, rfl, h0, hA⟩ := trodAll_cons hA
  obtain ⟨v1, l1, d1, m1, p1, r1, rfl, rfl, rfl, h1, hA⟩ := trodAll_cons hA
  obtain ⟨v2, l2, d2, m2, p2, r2, rfl, rfl, rfl, h2, hA⟩ := trodAll_cons hA
  obtain ⟨v3, l3, d3, m3, p3, r3, rfl, rfl, rfl, h3, hA⟩ := trodAll_cons hA
  obtain ⟨v4, l4, d4, m4, p4, r4, rfl, rfl, rfl, h4, hA⟩ := trodAll_cons hA
  obtain ⟨v5, l5, d5, m5, p5, r5, rfl, rfl, rfl, h5, hA⟩ := trodAll_cons hA
  obtain ⟨v6, l6, d6, m6, p6, r6, rfl, rfl, rfl, h6, hA⟩ := trodAll_cons hA
  obtain ⟨rfl, rfl, rfl⟩ := trodAll_nil hA
  obtain rfl : args = #[v0, v1, v2, v3, v4, v5, v6] := by
    cases args
    simpa using ea
  obtain ⟨x0, rfl, rfl, rfl, _⟩ := open_int Try.underlying3 (hval 0 _ v0 rfl rfl) h0
  obtain ⟨x1, rfl, rfl, rfl, _⟩ := open_int Try.underlying3 (hval 1 _ v1 rfl rfl) h1
  obtain ⟨A2, n2, c2, z2, rfl, hc2, _, hs2, wz2, hx2⟩ := open_intSlice (hval 2 _ v2 rfl rfl) h2 (fun x hx => hlt x (by simp [hx]))
  obtain ⟨A3, n3, c3, z3, rfl, hc3, _, hs3, wz3, hx3⟩ := open_intSlice (hval 3 _ v3 rfl rfl) h3 (fun x hx => hlt x (by simp [hx]))
  obtain ⟨x4, rfl, rfl, rfl, _⟩ := open_int Try.underlying3 (hval 4 _ v4 rfl rfl) h4
  obtain ⟨x5, rfl, rfl, rfl, _⟩ := open_int Try.underlying3 (hval 5 _ v5 rfl rfl) h5
  obtain ⟨A6, n6, c6, z6, rfl, hc6, _, hs6, wz6, hx6⟩ := open_intSlice (hval 6 _ v6 rfl rfl) h6 (fun x hx => hlt x (by simp [hx]))
  exact honest_any x0 x1 x4 x5 z2 z3 z6 A2 A3 A6 n2 n3 n6 c2 c3 c6 W hs2 hs3 hs6

set_option maxRecDepth 100000 in
theorem laneHonest_lifted (os : Os) (started : os.Started) (H : Type) (enc : TypeId × Value → H) :
    ReturnsInHanded {} Try.checked os 5 .any (Rows.laneHonestSpec.pre6 enc Try.prog Try.f5 Rows.laneHonestRow.domain false) (Rows.laneHonestSpec.post enc Try.prog Try.f5 false true false false) :=
  law_lifted (C := Try.checked) (B := 4) (n := 7) Try.own started (by kernel_rfl) Try.func5
      (ChangeSpec.witness6 (enc := enc) (C := Try.checked) false ⟨#[], #[.int .i64 0, .int .i64 0, .slice none 0 0, .slice none 0 0, .int .i64 0, .int .i64 0, .slice none 0 0], []⟩ 8 (by kernel_rfl) (by kernel_rfl) (by kernel_rfl) (by kernel_rfl))
      rfl Try.underlying4 (by kernel_rfl) Try.laidOut (by kernel_rfl) (by kernel_rfl) (fun ds h => by match ds, h with | [a, b, c, d, e, f, g], _ => rfl) laneHonest_walk

/-- The statement. -/
theorem LaneHonest_holds : Rows.LaneHonestSaid :=
  OpenClaim.holds_of_wide 5 Try.f5 rfl rfl rfl rfl rfl rfl rfl ⟨rfl, rfl, rfl, rfl, rfl⟩ rfl rfl rfl rfl rfl (by kernel_rfl) Try.func5 (by kernel_rfl)
    (of_decide_eq_true (by kernel_rfl)) (by unfold Func.isWrapper; first | (rw [if_pos (by decide +kernel)]; kernel_rfl) | (rw [if_neg (by decide +kernel)]; exact ⟨rfl, rfl⟩))
    (fun os started H enc _ => laneHonest_lifted os started H enc)
#print axioms LaneHonest_holds
end Go.Proofs.Ytpkclbemgmaahaa
