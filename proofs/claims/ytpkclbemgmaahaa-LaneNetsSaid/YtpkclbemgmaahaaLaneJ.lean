/- LaneNets: many payments are one. No condition. -/
import Derived.Test.YtpkclbemgmaahaaLaneG
import Derived.Deep.QuietTactic
import Derived.BigQuiet
namespace Go.Proofs.Ytpkclbemgmaahaa
open Go.RowKit Go.ChangeShapes Go.WideShapes Go.ChangeAt

theorem net_step {a b net fr m : Int} {n n' : Nat} {qs : List (Int × Int)} {v : Value} (hC : Hid (Chan (a + b) n qs)) (hs : Hid (Chan (a + b) 1 [(a, b)] ∧ MoneyIn a ∧ MoneyIn b ∧ a + b ≤ 1125899906842624)) (hN : Hid (lastP n qs = (a - net, b + net)))
    (h : (v = .nilIface ∧ payQ n qs 0 0 0 false fr m = 0 ∧ n' = n + 1) ∨ (∃ q, v = .iface 45 (.int .i64 q))) :
    (v = .nilIface ∧ n' = n + 1 ∧ Hid (Chan (a + b) (n + 1) (payD n qs fr m)) ∧
      ((fr = 0 ∧ Hid (lastP (n + 1) (payD n qs fr m) = (a - wrap64 (net + m), b + wrap64 (net + m)))) ∨
       ((fr == 0) = false ∧ Hid (lastP (n + 1) (payD n qs fr m) = (a - wrap64 (net - m), b + wrap64 (net - m)))))) ∨
      (∃ q, v = .iface 45 (.int .i64 q)) := by
  rcases h with ⟨h0, hq, h1⟩ | h
  · refine .inl ⟨h0, h1, aside (hC.out.pay hs.out.2.2.2 hq), ?_⟩
    obtain ⟨_, hf, _, hm, hl, _⟩ := payQ_ok hq
    obtain ⟨l1, l2, l3⟩ := hC.out.last
    obtain ⟨_, ma, mb, _⟩ := hs.out
    rw [hN.out] at hl l1 l2
    have hlast := last_pay (fr := fr) (m := m) hC.out.1
    rw [hN.out] at hlast
    unfold MoneyIn at *
    simp only [] at hl l1 l2
    rcases hf with rfl | rfl
    · simp only [if_true] at hl
      refine .inl ⟨rfl, aside ?_⟩
      rw [hlast, show wrap64 (net + m) = net + m by unfold wrap64; omega]
      simp only [paid, if_true]
      refine Prod.ext ?_ ?_ <;> simp only <;> omega
    · simp only [Int.one_ne_zero, if_false] at hl
      refine .inr ⟨by decide, aside ?_⟩
      rw [hlast, show wrap64 (net - m) = net - m by unfold wrap64; omega]
      simp only [paid, Int.one_ne_zero, if_false]
      refine Prod.ext ?_ ?_ <;> simp only <;> omega
  · exact .inr h

theorem new_told {a b : Int} {e : Ending} {w w' : World} (hq : Hid (addQ a b = 0))
    (h : (addQ a b = 0 ∧ ∃ A c, e = .returned (.tuple #[chV A 1 c 0 0 0 false, .nilIface]) ∧ PSl w' w'.heap.size A 1 [(a, b)] ∧ Far w.heap.size A) ∨ (addQ a b ≠ 0 ∧ e = .returned (.tuple #[chV none 0 0 0 0 0 false, errV (addQ a b)]))) :
    ∃ A c, e = .returned (.tuple #[chV A 1 c 0 0 0 false, .nilIface]) ∧ PSl w' w'.heap.size A 1 [(a, b)] ∧ Far w.heap.size A := by
  rcases h with ⟨_, h⟩ | ⟨h, _⟩
  · exact h
  · exact absurd hq.out h

theorem two_fwd {a b net : Int} {n4 : Nat} {v4 : Value} {A4 : Option Addr} {w w4 : World} (hs : Hid (Chan (a + b) 1 [(a, b)] ∧ MoneyIn a ∧ MoneyIn b ∧ a + b ≤ 1125899906842624)) (h0 : Hid (0 ≤ net)) (h1 : Hid (net ≤ a))
    (h : (v4 = .nilIface ∧ payQ 1 [(a, b)] 0 0 0 false 0 net = 0 ∧ n4 = 1 + 1 ∧ PSl w4 w4.heap.size A4 n4 (payD 1 [(a, b)] 0 net) ∧ Far w.heap.size A4) ∨ (∃ q, v4 = .iface 45 (.int .i64 q) ∧ payQ 1 [(a, b)] 0 0 0 false 0 net ≠ 0)) :
    v4 = .nilIface ∧ n4 = 1 + 1 ∧ PSl w4 w4.heap.size A4 (1 + 1) [(a, b), (a - net, b + net)] := by
  obtain ⟨hc, ma, mb, _⟩ := hs.out
  have g0 := h0.out
  have g1 := h1.out
  have hq : payQ 1 [(a, b)] 0 0 0 false 0 net = 0 := payQ_mk hc.2.1 (.inl rfl) (by unfold MoneyIn at *; omega) (by simpa [lastP] using g1) (by decide)
  have e : payD 1 [(a, b)] 0 net = [(a, b), (a - net, b + net)] := by simp [payD, paid, lastP]
  rw [e] at h
  rcases h with ⟨k0, _, rfl, k2, _⟩ | ⟨q, _, k1⟩
  · exact ⟨k0, rfl, k2⟩
  · exact absurd hq k1
theorem two_back {a b net : Int} {n4 : Nat} {v4 : Value} {A4 : Option Addr} {w w4 : World} (hs : Hid (Chan (a + b) 1 [(a, b)] ∧ MoneyIn a ∧ MoneyIn b ∧ a + b ≤ 1125899906842624)) (h0 : Hid (net < 0)) (h1 : Hid (-net ≤ b))
    (h : (v4 = .nilIface ∧ payQ 1 [(a, b)] 0 0 0 false 1 (wrap64 (-net)) = 0 ∧ n4 = 1 + 1 ∧ PSl w4 w4.heap.size A4 n4 (payD 1 [(a, b)] 1 (wrap64 (-net))) ∧ Far w.heap.size A4) ∨ (∃ q, v4 = .iface 45 (.int .i64 q) ∧ payQ 1 [(a, b)] 0 0 0 false 1 (wrap64 (-net)) ≠ 0)) :
    v4 = .nilIface ∧ n4 = 1 + 1 ∧ PSl w4 w4.heap.size A4 (1 + 1) [(a, b), (a - net, b + net)] := by
  obtain ⟨hc, ma, mb, _⟩ := hs.out
  have g0 := h0.out
  have g1 := h1.out
  have hw : wrap64 (-net) = -net := by unfold wrap64; unfold MoneyIn at mb; omega
  rw [hw] at h
  have hq : payQ 1 [(a, b)] 0 0 0 false 1 (-net) = 0 := payQ_mk hc.2.1 (.inr rfl) (by unfold MoneyIn at *; omega) (by simpa [lastP] using g1) (by decide)
  have e : payD 1 [(a, b)] 1 (-net) = [(a, b), (a - net, b + net)] := by
    simp only [payD, paid, lastP, Int.one_ne_zero, if_false, List.cons_append, List.nil_append, List.getD_cons_zero, Nat.sub_self]
    rw [show a + -net = a - net by omega, show b - -net = b + net by omega]
  rw [e] at h
  rcases h with ⟨k0, _, rfl, k2, _⟩ | ⟨q, _, k1⟩
  · exact ⟨k0, rfl, k2⟩
  · exact absurd hq k1

set_option maxHeartbeats 16000000 in
set_option maxRecDepth 100000 in
theorem nets_any (a b : Int) (zs ys : List Int) (A1 A2 : Option Addr) (n1 n2 p1 p2 : Nat) (w : World)
    (hz : ISl w w.heap.size A1 n1 zs) (hy : ISl w w.heap.size A2 n2 ys) (hn : n1 * 8 ≤ 140737488351232) :
    Calls Try.prog 3 #[.int .i64 a, .int .i64 b, .slice A1 n1 p1, .slice A2 n2 p2] w (LawPost w) := by
  go_enter Try.func3, Try.ntmps3
  go_wp2_with fail
  refine (laned_any _).mono ?_
  rintro e wl ⟨rfl, hbl⟩
  by_cases h40 : 40 < n1
  · have h40' : (40 : Int) < (n1 : Int) := by omega
    go_wp2
    go_ret
    exact ⟨rfl, hbl⟩
  have h40' : ((40 : Int) < (n1 : Int)) = False := by simp only [eq_iff_iff, iff_false]; omega
  go_wp2_with fail
  refine (new_any a b _).mono ?_
  rintro e w1 ⟨hbN, hr⟩
  have hzl := hbl.size
  have hB1 : Below w.heap.size w w1 := hbl.trans (hbN.mono hzl)
  have hzN := hbN.size
  rcases hr with ⟨hq, A0, c0, rfl, hp0, hf0⟩ | ⟨hq, rfl⟩
  rotate_left
  · rw [errV_ne hq]
    clear hq
    have HB := aside hB1
    simp only [chV]
    clear hbN hB1 hbl
    go_wp2
    go_ret
    exact ⟨rfl, HB.out.alloc HB.out.size _⟩
  have HQ := aside hq
  have HCh := aside (chan_new hq)
  clear hq
  have HP0 := aside hp0
  have HF0 := aside hf0
  have HB1 := aside hB1
  clear hbN hp0 hf0 hbl
  simp only [chV]
  go_wp2_with fail
  have DB : Below w.heap.size w w1 := hB1
  go_loopw [12, 13] (fun v12 v13 wr => ∃ (k : Nat) (net : Int) (qs : List (Int × Int)) (A : Option Addr) (n c : Nat), k ≤ n1 ∧ v13 = .int .i64 k ∧ v12 = .int .i64 net ∧ Hid (Chan (a + b) n qs) ∧ Hid (lastP n qs = (a - net, b + net)) ∧ Below w1.heap.size w1 wr ∧ w1.heap.size < wr.heap.size ∧ ChAt wr w1.heap.size A n c 0 0 0 false ∧ Hid (PSl wr wr.heap.size A n qs)) (fun _ v13 _ => n1 - (intOf v13).toNat)
  case atStart =>
    exact ⟨0, 0, [(a, b)], A0, 1, c0, Nat.zero_le _, rfl, rfl, aside HCh.out.1, aside (by simp [lastP]), (Below.refl _ _).alloc (Nat.le_refl _) _, by simp, chAt_alloc _, aside ((HP0.out.alloc (Nat.le_refl _) _).more (by simp))⟩
  case round =>
    obtain ⟨k, net, qs, A, n, c, hk, rfl, rfl, HC, HN, hb, hsz, ⟨d0, d1, d2, d3, d4, df⟩, HP⟩ := hrel
    have hbz := hb.size
    have hbW := DB.trans (hb.mono (by have := DB.size; omega))
    have l0 : w1.heap.size < wr.heap.size := hsz
    by_cases hall : k < n1 ∧ k < n2
    · obtain ⟨k1, k2⟩ := hall
      obtain ⟨b1, o1, rfl, hb1, hc1⟩ := hz.at_ k1
      obtain ⟨b2, o2, rfl, hb2, hc2⟩ := hy.at_ k2
      have x1 : wr.cell? ⟨b1, o1 + k, none⟩ = some (.int .i64 (nth zs k)) := by rw [hbW.cell (by exact hb1)]; exact hc1
      have x2 : wr.cell? ⟨b2, o2 + k, none⟩ = some (.int .i64 (nth ys k)) := by rw [hbW.cell (by exact hb2)]; exact hc2
      have i1 : (k : Int) < (n1 : Int) := by omega
      have i2 : (k : Int) < (n2 : Int) := by omega
      have i4 : (0 : Int) ≤ (k : Int) := by omega
      clear hc1 hc2
      have hsz1 := DB.size
      have m1 : b1 < wr.heap.size := by omega
      have m2 : b2 < wr.heap.size := by omega
      go_wp2_with fail
      have HS0 := kept_drew7 ⟨d0, d1, d2, d3, d4, x1, x2⟩
      have HS1 := fun c => kept_alloc_drew7 (c := c) l0 m1 m2 ⟨d0, d1, d2, d3, d4, x1, x2⟩
      go_region_held3 (fun w' => w'.cell? ⟨w1.heap.size, 0, none⟩ = some (.slice A n c) ∧ w'.cell? ⟨w1.heap.size, 1, none⟩ = some (.int .i64 0) ∧ w'.cell? ⟨w1.heap.size, 2, none⟩ = some (.int .i64 0) ∧ w'.cell? ⟨w1.heap.size, 3, none⟩ = some (.int .i64 0) ∧ w'.cell? ⟨w1.heap.size, 4, none⟩ = some (.bool false) ∧ w'.cell? ⟨b1, o1 + k, none⟩ = some (.int .i64 (nth zs k)) ∧ w'.cell? ⟨b2, o2 + k, none⟩ = some (.int .i64 (nth ys k)))
        (with_reducible (first | exact HS0 | exact HS2 | exact HS1 _ | exact kept_alloc7 y0 y1 y2 HS2 | exact kept_set7 l0 m1 m2 HS2 | exact kept_set7 y0 y1 y2 (kept_alloc7 y0 y1 y2 HS2)))
        (first | (go_at_call 9; refine (pay_open qs A n c (nth zs k) (nth ys k) _ (by first | exact PSl.drewL HP.out | exact PSl.alloc_drewL HP.out _)).mono ?_; rintro e w2 ⟨A', n', c', v', rfl, hb2, hr2⟩; simp only [chV]; (first | (with_reducible (have hbw := below_drew_allocL hb2; have nk := new_someL hb2; obtain ⟨hisn, ⟨c0, c1, c2, c3, c4⟩, cf, cl⟩ := nk)) | (have hbw := below_drewL hb2)); have kk := kept7 hbw l0 m1 m2 ⟨d0, d1, d2, d3, d4, x1, x2⟩ df; obtain ⟨HS2, y0, y1, y2, rf⟩ := kk; skip))
      all_goals (first
        | (have F : ∃ W, W = w2.alloc (.cells #[.slice A' n' c', .int .i64 0, .int .i64 0, .int .i64 0, .bool false] 26) ∧ AfterL wr W w2.heap.size A' n' c' 0 0 0 false (v' = .nilIface) (payD n qs (nth zs k) (nth ys k)) := ⟨_, rfl, afterL_alloc hbw (pay_row (by first | rfl) hr2)⟩
           obtain ⟨W, hW, F⟩ := F
           rw [← hW])
        | (have F : ∃ W, W = (((((w2.setCell ⟨wr.heap.size, 0, none⟩ (.slice A' n' c')).setCell ⟨wr.heap.size, 1, none⟩ (.int .i64 0)).setCell ⟨wr.heap.size, 2, none⟩ (.int .i64 0)).setCell ⟨wr.heap.size, 3, none⟩ (.int .i64 0)).setCell ⟨wr.heap.size, 4, none⟩ (.bool false)) ∧ AfterL wr W wr.heap.size A' n' c' 0 0 0 false (v' = .nilIface) (payD n qs (nth zs k) (nth ys k)) := ⟨_, rfl, afterL_set hbw cl hisn cf (pay_row (by first | rfl | simp) hr2)⟩
           obtain ⟨W, hW, F⟩ := F
           rw [← hW]))
      all_goals clear hW HS0 HS1 HS2
      all_goals obtain ⟨Fb, Fg, Fl, ⟨n0, n1', n2', n3', n4, nf⟩, Fr⟩ := F
      all_goals have f0 := (Fb.cell (p := ⟨w1.heap.size, 0, none⟩) l0).trans d0
      all_goals have f1 := (Fb.cell (p := ⟨w1.heap.size, 1, none⟩) l0).trans d1
      all_goals have f2 := (Fb.cell (p := ⟨w1.heap.size, 2, none⟩) l0).trans d2
      all_goals have f3 := (Fb.cell (p := ⟨w1.heap.size, 3, none⟩) l0).trans d3
      all_goals have f4 := (Fb.cell (p := ⟨w1.heap.size, 4, none⟩) l0).trans d4
      all_goals have g1 := (Fb.cell (p := ⟨b1, o1 + k, none⟩) m1).trans x1
      all_goals have g2 := (Fb.cell (p := ⟨b2, o2 + k, none⟩) m2).trans x2
      all_goals have ff : ∀ i, W.frozen? ⟨w1.heap.size, i, none⟩ = false := fun i => (Fb.frozen (p := ⟨w1.heap.size, i, none⟩) l0).trans (df i)
      all_goals have Fw := hb.trans (Fb.mono (by omega))
      all_goals have FP := aside (Sl.more (Sl.below HP.out Fb) Fb.size)
      all_goals have Fs := Fb.size
      all_goals have FI := pay_row' hr2
      all_goals clear hr2 d0 d1 d2 d3 d4 x1 x2 hb2 hbw
      all_goals have FN := net_step HC HCh HN FI
      all_goals clear FI
      all_goals have mm1 : b1 < W.heap.size := by omega
      all_goals have mm2 : b2 < W.heap.size := by omega
      all_goals have ll0 : w1.heap.size < W.heap.size := by omega
      all_goals have mn1 : b1 < w1.heap.size := by omega
      all_goals have mn2 : b2 < w1.heap.size := by omega
      all_goals rcases FN with ⟨rfl, rfl, HC2, ⟨hfr, HN2⟩ | ⟨hfr, HN2⟩⟩ | ⟨x, rfl⟩
      all_goals (try have hr2 := Fr rfl)
      all_goals clear Fr
      all_goals go_wp2
      all_goals (first
        | exact ⟨⟨k + 1, _, _, A', n + 1, c', by omega, rfl, rfl, HC2, HN2, set5_below (Nat.le_refl _) Fw, by rw [set5_sizeR]; omega, chAt_set (ChAt.some_ ⟨f0, f1, f2, f3, f4, ff⟩) ff, aside (by rw [set5_sizeR]; exact hr2.1.set5 hr2.2 l0)⟩, by simp [intOf]; omega⟩
        | exact ⟨⟨k + 1, net, qs, A, n, c, by omega, rfl, rfl, HC, HN, Fw, by omega, ⟨f0, f1, f2, f3, f4, ff⟩, FP⟩, by simp [intOf]; omega⟩)
    · have hway : (((k : Int) < (n1 : Int)) = False) ∨ (((k : Int) < (n1 : Int)) = True ∧ ((k : Int) < (n2 : Int)) = False) := by
        simp only [eq_iff_iff, iff_false, iff_true]
        omega
      clear hall
      have HBW := aside hbW
      have HSZ := aside (show w.heap.size ≤ wr.heap.size from hbW.size)
      clear hz hy hb hbW DB HB1 HP0 HF0
      obtain ⟨l1, l2, l3⟩ := HC.out.last
      rw [HN.out] at l1 l2
      obtain ⟨_, ma, mb, _⟩ := HCh.out
      have hnet : (0 ≤ net ∧ net ≤ a) ∨ (net < 0 ∧ 0 ≤ -net ∧ -net ≤ b) := by
        unfold MoneyIn at *
        simp only [] at l1 l2
        omega
      have MA := aside ma
      have MB := aside mb
      clear l1 l2 l3 ma mb
      rcases hway with i1 | ⟨i1, i2⟩
      all_goals go_wp2_with fail
      all_goals refine (new_any a b _).mono ?_
      all_goals rintro e w3 ⟨hb3, hr3⟩
      all_goals have hr3 := new_told HQ hr3
      all_goals obtain ⟨A3, c3, rfl, hp3, -⟩ := hr3
      all_goals simp only [chV]
      all_goals have hz3 := hb3.size
      all_goals have l3 : w1.heap.size < w3.heap.size := by omega
      all_goals have e0 := (hb3.cell (p := ⟨w1.heap.size, 0, none⟩) l0).trans d0
      all_goals have HB3 := aside (HBW.out.trans (hb3.mono HSZ.out))
      all_goals have HP3 := aside (Sl.more (Sl.below HP.out hb3) hz3)
      all_goals have HQ3 := aside hp3
      all_goals clear d0 d1 d2 d3 d4 df hb3 hp3
      all_goals rcases hnet with ⟨hn0, hn1⟩ | ⟨hn0, hn1, hn2⟩
      all_goals go_wp2_with fail
      all_goals refine (pay_open [(a, b)] A3 1 c3 _ _ _ ((HQ3.out.alloc (Nat.le_refl _) _).more (by simp))).mono ?_
      all_goals rintro e w4 ⟨A4, n4, c4, v4, rfl, hb4, hr4⟩
      all_goals have hr4 := (by first | exact two_fwd HCh (aside hn0) (aside hn1) hr4 | exact two_back HCh (aside hn0) (aside hn2) hr4)
      all_goals obtain ⟨rfl, rfl, hp4⟩ := hr4
      all_goals obtain ⟨b4, o4, rfl, lt4, x0, x1⟩ := hp4.at_ (k := 1) (by decide)
      all_goals obtain ⟨j, hnj⟩ : ∃ j, n = j + 1 := ⟨n - 1, by have := HC.out.all.1; omega⟩
      all_goals have HNJ := aside hnj
      all_goals obtain ⟨b5, o5, rfl, lt5, y0, y1⟩ := PSl.at_ HP3.out (k := j) (by omega)
      all_goals have hj : qs.getD j (0, 0) = (a - net, b + net) := by have h := HN.out; unfold lastP at h; rw [hnj] at h; exact h
      all_goals rw [hj] at y0 y1
      all_goals simp only [chV]
      all_goals have hz4 := hb4.size
      all_goals simp only [World.size_alloc] at hz4
      all_goals have q0 := (hb4.cell (p := ⟨w1.heap.size, 0, none⟩) (by simp; omega)).trans ((World.cell?_alloc_lt _ _ ⟨w1.heap.size, 0, none⟩ l3).trans e0)
      all_goals have z0 := (hb4.cell (p := ⟨b5, o5 + j * 2, none⟩) (by simp; omega)).trans ((World.cell?_alloc_lt _ _ ⟨b5, o5 + j * 2, none⟩ lt5).trans y0)
      all_goals have z1 := (hb4.cell (p := ⟨b5, o5 + j * 2 + 1, none⟩) (by simp; omega)).trans ((World.cell?_alloc_lt _ _ ⟨b5, o5 + j * 2 + 1, none⟩ lt5).trans y1)
      all_goals have HB4 := aside (HB3.out.trans ((Below.refl _ _).alloc (by have := HSZ.out; omega) _ |>.trans (hb4.mono (by simp; have := HSZ.out; omega))))
      all_goals have l4 : w1.heap.size < w4.heap.size := by omega
      all_goals have l5 : b5 < w4.heap.size := by omega
      all_goals have hpe := pair_eq
      all_goals have ws : IntKind.i64.wrap ((n : Int) - 1) = (j : Int) := by rw [IntKind.wrap_i64]; have := HC.out.all.2.1; omega
      all_goals have ws' : wrap64 ((n : Int) - 1) = (j : Int) := by unfold wrap64; have := HC.out.all.2.1; omega
      all_goals simp only [List.getD_cons_succ, List.getD_cons_zero] at x0 x1
      all_goals have i7 : (0 : Int) ≤ (j : Int) := by omega
      all_goals have i8 : (j : Int) < (n : Int) := by omega
      all_goals clear hb4 e0 y0 y1 hp4 hj hnj
      all_goals go_wp2_with fail
      all_goals (have hV : ∃ V, V = w4.alloc (.cells #[.slice (some ⟨b4, o4, none⟩) 2 c4, .int .i64 0, .int .i64 0, .int .i64 0, .bool false] 26) := ⟨_, rfl⟩)
      all_goals obtain ⟨V, hV⟩ := hV
      all_goals have u0 : V.cell? ⟨w4.heap.size, 0, none⟩ = some (.slice (some ⟨b4, o4, none⟩) 2 c4) := by rw [hV]; exact World.cell?_alloc_at _ _ _ _ rfl
      all_goals have u1 : V.cell? ⟨w1.heap.size, 0, none⟩ = some (.slice (some ⟨b5, o5, none⟩) n c) := by rw [hV]; exact (World.cell?_alloc_lt _ _ ⟨w1.heap.size, 0, none⟩ l4).trans q0
      all_goals have u2 := (World.cell?_alloc_lt w4 (.cells #[.slice (some ⟨b4, o4, none⟩) 2 c4, .int .i64 0, .int .i64 0, .int .i64 0, .bool false] 26) ⟨b4, o4 + 1 * 2, none⟩ lt4).trans x0
      all_goals have u3 := (World.cell?_alloc_lt w4 (.cells #[.slice (some ⟨b4, o4, none⟩) 2 c4, .int .i64 0, .int .i64 0, .int .i64 0, .bool false] 26) ⟨b4, o4 + 1 * 2 + 1, none⟩ lt4).trans x1
      all_goals have u4 := (World.cell?_alloc_lt w4 (.cells #[.slice (some ⟨b4, o4, none⟩) 2 c4, .int .i64 0, .int .i64 0, .int .i64 0, .bool false] 26) ⟨b5, o5 + j * 2, none⟩ l5).trans z0
      all_goals have u5 := (World.cell?_alloc_lt w4 (.cells #[.slice (some ⟨b4, o4, none⟩) 2 c4, .int .i64 0, .int .i64 0, .int .i64 0, .bool false] 26) ⟨b5, o5 + j * 2 + 1, none⟩ l5).trans z1
      all_goals rw [← hV] at u2 u3 u4 u5
      all_goals have BV := aside (show Below w.heap.size w V by rw [hV]; exact HB4.out.alloc HB4.out.size _)
      all_goals simp only [Nat.one_mul] at u2 u3
      all_goals rw [← hV]
      all_goals clear hV q0 z0 z1 x0 x1
      all_goals go_quiet (fail)
      all_goals go_wp2
      all_goals go_ret
      all_goals exact ⟨by first | rfl | simp, ⟨BV.out.os, BV.out.tape, BV.out.output, BV.out.size, BV.out.block⟩⟩

/-- What the law's arguments are. -/
theorem laneNets_walk {H : Type} {enc : TypeId × Value → H} (W : World) (args : Array Value) (ds : List (DataW H)) (ps : List MemPlace)
    (h : LawPre enc Try.prog Try.f3 W args ds ps) : Calls Try.prog 3 args W (LawPost W) := by
  obtain ⟨hA, ⟨base, hval⟩, hlt, hsz⟩ := h
  rw [Try.params3] at hA hval hsz
  obtain ⟨v0, v1, v2, v3, d0, d1, d2, d3, p0, p1, p2, p3, rfl, rfl, rfl, h0, h1, h2, h3⟩ := trodAll_four hA
  obtain ⟨a, rfl, rfl, rfl, _⟩ := open_int Try.underlying3 (hval 0 _ v0 rfl rfl) h0
  obtain ⟨b, rfl, rfl, rfl, _⟩ := open_int Try.underlying3 (hval 1 _ v1 rfl rfl) h1
  obtain ⟨A1, n1, c1, zs, rfl, hc1, _, hs1, _, hx1⟩ := open_intSlice (hval 2 _ v2 rfl rfl) h2 (fun x hx => hlt x (by simp [hx]))
  obtain ⟨A2, n2, c2, ys, rfl, hc2, _, hs2, _, _⟩ := open_intSlice (hval 3 _ v3 rfl rfl) h3 (fun x hx => hlt x (by simp [hx]))
  exact nets_any a b zs ys A1 A2 n1 n2 c1 c2 W hs1 hs2 (reach_ints hsz (j := 2) rfl rfl Try.underlying22 (by kernel_rfl) hx1)

set_option maxRecDepth 100000 in
theorem laneNets_lifted (os : Os) (started : os.Started) (H : Type) (enc : TypeId × Value → H) :
    ReturnsInHanded {} Try.checked os 3 .any (Rows.laneNetsSpec.pre6 enc Try.prog Try.f3 Rows.laneNetsRow.domain false) (Rows.laneNetsSpec.post enc Try.prog Try.f3 false true false false) :=
  law_lifted (C := Try.checked) (B := 4) (n := 4) Try.own started (by kernel_rfl) Try.func3
      (ChangeSpec.witness6 (enc := enc) (C := Try.checked) false ⟨#[], #[.int .i64 0, .int .i64 0, .slice none 0 0, .slice none 0 0], []⟩ 8 (by kernel_rfl) (by kernel_rfl) (by kernel_rfl) (by kernel_rfl))
      rfl Try.underlying4 (by kernel_rfl) Try.laidOut (by kernel_rfl) (by kernel_rfl) (fun ds h => by match ds, h with | [a, b, c, d], _ => rfl) laneNets_walk

/-- The statement. -/
theorem LaneNets_holds : Rows.LaneNetsSaid :=
  OpenClaim.holds_of_wide 3 Try.f3 rfl rfl rfl rfl rfl rfl rfl ⟨rfl, rfl, rfl, rfl, rfl⟩ rfl rfl rfl rfl rfl (by kernel_rfl) Try.func3 (by kernel_rfl)
    (of_decide_eq_true (by kernel_rfl)) (by unfold Func.isWrapper; first | (rw [if_pos (by decide +kernel)]; kernel_rfl) | (rw [if_neg (by decide +kernel)]; exact ⟨rfl, rfl⟩))
    (fun os started H enc _ => laneNets_lifted os started H enc)
#print axioms LaneNets_holds
end Go.Proofs.Ytpkclbemgmaahaa
