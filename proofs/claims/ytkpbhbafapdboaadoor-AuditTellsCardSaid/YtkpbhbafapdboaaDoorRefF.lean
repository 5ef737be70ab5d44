/- The reference's numbers: halves, money, sums, sizes: the walk. Conditions: named in each theorem. -/
import Derived.Test.YtkpbhbafapdboaaDoorAudD
import Derived.Test.YtkpbhbafapdboaaDoorRefE
namespace Go.Proofs.YtkpbhbafapdboaaDoor
open Go.RowKit Go.ChangeShapes Go.WideShapes Go.ChangeAt

theorem half_pow : ∀ n, n < 257 → ∀ j, j < 9 → 2 ^ j < n → n ≤ 2 * 2 ^ j → 2 ^ j = halfN n := by decide +kernel
theorem pow_lt9 {j n : Nat} (h : 2 ^ j < n) (hn : n ≤ 256) : j < 9 := by
  refine Nat.lt_of_not_le fun h9 => ?_
  have := Nat.pow_le_pow_right (n := 2) (by decide) h9
  omega
set_option maxHeartbeats 1000000 in
theorem rhalf_any (n : Nat) (h : 2 ≤ n) (hn : n ≤ 256) (w : World) : Calls Tryd.prog 25 #[.int .i64 n] w (fun e w' => e = .returned (.int .i64 (halfN n : Nat)) ∧ w' = w) := by
  go_enter Tryd.func25, Tryd.ntmps25
  go_wp2_with fail
  go_loop [3] (fun v3 => ∃ (k : Nat), v3 = .int .i64 k ∧ 1 ≤ k ∧ k < n ∧ Hid (∃ j, k = 2 ^ j)) (fun v3 => n - (Go.RowKit.intOf v3).toNat)
  case atStart => exact ⟨1, rfl, by omega, by omega, aside ⟨0, rfl⟩⟩
  case round =>
    obtain ⟨k, rfl, hk1, hk, HJ⟩ := hrel
    by_cases k1 : 2 * k < n
    · have k1' : (2 : Int) * (k : Int) < (n : Int) := by omega
      go_wp2_with fail
      exact ⟨⟨2 * k, by go_num, by omega, k1, aside (by obtain ⟨j, hj⟩ := HJ.out; exact ⟨j + 1, by rw [Nat.pow_succ, ← hj]; omega⟩)⟩, by simp [Go.RowKit.intOf]; omega⟩
    · have k1' : ((2 : Int) * (k : Int) < (n : Int)) = False := by simp only [eq_iff_iff, iff_false]; omega
      have HE : Hid (halfN n = k) := aside (by
        obtain ⟨j, hj⟩ := HJ.out
        subst hj
        exact (half_pow n (by omega) j (pow_lt9 hk hn) hk (by omega)).symm)
      go_wp2_with fail
      go_ret
      exact ⟨by rw [HE.out]; rfl, rfl⟩
theorem money_any (a : Int) (w : World) : Calls Tryd.prog 12 #[.int .i64 a] w (fun e w' => e = .returned (.bool (decide (Mny a))) ∧ w' = w) := by
  by_cases h : Mny a
  · have hd : decide (Mny a) = true := decide_eq_true h
    have e1 : ((0 : Int) ≤ a) = True := by simp only [eq_iff_iff, iff_true]; exact h.1
    have e2 : (a ≤ (1125899906842624 : Int)) = True := by simp only [eq_iff_iff, iff_true]; exact h.2
    rw [hd]
    clear h hd
    go_enter Tryd.func12, Tryd.ntmps12
    go_wp2_with fail
    go_ret
    exact ⟨by simp, rfl⟩
  · have hd : decide (Mny a) = false := decide_eq_false h
    rw [hd]
    unfold Mny at h
    by_cases e1 : a < 0
    · have e2 : ((0 : Int) ≤ a) = False := by simp only [eq_iff_iff, iff_false]; omega
      clear h hd
      go_enter Tryd.func12, Tryd.ntmps12
      go_wp2_with fail
      go_ret
      exact ⟨by simp, rfl⟩
    · have e2 : ((0 : Int) ≤ a) = True := by simp only [eq_iff_iff, iff_true]; omega
      have e3 : (a ≤ (1125899906842624 : Int)) = False := by simp only [eq_iff_iff, iff_false]; omega
      clear h hd e1
      go_enter Tryd.func12, Tryd.ntmps12
      go_wp2_with fail
      go_ret
      exact ⟨by simp, rfl⟩
theorem money_yes (a : Int) (h : Mny a) (w : World) : Calls Tryd.prog 12 #[.int .i64 a] w (fun e w' => e = .returned (.bool true) ∧ w' = w) := by
  have := money_any a w
  rwa [decide_eq_true h] at this
theorem money_no (a : Int) (h : ¬ Mny a) (w : World) : Calls Tryd.prog 12 #[.int .i64 a] w (fun e w' => e = .returned (.bool false) ∧ w' = w) := by
  have := money_any a w
  rwa [decide_eq_false h] at this

/-- What the reference's sum of two tells. -/
def addU (a b : Int) : Value := .tuple #[.int .i64 (if addQ a b = 0 then a + b else 0), .int .i64 (addQ a b)]
set_option maxRecDepth 100000 in
set_option maxHeartbeats 1000000 in
theorem total_two (a b : Int) (g : Nat) (w : World) (h0 : w.cell? ⟨g, 0, none⟩ = some (.int .i64 a)) (h1 : w.cell? ⟨g, 1, none⟩ = some (.int .i64 b)) :
    Calls Tryd.prog 35 #[.slice (some ⟨g, 0, none⟩) 2 2] w (fun e w' => e = .returned (addU a b) ∧ w' = w) := by
  by_cases ha : Mny a
  rotate_left
  · have hq : addU a b = .tuple #[.int .i64 0, .int .i64 2] := by simp [addU, addQ, ha]
    rw [hq]
    have HA := aside ha
    clear ha hq
    go_enter Tryd.func35, Tryd.ntmps35
    go_wp2_with fail
    refine wp_loop_rounds 1 ?_
    rw [rounds_succ]
    go_wp2_with (first | (go_at_call 12; refine (money_no a HA.out _).mono ?_; rintro e w' ⟨rfl, rfl⟩) | fail)
    go_ret2
    exact ⟨rfl, rfl⟩
  have b1 : 0 ≤ a := ha.1
  have b2 : a ≤ 1125899906842624 := ha.2
  have e2 : ((1125899906842624 : Int) < a) = False := by simp only [eq_iff_iff, iff_false]; omega
  by_cases hb : Mny b
  rotate_left
  · have hq : addU a b = .tuple #[.int .i64 0, .int .i64 2] := by simp [addU, addQ, ha, hb]
    rw [hq]
    have HA := aside ha
    have HB := aside hb
    clear ha hq hb
    go_enter Tryd.func35, Tryd.ntmps35
    go_wp2_with fail
    refine wp_loop_rounds 2 ?_
    rw [rounds_succ]
    go_wp2_with (first | (go_at_call 12; refine (money_yes a HA.out _).mono ?_; rintro e w' ⟨rfl, rfl⟩) | fail)
    rw [rounds_succ]
    go_wp2_with (first | (go_at_call 12; refine (money_no b HB.out _).mono ?_; rintro e w' ⟨rfl, rfl⟩) | fail)
    go_ret2
    exact ⟨rfl, rfl⟩
  have b3 : 0 ≤ b := hb.1
  have b4 : b ≤ 1125899906842624 := hb.2
  by_cases hs : 1125899906842624 < a + b
  · have hq : addU a b = .tuple #[.int .i64 0, .int .i64 4] := by simp [addU, addQ, ha, hb, hs]
    rw [hq]
    have HA := aside ha
    have HB := aside hb
    clear ha hq hb
    go_enter Tryd.func35, Tryd.ntmps35
    go_wp2_with fail
    refine wp_loop_rounds 2 ?_
    rw [rounds_succ]
    go_wp2_with (first | (go_at_call 12; refine (money_yes a HA.out _).mono ?_; rintro e w' ⟨rfl, rfl⟩) | fail)
    rw [rounds_succ]
    go_wp2_with (first | (go_at_call 12; refine (money_yes b HB.out _).mono ?_; rintro e w' ⟨rfl, rfl⟩) | fail)
    go_ret2
    exact ⟨rfl, rfl⟩
  · have hq : addU a b = .tuple #[.int .i64 (a + b), .int .i64 0] := by simp [addU, addQ, ha, hb, hs]
    rw [hq]
    have e3 : ((1125899906842624 : Int) < a + b) = False := by simp only [eq_iff_iff, iff_false]; exact hs
    have HA := aside ha
    have HB := aside hb
    clear ha hq hb hs
    go_enter Tryd.func35, Tryd.ntmps35
    go_wp2_with fail
    refine wp_loop_rounds 3 ?_
    rw [rounds_succ]
    go_wp2_with (first | (go_at_call 12; refine (money_yes a HA.out _).mono ?_; rintro e w' ⟨rfl, rfl⟩) | fail)
    rw [rounds_succ]
    go_wp2_with (first | (go_at_call 12; refine (money_yes b HB.out _).mono ?_; rintro e w' ⟨rfl, rfl⟩) | fail)
    rw [rounds_succ]
    go_wp2
    go_ret2
    exact ⟨rfl, rfl⟩

theorem putL_big {n d : Nat} (hd : d = 2 ∨ d = 4 ∨ d = 8) : putL n d = bigL n d := by
  rcases hd with rfl | rfl | rfl <;> simp [putL, putK, bigL, List.range, List.range.loop]
set_option maxHeartbeats 1000000 in
theorem sbytes_any (n : Nat) (hn : n < 9223372036854775808) (w : World) : Calls Tryd.prog 30 #[.int .i64 n] w (fun e w' => ∃ G m c, e = .returned (.slice G m c) ∧ YSl w' w'.heap.size G m (sizeL n) ∧ Below w.heap.size w w') := by
  by_cases h : n < 253
  · have HS : Hid (sizeL n = [n]) := aside (by simp [sizeL, headN, wideN, h, bigL])
    have e0 : ((n : Int) < 253) = True := by simp only [eq_iff_iff, iff_true]; omega
    have e1 : IntKind.u8.wrap (n : Int) = (n : Int) := by rw [IntKind.wrap_u8]; omega
    go_enter Tryd.func30, Tryd.ntmps30
    go_wp2_with fail
    go_ret
    refine ⟨_, 1, _, rfl, ?_, (Below.refl _ _).alloc (Nat.le_refl _) _⟩
    rw [HS.out]
    exact Sl.own (row_one _ _)
  · obtain ⟨d, hd, hd1, hc, hc0⟩ : ∃ d, wideN n = d ∧ (d = 2 ∨ d = 4 ∨ d = 8) ∧ sizeL n = headN n :: bigL n d ∧ 0 < d := by
      rcases wideN_cases n with ⟨h1, e⟩ | ⟨h1, e⟩ | ⟨h1, e⟩ | ⟨h1, e⟩
      · omega
      · exact ⟨2, e, by decide, by simp [sizeL, e], by decide⟩
      · exact ⟨4, e, by decide, by simp [sizeL, e], by decide⟩
      · exact ⟨8, e, by decide, by simp [sizeL, e], by decide⟩
    have hh : headN n = 252 + (if d = 2 then 1 else if d = 4 then 2 else 3) := by
      unfold headN; rw [hd]; rcases hd1 with rfl | rfl | rfl <;> rfl
    have HC := aside hc
    have HD := aside hd
    have HH := aside hh
    have H2 := aside (ones (bigL n d))
    have HP : Hid (putL n d = bigL n d) := aside (putL_big hd1)
    have HL : Hid ((bigL n d).length = d) := aside (bigL_len (.inr hd1))
    have e0 : ((n : Int) < 253) = False := by simp only [eq_iff_iff, iff_false]; omega
    have hw : wideN n = d := hd
    unfold wideN at hw
    clear hc hd hh
    rcases hd1 with rfl | rfl | rfl
    case inl =>
      have n1 : n ≤ 65535 := by
        by_cases q : n < 65536
        · omega
        · rw [if_neg h, if_neg q] at hw; split at hw <;> omega
      have e2 : ((n : Int) > 65535) = False := by simp only [eq_iff_iff, iff_false]; omega
      have e3 : ((n : Int) > 4294967295) = False := by simp only [eq_iff_iff, iff_false]; omega
      clear hw n1 h
      go_enter Tryd.func30, Tryd.ntmps30
      go_upto_region 12 with (first
        | (go_at_call 40; refine (put_any n 2 hn (by decide) _).mono ?_; rintro e w4 ⟨rfl, hr4, hb4, hz4⟩)
        | fail)
      rw [HP.out] at hr4
      have HYl : Hid (YSl w4 w4.heap.size (some ⟨w.heap.size, 0, none⟩) 2 (bigL n 2)) := aside (RowY.ysl hr4)
      have HB4 := aside hb4
      clear hr4 hb4 hz4
      go_wp2_with (first
        | (at_builtin; refine wpList_concat rfl (.tmp 23) (.tmp 24) 59 rfl w4.heap.size (.int .u8 0) 1 1 Tryd.underlying59 byteInfo rfl (by decide) _ 1 ([253].flatMap byV) rfl (row_one w4 253) w4.heap.size _ 2 2 _ rfl (Sl.alloc HYl.out (Nat.le_refl _) _) H2.out (by omega) (by unfold maxLen; omega) (by simp) ?_; intro G5 c5 w5 hc5 hc5' hown hb5 hg5; have HO5 : Hid (YRow w5 w4.heap.size (.slice G5 (1 + 2) c5) (1 + 2) ([253] ++ bigL n 2)) := aside (yrow_concat rfl hown); have HB5 : Hid (Below w4.heap.size w4 w5) := aside (((Below.refl _ _).alloc (Nat.le_refl _) _).trans hb5); clear hown hb5 hg5)
        | fail)
      go_ret
      refine ⟨G5, 1 + 2, c5, rfl, ?_, HB4.out.trans (HB5.out.mono HB4.out.size)⟩
      rw [HC.out, HH.out]
      exact Sl.own HO5.out
    case inr.inl =>
      have n1 : 65535 < n ∧ n ≤ 4294967295 := by
        by_cases q : n < 65536
        · rw [if_neg h, if_pos q] at hw; omega
        · by_cases q2 : n < 4294967296
          · omega
          · rw [if_neg h, if_neg q, if_neg q2] at hw; omega
      have e2 : ((n : Int) > 65535) = True := by simp only [eq_iff_iff, iff_true]; omega
      have e3 : ((n : Int) > 4294967295) = False := by simp only [eq_iff_iff, iff_false]; omega
      clear hw n1 h
      go_enter Tryd.func30, Tryd.ntmps30
      go_upto_region 12 with (first
        | (go_at_call 40; refine (put_any n 4 hn (by decide) _).mono ?_; rintro e w4 ⟨rfl, hr4, hb4, hz4⟩)
        | fail)
      rw [HP.out] at hr4
      have HYl : Hid (YSl w4 w4.heap.size (some ⟨w.heap.size, 0, none⟩) 4 (bigL n 4)) := aside (RowY.ysl hr4)
      have HB4 := aside hb4
      clear hr4 hb4 hz4
      go_wp2_with (first
        | (at_builtin; refine wpList_concat rfl (.tmp 23) (.tmp 24) 59 rfl w4.heap.size (.int .u8 0) 1 1 Tryd.underlying59 byteInfo rfl (by decide) _ 1 ([254].flatMap byV) rfl (row_one w4 254) w4.heap.size _ 4 4 _ rfl (Sl.alloc HYl.out (Nat.le_refl _) _) H2.out (by omega) (by unfold maxLen; omega) (by simp) ?_; intro G5 c5 w5 hc5 hc5' hown hb5 hg5; have HO5 : Hid (YRow w5 w4.heap.size (.slice G5 (1 + 4) c5) (1 + 4) ([254] ++ bigL n 4)) := aside (yrow_concat rfl hown); have HB5 : Hid (Below w4.heap.size w4 w5) := aside (((Below.refl _ _).alloc (Nat.le_refl _) _).trans hb5); clear hown hb5 hg5)
        | fail)
      go_ret
      refine ⟨G5, 1 + 4, c5, rfl, ?_, HB4.out.trans (HB5.out.mono HB4.out.size)⟩
      rw [HC.out, HH.out]
      exact Sl.own HO5.out
    case inr.inr =>
      have n1 : 4294967295 < n := by
        by_cases q : n < 65536
        · rw [if_neg h, if_pos q] at hw; omega
        · by_cases q2 : n < 4294967296
          · rw [if_neg h, if_neg q, if_pos q2] at hw; omega
          · omega
      have e2 : ((n : Int) > 65535) = True := by simp only [eq_iff_iff, iff_true]; omega
      have e3 : ((n : Int) > 4294967295) = True := by simp only [eq_iff_iff, iff_true]; omega
      clear hw n1 h
      go_enter Tryd.func30, Tryd.ntmps30
      go_upto_region 12 with (first
        | (go_at_call 40; refine (put_any n 8 hn (by decide) _).mono ?_; rintro e w4 ⟨rfl, hr4, hb4, hz4⟩)
        | fail)
      rw [HP.out] at hr4
      have HYl : Hid (YSl w4 w4.heap.size (some ⟨w.heap.size, 0, none⟩) 8 (bigL n 8)) := aside (RowY.ysl hr4)
      have HB4 := aside hb4
      clear hr4 hb4 hz4
      go_wp2_with (first
        | (at_builtin; refine wpList_concat rfl (.tmp 23) (.tmp 24) 59 rfl w4.heap.size (.int .u8 0) 1 1 Tryd.underlying59 byteInfo rfl (by decide) _ 1 ([255].flatMap byV) rfl (row_one w4 255) w4.heap.size _ 8 8 _ rfl (Sl.alloc HYl.out (Nat.le_refl _) _) H2.out (by omega) (by unfold maxLen; omega) (by simp) ?_; intro G5 c5 w5 hc5 hc5' hown hb5 hg5; have HO5 : Hid (YRow w5 w4.heap.size (.slice G5 (1 + 8) c5) (1 + 8) ([255] ++ bigL n 8)) := aside (yrow_concat rfl hown); have HB5 : Hid (Below w4.heap.size w4 w5) := aside (((Below.refl _ _).alloc (Nat.le_refl _) _).trans hb5); clear hown hb5 hg5)
        | fail)
      go_ret
      refine ⟨G5, 1 + 8, c5, rfl, ?_, HB4.out.trans (HB5.out.mono HB4.out.size)⟩
      rw [HC.out, HH.out]
      exact Sl.own HO5.out
end Go.Proofs.YtkpbhbafapdboaaDoor
