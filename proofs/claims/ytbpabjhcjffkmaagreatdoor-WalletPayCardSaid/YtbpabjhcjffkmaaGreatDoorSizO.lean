/- A number's bytes as a row of the call's own; bytes with how many they are. Conditions: named in each theorem. -/
import Derived.Test.YtbpabjhcjffkmaaGreatDoorCopB
import Derived.Test.YtbpabjhcjffkmaaGreatDoorRefN
namespace Go.Proofs.YtbpabjhcjffkmaaGreatDoor
open Go.RowKit Go.ChangeShapes Go.WideShapes Go.ChangeAt

set_option maxHeartbeats 4000000 in
set_option maxRecDepth 100000 in
theorem size_own (n : Nat) (hn : n < 9223372036854775808) (w : World) : Calls Tryz.prog 115 #[.int .i64 n] w (fun e w' => ∃ v, e = .returned v ∧ BRow w' w.heap.size v (sizeL n) ∧ Below w.heap.size w w') := by
 rcases wideN_cases n with ⟨h, e⟩ | ⟨h, e⟩ | ⟨h, e⟩ | ⟨h, e⟩
 case inl =>
  have HS : Hid (sizeL n = [n]) := aside (by simp [sizeL, headN, e, bigL])
  have HE := aside e
  have e1 : IntKind.u8.wrap (n : Int) = (n : Int) := by rw [IntKind.wrap_u8]; omega
  have hW := wide_any n
  rw [e] at hW
  have HW := aside hW
  clear e hW
  go_enter Tryz.func115, Tryz.ntmps115
  go_wp2_with (first
   | (go_at_call 134; refine (HW.out _).mono ?_; rintro e w' ⟨rfl, rfl⟩)
   | fail)
  go_ret
  refine ⟨_, rfl, ?_, (Below.refl _ _).alloc (Nat.le_refl _) _⟩
  rw [HS.out]
  exact BRow.of (row_one _ _)
 case inr.inl =>
  have HS : Hid (sizeL n = 253 :: bigL n 2) := aside (by simp [sizeL, headN, e])
  have hW := wide_any n
  rw [e] at hW
  have HW := aside hW
  clear e hW
  go_enter Tryz.func115, Tryz.ntmps115
  go_upto_region 11 with (first
   | (go_at_call 134; refine (HW.out _).mono ?_; rintro e w' ⟨rfl, rfl⟩; obtain ⟨w, hw⟩ : ∃ w, w = w' := ⟨_, rfl⟩; subst hw)
   | fail)
  have HO1 : Hid (YRow (w.alloc (.cells #[.int .u8 ((253 : Nat) : Int)] 5)) w.heap.size (.slice (some ⟨w.heap.size, 0, none⟩) 1 1) 1 [253]) := aside (row_one w 253)
  have HB1 : Hid (Below w.heap.size w (w.alloc (.cells #[.int .u8 ((253 : Nat) : Int)] 5))) := aside ((Below.refl _ _).alloc (Nat.le_refl _) _)
  change Code.wp _ _ _ _ (w.alloc (.cells #[.int .u8 ((253 : Nat) : Int)] 5))
  generalize (w.alloc (.cells #[.int .u8 ((253 : Nat) : Int)] 5)) = w1 at HO1 HB1 ⊢
  go_loopw [4, 5] (fun x4 x5 wr => ∃ (k m : Nat) (A : Option Addr) (c : Nat), k ≤ 2 ∧ m = 1 + k ∧ x4 = .slice A m c ∧ x5 = .int .i64 (2 - 1 - k) ∧ Hid (YRow wr w.heap.size (.slice A m c) m ([253] ++ (bigL n 2).take k)) ∧ Hid (Below w.heap.size w wr)) (fun x4 _ _ => 1 + 2 - lenV x4)
  case atStart => exact ⟨0, 1, _, 1, by omega, rfl, rfl, rfl, HO1, HB1⟩
  case round =>
   clear HO1 HB1
   obtain ⟨k, m, A, c, hk, hm, rfl, rfl, HO, HB⟩ := hrel
   have Hm := aside hm
   have hm9 : m ≤ 9 := by omega
   clear hm
   by_cases k8 : k < 2
   ·obtain ⟨x, hx⟩ : ∃ x, x = (bigL n 2).getD k 0 := ⟨_, rfl⟩
    have HX := aside hx
    obtain ⟨k2, hk2⟩ : ∃ k2, k2 = k + 1 := ⟨_, rfl⟩
    have HTk : Hid ((bigL n 2).take k2 = (bigL n 2).take k ++ [x]) := aside (by rw [hx, hk2]; exact take_next 0 (by rw [bigL_len (by decide)]; exact k8))
    have HK2 := aside hk2
    clear hx hk2
    rcases (show k = 0 ∨ k = 1 by omega) with rfl | rfl
    all_goals
     clear k8 hk
     go_wp2_with (first
      | (at_builtin; refine wpList_push rfl (.tmp 35) (.tmp 41) 67 rfl w.heap.size (.int .u8 0) 1 1 Tryz.underlying67 byteInfo rfl (by decide) _ m _ rfl rfl rfl (by simp [Value.oneCell']) HO.out (by omega) (by unfold maxLen; omega) HB.out.size ?_; intro G6 c6 w6 hc6 hc6' hown hb6 hz6 hg6; have HO6 := aside (YRow.push (x := x) (by have hx := HX.out; simp only [bigL, List.getD_cons_succ, List.getD_cons_zero] at hx; simp only [hx]; first | omega | (rw [IntKind.wrap_u8]; omega)) rfl hown); have HB6 := aside (HB.out.trans hb6); clear hown hb6 hg6 hz6)
      | fail)
     have hm := Hm.out
     have hk2 := HK2.out
     refine ⟨⟨k2, m + 1, G6, c6, by omega, by omega, rfl, ?_, aside ?_, HB6⟩, by show 1 + 2 - (m + 1) < 1 + 2 - m; omega⟩
     ·rw [hk2]
      rfl
     ·rw [HTk.out, ← List.append_assoc]
      exact HO6.out
   ·obtain rfl : k = 2 := by omega
    clear k8 hk
    go_wp2_with fail
    go_ret
    refine ⟨_, rfl, ?_, HB.out⟩
    rw [HS.out]
    have h := HO.out
    rw [List.take_of_length_le (Nat.le_of_eq (bigL_len (by decide)))] at h
    exact BRow.of h
 case inr.inr.inl =>
  have HS : Hid (sizeL n = 254 :: bigL n 4) := aside (by simp [sizeL, headN, e])
  have hW := wide_any n
  rw [e] at hW
  have HW := aside hW
  clear e hW
  go_enter Tryz.func115, Tryz.ntmps115
  go_upto_region 11 with (first
   | (go_at_call 134; refine (HW.out _).mono ?_; rintro e w' ⟨rfl, rfl⟩; obtain ⟨w, hw⟩ : ∃ w, w = w' := ⟨_, rfl⟩; subst hw)
   | fail)
  have HO1 : Hid (YRow (w.alloc (.cells #[.int .u8 ((254 : Nat) : Int)] 5)) w.heap.size (.slice (some ⟨w.heap.size, 0, none⟩) 1 1) 1 [254]) := aside (row_one w 254)
  have HB1 : Hid (Below w.heap.size w (w.alloc (.cells #[.int .u8 ((254 : Nat) : Int)] 5))) := aside ((Below.refl _ _).alloc (Nat.le_refl _) _)
  change Code.wp _ _ _ _ (w.alloc (.cells #[.int .u8 ((254 : Nat) : Int)] 5))
  generalize (w.alloc (.cells #[.int .u8 ((254 : Nat) : Int)] 5)) = w1 at HO1 HB1 ⊢
  go_loopw [4, 5] (fun x4 x5 wr => ∃ (k m : Nat) (A : Option Addr) (c : Nat), k ≤ 4 ∧ m = 1 + k ∧ x4 = .slice A m c ∧ x5 = .int .i64 (4 - 1 - k) ∧ Hid (YRow wr w.heap.size (.slice A m c) m ([254] ++ (bigL n 4).take k)) ∧ Hid (Below w.heap.size w wr)) (fun x4 _ _ => 1 + 4 - lenV x4)
  case atStart => exact ⟨0, 1, _, 1, by omega, rfl, rfl, rfl, HO1, HB1⟩
  case round =>
   clear HO1 HB1
   obtain ⟨k, m, A, c, hk, hm, rfl, rfl, HO, HB⟩ := hrel
   have Hm := aside hm
   have hm9 : m ≤ 9 := by omega
   clear hm
   by_cases k8 : k < 4
   ·obtain ⟨x, hx⟩ : ∃ x, x = (bigL n 4).getD k 0 := ⟨_, rfl⟩
    have HX := aside hx
    obtain ⟨k2, hk2⟩ : ∃ k2, k2 = k + 1 := ⟨_, rfl⟩
    have HTk : Hid ((bigL n 4).take k2 = (bigL n 4).take k ++ [x]) := aside (by rw [hx, hk2]; exact take_next 0 (by rw [bigL_len (by decide)]; exact k8))
    have HK2 := aside hk2
    clear hx hk2
    rcases (show k = 0 ∨ k = 1 ∨ k = 2 ∨ k = 3 by omega) with rfl | rfl | rfl | rfl
    all_goals
     clear k8 hk
     go_wp2_with (first
      | (at_builtin; refine wpList_push rfl (.tmp 35) (.tmp 41) 67 rfl w.heap.size (.int .u8 0) 1 1 Tryz.underlying67 byteInfo rfl (by decide) _ m _ rfl rfl rfl (by simp [Value.oneCell']) HO.out (by omega) (by unfold maxLen; omega) HB.out.size ?_; intro G6 c6 w6 hc6 hc6' hown hb6 hz6 hg6; have HO6 := aside (YRow.push (x := x) (by have hx := HX.out; simp only [bigL, List.getD_cons_succ, List.getD_cons_zero] at hx; simp only [hx]; first | omega | (rw [IntKind.wrap_u8]; omega)) rfl hown); have HB6 := aside (HB.out.trans hb6); clear hown hb6 hg6 hz6)
      | fail)
     have hm := Hm.out
     have hk2 := HK2.out
     refine ⟨⟨k2, m + 1, G6, c6, by omega, by omega, rfl, ?_, aside ?_, HB6⟩, by show 1 + 4 - (m + 1) < 1 + 4 - m; omega⟩
     ·rw [hk2]
      rfl
     ·rw [HTk.out, ← List.append_assoc]
      exact HO6.out
   ·obtain rfl : k = 4 := by omega
    clear k8 hk
    go_wp2_with fail
    go_ret
    refine ⟨_, rfl, ?_, HB.out⟩
    rw [HS.out]
    have h := HO.out
    rw [List.take_of_length_le (Nat.le_of_eq (bigL_len (by decide)))] at h
    exact BRow.of h
 case inr.inr.inr =>
  have HS : Hid (sizeL n = 255 :: bigL n 8) := aside (by simp [sizeL, headN, e])
  have hW := wide_any n
  rw [e] at hW
  have HW := aside hW
  clear e hW
  go_enter Tryz.func115, Tryz.ntmps115
  go_upto_region 11 with (first
   | (go_at_call 134; refine (HW.out _).mono ?_; rintro e w' ⟨rfl, rfl⟩; obtain ⟨w, hw⟩ : ∃ w, w = w' := ⟨_, rfl⟩; subst hw)
   | fail)
  have HO1 : Hid (YRow (w.alloc (.cells #[.int .u8 ((255 : Nat) : Int)] 5)) w.heap.size (.slice (some ⟨w.heap.size, 0, none⟩) 1 1) 1 [255]) := aside (row_one w 255)
  have HB1 : Hid (Below w.heap.size w (w.alloc (.cells #[.int .u8 ((255 : Nat) : Int)] 5))) := aside ((Below.refl _ _).alloc (Nat.le_refl _) _)
  change Code.wp _ _ _ _ (w.alloc (.cells #[.int .u8 ((255 : Nat) : Int)] 5))
  generalize (w.alloc (.cells #[.int .u8 ((255 : Nat) : Int)] 5)) = w1 at HO1 HB1 ⊢
  go_loopw [4, 5] (fun x4 x5 wr => ∃ (k m : Nat) (A : Option Addr) (c : Nat), k ≤ 8 ∧ m = 1 + k ∧ x4 = .slice A m c ∧ x5 = .int .i64 (8 - 1 - k) ∧ Hid (YRow wr w.heap.size (.slice A m c) m ([255] ++ (bigL n 8).take k)) ∧ Hid (Below w.heap.size w wr)) (fun x4 _ _ => 1 + 8 - lenV x4)
  case atStart => exact ⟨0, 1, _, 1, by omega, rfl, rfl, rfl, HO1, HB1⟩
  case round =>
   clear HO1 HB1
   obtain ⟨k, m, A, c, hk, hm, rfl, rfl, HO, HB⟩ := hrel
   have Hm := aside hm
   have hm9 : m ≤ 9 := by omega
   clear hm
   by_cases k8 : k < 8
   ·obtain ⟨x, hx⟩ : ∃ x, x = (bigL n 8).getD k 0 := ⟨_, rfl⟩
    have HX := aside hx
    obtain ⟨k2, hk2⟩ : ∃ k2, k2 = k + 1 := ⟨_, rfl⟩
    have HTk : Hid ((bigL n 8).take k2 = (bigL n 8).take k ++ [x]) := aside (by rw [hx, hk2]; exact take_next 0 (by rw [bigL_len (by decide)]; exact k8))
    have HK2 := aside hk2
    clear hx hk2
    rcases (show k = 0 ∨ k = 1 ∨ k = 2 ∨ k = 3 ∨ k = 4 ∨ k = 5 ∨ k = 6 ∨ k = 7 by omega) with rfl | rfl | rfl | rfl | rfl | rfl | rfl | rfl
    all_goals
     clear k8 hk
     go_wp2_with (first
      | (at_builtin; refine wpList_push rfl (.tmp 35) (.tmp 41) 67 rfl w.heap.size (.int .u8 0) 1 1 Tryz.underlying67 byteInfo rfl (by decide) _ m _ rfl rfl rfl (by simp [Value.oneCell']) HO.out (by omega) (by unfold maxLen; omega) HB.out.size ?_; intro G6 c6 w6 hc6 hc6' hown hb6 hz6 hg6; have HO6 := aside (YRow.push (x := x) (by have hx := HX.out; simp only [bigL, List.getD_cons_succ, List.getD_cons_zero] at hx; simp only [hx]; first | omega | (rw [IntKind.wrap_u8]; omega)) rfl hown); have HB6 := aside (HB.out.trans hb6); clear hown hb6 hg6 hz6)
      | fail)
     have hm := Hm.out
     have hk2 := HK2.out
     refine ⟨⟨k2, m + 1, G6, c6, by omega, by omega, rfl, ?_, aside ?_, HB6⟩, by show 1 + 8 - (m + 1) < 1 + 8 - m; omega⟩
     ·rw [hk2]
      rfl
     ·rw [HTk.out, ← List.append_assoc]
      exact HO6.out
   ·obtain rfl : k = 8 := by omega
    clear k8 hk
    go_wp2_with fail
    go_ret
    refine ⟨_, rfl, ?_, HB.out⟩
    rw [HS.out]
    have h := HO.out
    rw [List.take_of_length_le (Nat.le_of_eq (bigL_len (by decide)))] at h
    exact BRow.of h
set_option maxHeartbeats 1000000 in
theorem rsize_own (n : Nat) (hn : n < 9223372036854775808) (w : World) : Calls Tryz.prog 54 #[.int .i64 n] w (fun e w' => ∃ v, e = .returned v ∧ BRow w' w.heap.size v (sizeL n) ∧ Below w.heap.size w w') := by
 by_cases h : n < 253
 ·have HS : Hid (sizeL n = [n]) := aside (by simp [sizeL, headN, wideN, h, bigL])
  have e0 : ((n : Int) < 253) = True := by simp only [eq_iff_iff, iff_true]; omega
  have e1 : IntKind.u8.wrap (n : Int) = (n : Int) := by rw [IntKind.wrap_u8]; omega
  go_enter Tryz.func54, Tryz.ntmps54
  go_wp2_with fail
  go_ret
  refine ⟨_, rfl, ?_, (Below.refl _ _).alloc (Nat.le_refl _) _⟩
  rw [HS.out]
  exact BRow.of (row_one _ _)
 ·obtain ⟨d, hd, hd1, hc, hc0⟩ : ∃ d, wideN n = d ∧ (d = 2 ∨ d = 4 ∨ d = 8) ∧ sizeL n = headN n :: bigL n d ∧ 0 < d := by
   rcases wideN_cases n with ⟨h1, e⟩ | ⟨h1, e⟩ | ⟨h1, e⟩ | ⟨h1, e⟩
   ·omega
   ·exact ⟨2, e, by decide, by simp [sizeL, e], by decide⟩
   ·exact ⟨4, e, by decide, by simp [sizeL, e], by decide⟩
   ·exact ⟨8, e, by decide, by simp [sizeL, e], by decide⟩
  have hh : headN n = 252 + (if d = 2 then 1 else if d = 4 then 2 else 3) := by
   unfold headN; rw [hd]; rcases hd1 with rfl | rfl | rfl <;> rfl
  have HC := aside hc
  have HD := aside hd
  have HH := aside hh
  have H2 := aside (ones (bigL n d))
  have HP : Hid (putL n d = bigL n d) := aside (putL_big hd1)
  have HL : Hid ((bigL n d).length = d) := aside (bigL_len (.inr hd1))
  have e0 : ((n : Int) < 253) = False := by simp only [eq_iff_iff, iff_false]; omega
  have hw : wideN n = d := hd
  unfold wideN at hw
  clear hc hd hh
  rcases hd1 with rfl | rfl | rfl
  case inl =>
   have n1 : n ≤ 65535 := by
    by_cases q : n < 65536
    ·omega
    ·rw [if_neg h, if_neg q] at hw; split at hw <;> omega
   have e2 : ((n : Int) > 65535) = False := by simp only [eq_iff_iff, iff_false]; omega
   have e3 : ((n : Int) > 4294967295) = False := by simp only [eq_iff_iff, iff_false]; omega
   clear hw n1 h
   go_enter Tryz.func54, Tryz.ntmps54
   go_upto_region 12 with (first
    | (go_at_call 46; refine (put_any n 2 hn (by decide) _).mono ?_; rintro e w4 ⟨rfl, hr4, hb4, hz4⟩)
    | fail)
   rw [HP.out] at hr4
   have HYl : Hid (YSl w4 w4.heap.size (some ⟨w.heap.size, 0, none⟩) 2 (bigL n 2)) := aside (RowY.ysl hr4)
   have HB4 := aside hb4
   clear hr4 hb4 hz4
   go_wp2_with (first
    | (at_builtin; refine wpList_concat rfl (.tmp 23) (.tmp 24) 67 rfl w4.heap.size (.int .u8 0) 1 1 Tryz.underlying67 byteInfo rfl (by decide) _ 1 ([253].flatMap byV) rfl (row_one w4 253) w4.heap.size _ 2 2 _ rfl (Sl.alloc HYl.out (Nat.le_refl _) _) H2.out (by omega) (by unfold maxLen; omega) (by simp) ?_; intro G5 c5 w5 hc5 hc5' hown hb5 hg5; have HO5 : Hid (YRow w5 w4.heap.size (.slice G5 (1 + 2) c5) (1 + 2) ([253] ++ bigL n 2)) := aside (yrow_concat rfl hown); have HB5 : Hid (Below w4.heap.size w4 w5) := aside (((Below.refl _ _).alloc (Nat.le_refl _) _).trans hb5); clear hown hb5 hg5)
    | fail)
   go_ret
   refine ⟨_, rfl, ?_, HB4.out.trans (HB5.out.mono HB4.out.size)⟩
   rw [HC.out, HH.out]
   have h9 := (BRow.of HO5.out).less HB4.out.size
   simpa using h9
  case inr.inl =>
   have n1 : 65535 < n ∧ n ≤ 4294967295 := by
    by_cases q : n < 65536
    ·rw [if_neg h, if_pos q] at hw; omega
    ·by_cases q2 : n < 4294967296
     ·omega
     ·rw [if_neg h, if_neg q, if_neg q2] at hw; omega
   have e2 : ((n : Int) > 65535) = True := by simp only [eq_iff_iff, iff_true]; omega
   have e3 : ((n : Int) > 4294967295) = False := by simp only [eq_iff_iff, iff_false]; omega
   clear hw n1 h
   go_enter Tryz.func54, Tryz.ntmps54
   go_upto_region 12 with (first
    | (go_at_call 46; refine (put_any n 4 hn (by decide) _).mono ?_; rintro e w4 ⟨rfl, hr4, hb4, hz4⟩)
    | fail)
   rw [HP.out] at hr4
   have HYl : Hid (YSl w4 w4.heap.size (some ⟨w.heap.size, 0, none⟩) 4 (bigL n 4)) := aside (RowY.ysl hr4)
   have HB4 := aside hb4
   clear hr4 hb4 hz4
   go_wp2_with (first
    | (at_builtin; refine wpList_concat rfl (.tmp 23) (.tmp 24) 67 rfl w4.heap.size (.int .u8 0) 1 1 Tryz.underlying67 byteInfo rfl (by decide) _ 1 ([254].flatMap byV) rfl (row_one w4 254) w4.heap.size _ 4 4 _ rfl (Sl.alloc HYl.out (Nat.le_refl _) _) H2.out (by omega) (by unfold maxLen; omega) (by simp) ?_; intro G5 c5 w5 hc5 hc5' hown hb5 hg5; have HO5 : Hid (YRow w5 w4.heap.size (.slice G5 (1 + 4) c5) (1 + 4) ([254] ++ bigL n 4)) := aside (yrow_concat rfl hown); have HB5 : Hid (Below w4.heap.size w4 w5) := aside (((Below.refl _ _).alloc (Nat.le_refl _) _).trans hb5); clear hown hb5 hg5)
    | fail)
   go_ret
   refine ⟨_, rfl, ?_, HB4.out.trans (HB5.out.mono HB4.out.size)⟩
   rw [HC.out, HH.out]
   have h9 := (BRow.of HO5.out).less HB4.out.size
   simpa using h9
  case inr.inr =>
   have n1 : 4294967295 < n := by
    by_cases q : n < 65536
    ·rw [if_neg h, if_pos q] at hw; omega
    ·by_cases q2 : n < 4294967296
     ·rw [if_neg h, if_neg q, if_pos q2] at hw; omega
     ·omega
   have e2 : ((n : Int) > 65535) = True := by simp only [eq_iff_iff, iff_true]; omega
   have e3 : ((n : Int) > 4294967295) = True := by simp only [eq_iff_iff, iff_true]; omega
   clear hw n1 h
   go_enter Tryz.func54, Tryz.ntmps54
   go_upto_region 12 with (first
    | (go_at_call 46; refine (put_any n 8 hn (by decide) _).mono ?_; rintro e w4 ⟨rfl, hr4, hb4, hz4⟩)
    | fail)
   rw [HP.out] at hr4
   have HYl : Hid (YSl w4 w4.heap.size (some ⟨w.heap.size, 0, none⟩) 8 (bigL n 8)) := aside (RowY.ysl hr4)
   have HB4 := aside hb4
   clear hr4 hb4 hz4
   go_wp2_with (first
    | (at_builtin; refine wpList_concat rfl (.tmp 23) (.tmp 24) 67 rfl w4.heap.size (.int .u8 0) 1 1 Tryz.underlying67 byteInfo rfl (by decide) _ 1 ([255].flatMap byV) rfl (row_one w4 255) w4.heap.size _ 8 8 _ rfl (Sl.alloc HYl.out (Nat.le_refl _) _) H2.out (by omega) (by unfold maxLen; omega) (by simp) ?_; intro G5 c5 w5 hc5 hc5' hown hb5 hg5; have HO5 : Hid (YRow w5 w4.heap.size (.slice G5 (1 + 8) c5) (1 + 8) ([255] ++ bigL n 8)) := aside (yrow_concat rfl hown); have HB5 : Hid (Below w4.heap.size w4 w5) := aside (((Below.refl _ _).alloc (Nat.le_refl _) _).trans hb5); clear hown hb5 hg5)
    | fail)
   go_ret
   refine ⟨_, rfl, ?_, HB4.out.trans (HB5.out.mono HB4.out.size)⟩
   rw [HC.out, HH.out]
   have h9 := (BRow.of HO5.out).less HB4.out.size
   simpa using h9
set_option maxRecDepth 100000 in
theorem pack_any (bs : List Nat) (A : Option Addr) (n c : Nat) (w : World) (h : YSl w w.heap.size A n bs) (hn : n ≤ 900000) : Calls Tryz.prog 116 #[.slice A n c] w (fun e w' => ∃ v, e = .returned v ∧ BRow w' w.heap.size v (sizeL n ++ bs) ∧ Below w.heap.size w w') := by
 have hl := YSl.len1 h
 have HL := aside hl
 have H := aside h
 clear hl h
 go_enter Tryz.func116, Tryz.ntmps116
 go_wp2_with fail
 refine (size_own n (by omega) w).mono ?_
 rintro e w2 ⟨v, rfl, hv, hb2⟩
 have HV := aside hv
 have HB2 := aside hb2
 have HY2 : Hid (YSl w2 w2.heap.size A n bs) := aside (Sl.more (Sl.below H.out hb2) hb2.size)
 have hz := hb2.size
 have h9 := sizeL_len n
 clear hv hb2
 go_wp2_with (first
  | (at_builtin; refine wpList_bcat rfl (.tmp 5) (.tmp 6) rfl w.heap.size rfl HV.out rfl rfl HY2.out (by rw [HL.out]; omega) hz ?_; intro v3 w3 hv3 hb3 hk3)
  | fail)
 go_ret
 exact ⟨v3, rfl, hv3, HB2.out.trans hb3⟩
set_option maxRecDepth 100000 in
theorem rpack_any (bs : List Nat) (A : Option Addr) (n c : Nat) (w : World) (h : YSl w w.heap.size A n bs) (hn : n ≤ 900000) : Calls Tryz.prog 95 #[.slice A n c] w (fun e w' => ∃ v, e = .returned v ∧ BRow w' w.heap.size v (sizeL n ++ bs) ∧ Below w.heap.size w w') := by
 have hl := YSl.len1 h
 have HL := aside hl
 have H := aside h
 clear hl h
 go_enter Tryz.func95, Tryz.ntmps95
 go_wp2_with fail
 refine (rsize_own n (by omega) w).mono ?_
 rintro e w2 ⟨v, rfl, hv, hb2⟩
 have HV := aside hv
 have HB2 := aside hb2
 have HY2 : Hid (YSl w2 w2.heap.size A n bs) := aside (Sl.more (Sl.below H.out hb2) hb2.size)
 have hz := hb2.size
 have h9 := sizeL_len n
 clear hv hb2
 go_wp2_with (first
  | (at_builtin; refine wpList_bcat rfl (.tmp 5) (.tmp 6) rfl w.heap.size rfl HV.out rfl rfl HY2.out (by rw [HL.out]; omega) hz ?_; intro v3 w3 hv3 hb3 hk3)
  | fail)
 go_ret
 exact ⟨v3, rfl, hv3, HB2.out.trans hb3⟩
end Go.Proofs.YtbpabjhcjffkmaaGreatDoor
