/- The reference's sizes and wallets' seeds: the walks. Conditions: named in each theorem. The reference's locks of a wallet: the walks. Conditions: named in each theorem. -/
import Derived.Test.YtbpabjhcjffkmaaGreatDoorRefL
import Derived.Test.YtbpabjhcjffkmaaGreatDoorWalA
import Derived.Test.YtbpabjhcjffkmaaGreatDoorWalE
/- The reference's sizes and wallets' seeds: the walks. Conditions: named in each theorem. -/
namespace Go.Proofs.YtbpabjhcjffkmaaGreatDoor
open Go.RowKit Go.ChangeShapes Go.WideShapes Go.ChangeAt

theorem putL_big {n d : Nat} (hd : d = 2 ∨ d = 4 ∨ d = 8) : putL n d = bigL n d := by
 rcases hd with rfl | rfl | rfl <;> simp [putL, putK, bigL, List.range, List.range.loop]
set_option maxHeartbeats 1000000 in
theorem rsize_any (n : Nat) (hn : n < 9223372036854775808) (w : World) : Calls Tryz.prog 54 #[.int .i64 n] w (fun e w' => ∃ G m c, e = .returned (.slice G m c) ∧ YSl w' w'.heap.size G m (sizeL n) ∧ Below w.heap.size w w') := by
 by_cases h : n < 253
 ·have HS : Hid (sizeL n = [n]) := aside (by simp [sizeL, headN, wideN, h, bigL])
  have e0 : ((n : Int) < 253) = True := by simp only [eq_iff_iff, iff_true]; omega
  have e1 : IntKind.u8.wrap (n : Int) = (n : Int) := by rw [IntKind.wrap_u8]; omega
  go_enter Tryz.func54, Tryz.ntmps54
  go_wp2_with fail
  go_ret
  refine ⟨_, 1, _, rfl, ?_, (Below.refl _ _).alloc (Nat.le_refl _) _⟩
  rw [HS.out]
  exact Sl.own (row_one _ _)
 ·obtain ⟨d, hd, hd1, hc, hc0⟩ : ∃ d, wideN n = d ∧ (d = 2 ∨ d = 4 ∨ d = 8) ∧ sizeL n = headN n :: bigL n d ∧ 0 < d := by
   rcases wideN_cases n with ⟨h1, e⟩ | ⟨h1, e⟩ | ⟨h1, e⟩ | ⟨h1, e⟩
   ·omega
   ·exact ⟨2, e, by decide, by simp [sizeL, e], by decide⟩
   ·exact ⟨4, e, by decide, by simp [sizeL, e], by decide⟩
   ·exact ⟨8, e, by decide, by simp [sizeL, e], by decide⟩
  have hh : headN n = 252 + (if d = 2 then 1 else if d = 4 then 2 else 3) := by
   unfold headN; rw [hd]; rcases hd1 with rfl | rfl | rfl <;> rfl
  have HC := aside hc
  have HD := aside hd
  have HH := aside hh
  have H2 := aside (ones (bigL n d))
  have HP : Hid (putL n d = bigL n d) := aside (putL_big hd1)
  have HL : Hid ((bigL n d).length = d) := aside (bigL_len (.inr hd1))
  have e0 : ((n : Int) < 253) = False := by simp only [eq_iff_iff, iff_false]; omega
  have hw : wideN n = d := hd
  unfold wideN at hw
  clear hc hd hh
  rcases hd1 with rfl | rfl | rfl
  case inl =>
   have n1 : n ≤ 65535 := by
    by_cases q : n < 65536
    ·omega
    ·rw [if_neg h, if_neg q] at hw; split at hw <;> omega
   have e2 : ((n : Int) > 65535) = False := by simp only [eq_iff_iff, iff_false]; omega
   have e3 : ((n : Int) > 4294967295) = False := by simp only [eq_iff_iff, iff_false]; omega
   clear hw n1 h
   go_enter Tryz.func54, Tryz.ntmps54
   go_upto_region 12 with (first
    | (go_at_call 46; refine (put_any n 2 hn (by decide) _).mono ?_; rintro e w4 ⟨rfl, hr4, hb4, hz4⟩)
    | fail)
   rw [HP.out] at hr4
   have HYl : Hid (YSl w4 w4.heap.size (some ⟨w.heap.size, 0, none⟩) 2 (bigL n 2)) := aside (RowY.ysl hr4)
   have HB4 := aside hb4
   clear hr4 hb4 hz4
   go_wp2_with (first
    | (at_builtin; refine wpList_concat rfl (.tmp 23) (.tmp 24) 67 rfl w4.heap.size (.int .u8 0) 1 1 Tryz.underlying67 byteInfo rfl (by decide) _ 1 ([253].flatMap byV) rfl (row_one w4 253) w4.heap.size _ 2 2 _ rfl (Sl.alloc HYl.out (Nat.le_refl _) _) H2.out (by omega) (by unfold maxLen; omega) (by simp) ?_; intro G5 c5 w5 hc5 hc5' hown hb5 hg5; have HO5 : Hid (YRow w5 w4.heap.size (.slice G5 (1 + 2) c5) (1 + 2) ([253] ++ bigL n 2)) := aside (yrow_concat rfl hown); have HB5 : Hid (Below w4.heap.size w4 w5) := aside (((Below.refl _ _).alloc (Nat.le_refl _) _).trans hb5); clear hown hb5 hg5)
    | fail)
   go_ret
   refine ⟨G5, 1 + 2, c5, rfl, ?_, HB4.out.trans (HB5.out.mono HB4.out.size)⟩
   rw [HC.out, HH.out]
   exact Sl.own HO5.out
  case inr.inl =>
   have n1 : 65535 < n ∧ n ≤ 4294967295 := by
    by_cases q : n < 65536
    ·rw [if_neg h, if_pos q] at hw; omega
    ·by_cases q2 : n < 4294967296
     ·omega
     ·rw [if_neg h, if_neg q, if_neg q2] at hw; omega
   have e2 : ((n : Int) > 65535) = True := by simp only [eq_iff_iff, iff_true]; omega
   have e3 : ((n : Int) > 4294967295) = False := by simp only [eq_iff_iff, iff_false]; omega
   clear hw n1 h
   go_enter Tryz.func54, Tryz.ntmps54
   go_upto_region 12 with (first
    | (go_at_call 46; refine (put_any n 4 hn (by decide) _).mono ?_; rintro e w4 ⟨rfl, hr4, hb4, hz4⟩)
    | fail)
   rw [HP.out] at hr4
   have HYl : Hid (YSl w4 w4.heap.size (some ⟨w.heap.size, 0, none⟩) 4 (bigL n 4)) := aside (RowY.ysl hr4)
   have HB4 := aside hb4
   clear hr4 hb4 hz4
   go_wp2_with (first
    | (at_builtin; refine wpList_concat rfl (.tmp 23) (.tmp 24) 67 rfl w4.heap.size (.int .u8 0) 1 1 Tryz.underlying67 byteInfo rfl (by decide) _ 1 ([254].flatMap byV) rfl (row_one w4 254) w4.heap.size _ 4 4 _ rfl (Sl.alloc HYl.out (Nat.le_refl _) _) H2.out (by omega) (by unfold maxLen; omega) (by simp) ?_; intro G5 c5 w5 hc5 hc5' hown hb5 hg5; have HO5 : Hid (YRow w5 w4.heap.size (.slice G5 (1 + 4) c5) (1 + 4) ([254] ++ bigL n 4)) := aside (yrow_concat rfl hown); have HB5 : Hid (Below w4.heap.size w4 w5) := aside (((Below.refl _ _).alloc (Nat.le_refl _) _).trans hb5); clear hown hb5 hg5)
    | fail)
   go_ret
   refine ⟨G5, 1 + 4, c5, rfl, ?_, HB4.out.trans (HB5.out.mono HB4.out.size)⟩
   rw [HC.out, HH.out]
   exact Sl.own HO5.out
  case inr.inr =>
   have n1 : 4294967295 < n := by
    by_cases q : n < 65536
    ·rw [if_neg h, if_pos q] at hw; omega
    ·by_cases q2 : n < 4294967296
     ·rw [if_neg h, if_neg q, if_pos q2] at hw; omega
     ·omega
   have e2 : ((n : Int) > 65535) = True := by simp only [eq_iff_iff, iff_true]; omega
   have e3 : ((n : Int) > 4294967295) = True := by simp only [eq_iff_iff, iff_true]; omega
   clear hw n1 h
   go_enter Tryz.func54, Tryz.ntmps54
   go_upto_region 12 with (first
    | (go_at_call 46; refine (put_any n 8 hn (by decide) _).mono ?_; rintro e w4 ⟨rfl, hr4, hb4, hz4⟩)
    | fail)
   rw [HP.out] at hr4
   have HYl : Hid (YSl w4 w4.heap.size (some ⟨w.heap.size, 0, none⟩) 8 (bigL n 8)) := aside (RowY.ysl hr4)
   have HB4 := aside hb4
   clear hr4 hb4 hz4
   go_wp2_with (first
    | (at_builtin; refine wpList_concat rfl (.tmp 23) (.tmp 24) 67 rfl w4.heap.size (.int .u8 0) 1 1 Tryz.underlying67 byteInfo rfl (by decide) _ 1 ([255].flatMap byV) rfl (row_one w4 255) w4.heap.size _ 8 8 _ rfl (Sl.alloc HYl.out (Nat.le_refl _) _) H2.out (by omega) (by unfold maxLen; omega) (by simp) ?_; intro G5 c5 w5 hc5 hc5' hown hb5 hg5; have HO5 : Hid (YRow w5 w4.heap.size (.slice G5 (1 + 8) c5) (1 + 8) ([255] ++ bigL n 8)) := aside (yrow_concat rfl hown); have HB5 : Hid (Below w4.heap.size w4 w5) := aside (((Below.refl _ _).alloc (Nat.le_refl _) _).trans hb5); clear hown hb5 hg5)
    | fail)
   go_ret
   refine ⟨G5, 1 + 8, c5, rfl, ?_, HB4.out.trans (HB5.out.mono HB4.out.size)⟩
   rw [HC.out, HH.out]
   exact Sl.own HO5.out
set_option maxHeartbeats 20000000 in
set_option maxRecDepth 100000 in
theorem qseed_any (d : List Nat) (hd : d.length = 32) (hb : ∀ x ∈ d, x < 256) (i : Int) (hi : i < 9223372036854775808) (w : World) (_hg : RoundsAt w) :
  Calls Tryz.prog 26 #[digV d, .int .i64 i] w (fun e w' => e = .returned (digV (seedG d i)) ∧ Below w.heap.size w w') := by
 have HT := aside (Two.mk_ w d)
 have HDb := aside hb
 have HDl := aside hd
 obtain ⟨bs, hbs⟩ : ∃ bs, bs = sizeG i := ⟨_, rfl⟩
 have HBl : Hid (bs.length ≤ 9) := aside (by rw [hbs]; exact sizeG_len i)
 have HBs : Hid (∀ x ∈ bs, x < 256) := aside (by rw [hbs]; exact sizeG_small i)
 have HSd : Hid (seedG d i = macL d (24 :: bs)) := aside (by unfold seedG; rw [hbs])
 have HSz := aside hbs
 clear hb hd hbs
 unfold digV
 go_enter Tryz.func26, Tryz.ntmps26
 go_upto_region 1 with fail
 change Code.wp _ _ _ _ ((w.alloc (.cells (rowY d) 23)).alloc (.cells (rowY (List.replicate 32 0)) 23))
 generalize ((w.alloc (.cells (rowY d) 23)).alloc (.cells (rowY (List.replicate 32 0)) 23)) = w1 at HT ⊢
 obtain ⟨B1, D0, D1⟩ := HT.out
 obtain ⟨B0, hB0⟩ : ∃ B0, B0 = w.heap.size := ⟨_, rfl⟩
 have EB := aside hB0
 simp only [← hB0] at D0 D1 ⊢
 clear hB0 HT
 have HB1 := aside B1
 have HD0 := aside D0
 have HD1 := aside D1
 have HB2 : Hid (Below w1.heap.size w1 (w1.alloc (.cells #[.int .u8 ((24 : Nat) : Int), .int .u8 ((24 : Nat) : Int)] 5))) := aside ((Below.refl _ _).alloc (Nat.le_refl _) _)
 have HY2 : Hid (YSl (w1.alloc (.cells #[.int .u8 ((24 : Nat) : Int), .int .u8 ((24 : Nat) : Int)] 5)) (w1.alloc (.cells #[.int .u8 ((24 : Nat) : Int), .int .u8 ((24 : Nat) : Int)] 5)).heap.size (some ⟨w1.heap.size, 0, none⟩) 2 [24, 24]) := aside ((BlkY.new w1 5 [24, 24]).sl rfl (by simp))
 clear B1 D0 D1
 go_upto_region 2 with fail
 change Code.wp _ _ _ _ (w1.alloc (.cells #[.int .u8 ((24 : Nat) : Int), .int .u8 ((24 : Nat) : Int)] 5))
 generalize (w1.alloc (.cells #[.int .u8 ((24 : Nat) : Int), .int .u8 ((24 : Nat) : Int)] 5)) = w2 at HB2 HY2 ⊢
 obtain ⟨g, hg⟩ : ∃ g, g = w1.heap.size := ⟨_, rfl⟩
 rw [← hg] at HY2 ⊢
 clear hg
 have HBw2 := aside (HB1.out.trans (HB2.out.mono HB1.out.size))
 have D02 := aside (HD0.out.below HB2.out HD0.out.lt)
 have D12 := aside (HD1.out.below HB2.out HD1.out.lt)
 clear HB1 HB2 HD0 HD1
 by_cases hneg : i < 0
 ·have HB24 : Hid ([24, 24] = 24 :: bs) := aside (by rw [HSz.out]; unfold sizeG; rw [if_pos hneg])
  have HMs : Hid (YSl w2 w2.heap.size (some ⟨g, 0, none⟩) 2 (24 :: bs)) := aside (by rw [← HB24.out]; exact HY2.out)
  have hm9 : 2 ≤ 1000 := by decide
  clear HY2
  have HKs : Hid (YSl w2 w2.heap.size (some ⟨B0, 0, none⟩) 32 d) := aside (D02.out.sl HDl.out D02.out.lt)
  go_wp2_with fail
  refine (rmac_any d (some ⟨B0, 0, none⟩) 32 32 (24 :: bs) _ 2 _ w2 HKs.out HMs.out (by decide) hm9 HDb.out (fun x hx => (List.mem_cons.1 hx).elim (fun e => by omega) (HBs.out x))).mono ?_
  rintro e w9 ⟨rfl, hb9⟩
  have HB9 := aside (HBw2.out.trans (hb9.mono HBw2.out.size))
  have D9 := aside (D12.out.below hb9 D12.out.lt)
  have hYl := macL_len d (24 :: bs)
  have HS7 := aside (zinfo _ hYl)
  have HS6 := aside (zsame _ _ zlen hYl)
  clear hb9
  go_wp2_with (first
   | (refine wpList_store_row rfl 23 (.tmp 4) (.tmp 15) rfl (B0 + 1) (rowY (macL d (24 :: bs))) rfl rfl 23 (rowY (List.replicate 32 0)) D9.out HS7.out HS6.out (rowY_one _) ?_)
   | fail)
  refine bodyPost_ret (results_cell_row rfl _ _ (B0 + 1) 23 (rowY (macL d (24 :: bs))) (0, 0) _ rfl (setRow_heap w9 (B0 + 1) _ _ _ _ D9.out) Tryz.underlying23 rfl HS7.out) rfl ?_
  exact ⟨by rw [HSd.out] <;> rfl, below_setRow HB9.out _ (by rw [EB.out]; omega) _⟩
 ·obtain ⟨n, rfl⟩ := Int.eq_ofNat_of_zero_le (show 0 ≤ i by omega)
  have HBn : Hid (bs = sizeL n) := aside (by rw [HSz.out]; unfold sizeG; rw [if_neg hneg]; rfl)
  have hn0 : (0 : Int) ≤ (n : Int) := by omega
  have HBx : Hid (Below w2.heap.size w2 (w2.alloc (.cells #[.int .u8 ((24 : Nat) : Int)] 5))) := aside ((Below.refl _ _).alloc (Nat.le_refl _) _)
  have HOx : Hid ((w2.alloc (.cells #[.int .u8 ((24 : Nat) : Int)] 5)).ownsRow w2.heap.size 5 1 (.slice (some ⟨w2.heap.size, 0, none⟩) 1 1) 1 ([24].flatMap byV)) := aside (row_one w2 24)
  clear hneg HY2
  go_wp2_with fail
  change Calls _ _ _ (w2.alloc (.cells #[.int .u8 ((24 : Nat) : Int)] 5)) _
  refine (rsize_any n (by omega) (w2.alloc (.cells #[.int .u8 ((24 : Nat) : Int)] 5))).mono ?_
  rintro e w3 ⟨G, m, c, rfl, hy, hb3⟩
  rw [← HBn.out] at hy
  have hm9 : m ≤ 9 := by have h1 := YSl.len1 hy; have h2 := HBl.out; omega
  have HY3 := aside hy
  have HO3 : Hid (w3.ownsRow w2.heap.size 5 1 (.slice (some ⟨w2.heap.size, 0, none⟩) 1 1) 1 ([24].flatMap byV)) := aside (own_below HOx.out hb3)
  have hB3 : Below w2.heap.size w2 w3 := HBx.out.trans (hb3.mono HBx.out.size)
  have HB3 := aside hB3
  have H1b := aside (ones bs)
  have hz3 := hB3.size
  clear hy hb3 hB3 HBx HOx
  go_upto_region 4 with (first
   | (at_builtin; refine wpList_concat rfl (.tmp 9) (.tmp 11) 67 rfl w2.heap.size (.int .u8 0) 1 1 Tryz.underlying67 byteInfo rfl (by decide) _ 1 _ rfl HO3.out w3.heap.size G m c _ rfl HY3.out H1b.out (by omega) (by unfold maxLen; omega) hz3 ?_; intro A4 c4 w4 hc4 hc4' hown4 hb4 hg4)
   | fail)
  have HMs : Hid (YSl w4 w4.heap.size A4 (1 + m) (24 :: bs)) := aside (by
   have h9 := Sl.own hown4
   have e9 : [24].flatMap byV ++ bs.flatMap byV = (24 :: bs).flatMap byV := by simp
   rw [e9] at h9
   exact h9)
  have hB4 : Below w2.heap.size w2 w4 := HB3.out.trans hb4
  have HBw4 := aside (HBw2.out.trans (hB4.mono HBw2.out.size))
  have D04 := aside (D02.out.below hB4 D02.out.lt)
  have D14 := aside (D12.out.below hB4 D12.out.lt)
  have hm10 : 1 + m ≤ 1000 := by omega
  clear hown4 hb4 hg4 hB4 HB3 HBw2 D02 D12 HO3 HY3
  have HKs : Hid (YSl w4 w4.heap.size (some ⟨B0, 0, none⟩) 32 d) := aside (D04.out.sl HDl.out D04.out.lt)
  go_wp2_with fail
  refine (rmac_any d (some ⟨B0, 0, none⟩) 32 32 (24 :: bs) _ (1 + m) _ w4 HKs.out HMs.out (by decide) hm10 HDb.out (fun x hx => (List.mem_cons.1 hx).elim (fun e => by omega) (HBs.out x))).mono ?_
  rintro e w9 ⟨rfl, hb9⟩
  have HB9 := aside (HBw4.out.trans (hb9.mono HBw4.out.size))
  have D9 := aside (D14.out.below hb9 D14.out.lt)
  have hYl := macL_len d (24 :: bs)
  have HS7 := aside (zinfo _ hYl)
  have HS6 := aside (zsame _ _ zlen hYl)
  clear hb9
  go_wp2_with (first
   | (refine wpList_store_row rfl 23 (.tmp 4) (.tmp 15) rfl (B0 + 1) (rowY (macL d (24 :: bs))) rfl rfl 23 (rowY (List.replicate 32 0)) D9.out HS7.out HS6.out (rowY_one _) ?_)
   | fail)
  refine bodyPost_ret (results_cell_row rfl _ _ (B0 + 1) 23 (rowY (macL d (24 :: bs))) (0, 0) _ rfl (setRow_heap w9 (B0 + 1) _ _ _ _ D9.out) Tryz.underlying23 rfl HS7.out) rfl ?_
  exact ⟨by rw [HSd.out] <;> rfl, below_setRow HB9.out _ (by rw [EB.out]; omega) _⟩
end Go.Proofs.YtbpabjhcjffkmaaGreatDoor

/- The reference's locks of a wallet: the walks. Conditions: named in each theorem. -/
namespace Go.Proofs.YtbpabjhcjffkmaaGreatDoor
open Go.RowKit Go.ChangeShapes Go.WideShapes Go.ChangeAt

set_option maxHeartbeats 20000000 in
set_option maxRecDepth 100000 in
theorem qlock_any (d : List Nat) (hd : d.length = 32) (hb : ∀ x ∈ d, x < 256) (i : Int) (hi : i < 9223372036854775808) (w : World) (hg : RoundsAt w) :
  Calls Tryz.prog 45 #[digV d, .int .i64 i] w (fun e w' => ∃ A rs, e = .returned (.slice A 2 2) ∧ RDep w' w.heap.size A 2 rs ∧ rs.map ROp.pl = lockG d i ∧ Below w.heap.size w w') := by
 have HG := aside hg
 have HDb := aside hb
 have HDl := aside hd
 have B1 : Hid (Below w.heap.size w (w.alloc (.cells (rowY d) 23))) := aside ((Below.refl _ _).alloc (Nat.le_refl _) _)
 have D0 : Hid (BlkY (w.alloc (.cells (rowY d) 23)) w.heap.size 23 d) := aside (BlkY.new w _ _)
 have HS7 := aside (zinfo d hd)
 clear hg hb hd
 unfold digV
 go_enter Tryz.func45, Tryz.ntmps45
 go_upto_region 1 with fail
 change Code.wp _ _ _ _ (w.alloc (.cells (rowY d) 23))
 generalize (w.alloc (.cells (rowY d) 23)) = w1 at B1 D0 ⊢
 go_wp2_with (first
  | (refine wpList_load_row rfl 23 (.tmp 2) rfl w.heap.size rfl 23 (rowY d) (0, 0) _ D0.out Tryz.underlying23 rfl HS7.out ?_)
  | fail)
 refine (show Calls _ _ #[digV d, _] _ _ from qseed_any d HDl.out HDb.out i hi w1 (HG.out.below B1.out)).mono ?_
 rintro e w2 ⟨rfl, hb2⟩
 have HB2 := aside (B1.out.trans (hb2.mono B1.out.size))
 clear hb2
 go_wp2_with fail
 refine (rpub_any (seedG d i) (seedG_len _ _) (seedG_small _ _) w2 (HG.out.below HB2.out)).mono ?_
 rintro e w3 ⟨rfl, hb3⟩
 have HB3 := aside (HB2.out.trans (hb3.mono HB2.out.size))
 clear hb3
 have hXl := pubL_len (seedG d i)
 obtain ⟨X, hX⟩ : ∃ X, X = pubL (seedG d i) := ⟨_, rfl⟩
 rw [← hX] at hXl ⊢
 have HX := aside hX
 have HXb : Hid (∀ x ∈ X, x < 256) := aside (by rw [hX]; exact pubL_small _)
 clear hX
 have HS9 := aside (zinfo _ hXl)
 have HS8 := aside (zsame _ _ zlen hXl)
 have DX := aside (BlkY.new w3 23 (List.replicate 32 0))
 go_upto_region 2 with (first
  | (refine wpList_store_row rfl 23 (.tmp 5) (.tmp 9) rfl w3.heap.size (rowY X) rfl rfl 23 (rowY (List.replicate 32 0)) DX.out HS9.out HS8.out (rowY_one _) ?_)
  | fail)
 have HB4 : Hid (Below w.heap.size w ((w3.alloc (.cells (rowY (List.replicate 32 0)) 23)).setRow w3.heap.size (rowY X))) := aside (below_setRow (HB3.out.alloc HB3.out.size _) _ HB3.out.size _)
 have DX4 : Hid (BlkY ((w3.alloc (.cells (rowY (List.replicate 32 0)) 23)).setRow w3.heap.size (rowY X)) w3.heap.size 23 X) := aside (setRow_heap _ _ _ _ _ _ DX.out)
 change Code.wp _ _ _ _ ((w3.alloc (.cells (rowY (List.replicate 32 0)) 23)).setRow w3.heap.size (rowY X))
 generalize ((w3.alloc (.cells (rowY (List.replicate 32 0)) 23)).setRow w3.heap.size (rowY X)) = w4 at HB4 DX4 ⊢
 obtain ⟨bx, hbx⟩ : ∃ bx, bx = w3.heap.size := ⟨_, rfl⟩
 have hbx0 : w.heap.size ≤ bx := by rw [hbx]; exact HB3.out.size
 rw [← hbx] at DX4 ⊢
 clear hbx DX HS9 HS8 HB3
 go_wp2
 go_ret
 have hz4 := HB4.out.size
 refine ⟨some ⟨w4.heap.size, 0, none⟩, [⟨1, 0, some ⟨bx, 0, none⟩, 32, 32, X⟩, ⟨8, 0, none, 0, 0, []⟩], rfl, fun w' hw' hs' => ?_, ?_, HB4.out.alloc HB4.out.size _⟩
 ·have hs5 : (w4.alloc (.cells #[.int .i64 1, .int .i64 0, .slice (some ⟨bx, 0, none⟩) 32 32, .int .i64 8, .int .i64 0, .slice none 0 0] 85)).heap.size = w4.heap.size + 1 := by simp
  have hnew : w'.heap[w4.heap.size]? = some (.cells #[.int .i64 1, .int .i64 0, .slice (some ⟨bx, 0, none⟩) 32 32, .int .i64 8, .int .i64 0, .slice none 0 0] 85 (0, 0)) := (hw' _ hz4 (by rw [hs5]; omega)).trans (heap_alloc_new w4 _)
  have hDX : BlkY w' bx 23 X := (hw' bx hbx0 (DX4.out.alloc _).lt).trans (DX4.out.alloc _)
  refine ⟨⟨rfl, fun _ => ⟨w4.heap.size, 0, rfl, (Array.getElem?_eq_some_iff.1 hnew).1, fun j u hu => ?_⟩⟩, fun r hr => ?_, fun r hr => ?_⟩
  ·rw [Nat.zero_add, cell_of_row _ _ j _ _ _ hnew, List.getElem?_toArray]
   exact hu
  ·rcases List.mem_cons.1 hr with rfl | hr
   ·exact hDX.sl hXl hDX.lt
   ·obtain rfl := List.mem_singleton.1 hr
    exact Sl.nil_
  ·rcases List.mem_cons.1 hr with rfl | hr
   ·exact HXb.out
   ·obtain rfl := List.mem_singleton.1 hr
    exact fun x hx => by cases hx
 ·unfold lockG
  rw [← HX.out]
  rfl
end Go.Proofs.YtbpabjhcjffkmaaGreatDoor
