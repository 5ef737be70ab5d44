/- The reference's node of two totals: the walk. Conditions: named in each theorem. -/
import Derived.Test.YtkpbhbafapdboaaDoorRefF
namespace Go.Proofs.YtkpbhbafapdboaaDoor
open Go.RowKit Go.ChangeShapes Go.WideShapes Go.ChangeAt

theorem pair_boxes (w : World) (a b : Int) (x y : List Nat) :
    TotAt ((w.alloc (.cells (totR a x) 25)).alloc (.cells (totR b y) 25)) w.heap.size a x ∧ TotAt ((w.alloc (.cells (totR a x) 25)).alloc (.cells (totR b y) 25)) (w.heap.size + 1) b y ∧
    Below w.heap.size w ((w.alloc (.cells (totR a x) 25)).alloc (.cells (totR b y) 25)) ∧ ((w.alloc (.cells (totR a x) 25)).alloc (.cells (totR b y) 25)).heap.size = w.heap.size + 1 + 1 := by
  refine ⟨(TotAt.new w a x).alloc _, ?_, ((Below.refl _ _).alloc (Nat.le_refl _) _).alloc (by simp) _, by simp⟩
  have h := TotAt.new (w.alloc (.cells (totR a x) 25)) b y
  rwa [show (w.alloc (.cells (totR a x) 25)).heap.size = w.heap.size + 1 by simp] at h
set_option maxHeartbeats 4000000 in
set_option maxRecDepth 100000 in
theorem ntext_any (a b : Int) (x y : List Nat) (hx : Dig x) (hy : Dig y) (ha : Mny a) (hb : Mny b) (w : World) :
    Calls Tryd.prog 36 #[totV a x, totV b y] w (fun e w' => ∃ G m c, e = .returned (.slice G m c) ∧ YSl w' w'.heap.size G m (nodeT a x b y) ∧ Below w.heap.size w w') := by
  have ha1 := ha.1
  have ha2 := ha.2
  have hb1 := hb.1
  have hb2 := hb.2
  obtain ⟨na, rfl⟩ : ∃ n : Nat, a = n := ⟨a.toNat, by omega⟩
  obtain ⟨nb, rfl⟩ : ∃ n : Nat, b = n := ⟨b.toNat, by omega⟩
  have ha : na < 9223372036854775808 := by omega
  have hb : nb < 9223372036854775808 := by omega
  clear ha1 ha2 hb1 hb2
  have HX := aside hx
  have HY := aside hy
  have Ha := aside (ones (sizeL na))
  have Hb := aside (ones (sizeL nb))
  have Hx := aside (ones x)
  have Hy := aside (ones y)
  clear hx hy
  go_enter Tryd.func36, Tryd.ntmps36
  go_upto_region 1 with fail
  change Code.wp _ _ _ _ ((w.alloc (.cells (totR na x) 25)).alloc (.cells (totR nb y) 25))
  obtain ⟨t0, t1, b1, z1⟩ := pair_boxes w na nb x y
  have T0 := aside t0
  have T1 := aside t1
  have B1 := aside b1
  have Z1 := aside z1
  clear t0 t1 b1 z1
  generalize ((w.alloc (.cells (totR na x) 25)).alloc (.cells (totR nb y) 25)) = w1 at T0 T1 B1 Z1 ⊢
  obtain ⟨N, hN⟩ : ∃ N, N = w.heap.size := ⟨_, rfl⟩
  simp only [← hN] at T0 T1 Z1 ⊢
  clear hN
  have d0 := (T0.out.alloc (.cells #[.int .u8 26] 5)).sum
  go_upto_region 2 with (first
    | (go_at_call 30; refine (sbytes_any na ha _).mono ?_; rintro e w2 ⟨G2, m2, c2, rfl, hy2, hb2⟩; have hm2 : m2 ≤ 9 := (by have := (sizeL_len na).1; have := YSl.len1 hy2; omega); have HY2 := aside hy2; have HB2 : Hid (Below w1.heap.size w1 w2) := aside (below_then (below_more (Below.refl _ _) _) hb2); have HO2 : Hid (YRow w2 w1.heap.size (.slice (some ⟨w1.heap.size, 0, none⟩) 1 1) 1 [26]) := aside (own_below (row_one w1 26) hb2); clear hy2 hb2)
    | (at_builtin; refine wpList_concat rfl (.tmp 6) (.tmp 9) 59 rfl w1.heap.size (.int .u8 0) 1 1 Tryd.underlying59 byteInfo rfl (by decide) _ 1 _ rfl HO2.out w2.heap.size G2 m2 c2 _ rfl HY2.out Ha.out (by omega) (by unfold maxLen; omega) HB2.out.size ?_; intro G3 c3 w3 hc3 hc3' hown hb3 hg3; have HO3 : Hid (YRow w3 w1.heap.size (.slice G3 (1 + m2) c3) (1 + m2) ([26] ++ sizeL na)) := aside (yrow_concat rfl hown); have HB3 : Hid (Below w1.heap.size w1 w3) := aside (HB2.out.trans hb3); clear hown hb3 hg3)
    | fail)
  have T03 : Hid (YSl w3 w3.heap.size (some ⟨N, 1, none⟩) 32 x) := aside ((T0.out.below HB3.out (by rw [Z1.out]; omega)).dig HX.out.1)
  obtain ⟨M3, hM3⟩ : ∃ M3, M3 = 1 + m2 := ⟨_, rfl⟩
  rw [← hM3] at HO3 hc3 ⊢
  have hM : M3 ≤ 10 := by omega
  clear hM3 hm2 HO2 HB2 HY2 d0 T0
  go_upto_region 3 with (first
    | (at_builtin; refine wpList_concat rfl (.tmp 11) (.tmp 13) 59 rfl w1.heap.size (.int .u8 0) 1 1 Tryd.underlying59 byteInfo rfl (by decide) _ M3 _ rfl HO3.out w3.heap.size _ 32 32 _ rfl T03.out Hx.out (by omega) (by unfold maxLen; omega) HB3.out.size ?_; intro G4 c4 w4 hc4 hc4' hown hb4 hg4; have HO4 : Hid (YRow w4 w1.heap.size (.slice G4 (M3 + 32) c4) (M3 + 32) ([26] ++ sizeL na ++ x)) := aside (yrow_concat rfl hown); have HB4 : Hid (Below w1.heap.size w1 w4) := aside (HB3.out.trans hb4); clear hown hb4 hg4)
    | fail)
  obtain ⟨M4, hM4⟩ : ∃ M4, M4 = M3 + 32 := ⟨_, rfl⟩
  rw [← hM4] at HO4 hc4 ⊢
  have hMM : M4 ≤ 42 := by omega
  have d1 := (T1.out.below HB4.out (by rw [Z1.out]; omega)).sum
  clear hM4 hM HO3 HB3 T03 hc3 hc3'
  go_upto_region 4 with (first
    | (go_at_call 30; refine (sbytes_any nb hb _).mono ?_; rintro e w5 ⟨G5, m5, c5, rfl, hy5, hb5⟩; have hm5 : m5 ≤ 9 := (by have := (sizeL_len nb).1; have := YSl.len1 hy5; omega); have HY5 := aside hy5; have HB5 : Hid (Below w1.heap.size w1 w5) := aside (HB4.out.trans (hb5.mono HB4.out.size)); have HO5 : Hid (YRow w5 w1.heap.size (.slice G4 M4 c4) M4 ([26] ++ sizeL na ++ x)) := aside (own_below HO4.out hb5); clear hy5 hb5)
    | (at_builtin; refine wpList_concat rfl (.tmp 15) (.tmp 18) 59 rfl w1.heap.size (.int .u8 0) 1 1 Tryd.underlying59 byteInfo rfl (by decide) _ M4 _ rfl HO5.out w5.heap.size G5 m5 c5 _ rfl HY5.out Hb.out (by omega) (by unfold maxLen; omega) HB5.out.size ?_; intro G6 c6 w6 hc6 hc6' hown hb6 hg6; have HO6 : Hid (YRow w6 w1.heap.size (.slice G6 (M4 + m5) c6) (M4 + m5) ([26] ++ sizeL na ++ x ++ sizeL nb)) := aside (yrow_concat rfl hown); have HB6 : Hid (Below w1.heap.size w1 w6) := aside (HB5.out.trans hb6); clear hown hb6 hg6)
    | fail)
  have T16 : Hid (YSl w6 w6.heap.size (some ⟨N + 1, 1, none⟩) 32 y) := aside ((T1.out.below HB6.out (by rw [Z1.out]; omega)).dig HY.out.1)
  obtain ⟨M6, hM6⟩ : ∃ M6, M6 = M4 + m5 := ⟨_, rfl⟩
  rw [← hM6] at HO6 hc6 ⊢
  have hM7 : M6 ≤ 51 := by omega
  clear hM6 hm5 hMM HO5 HB5 HY5 d1 HO4 HB4
  go_wp2_with (first
    | (at_builtin; refine wpList_concat rfl (.tmp 20) (.tmp 22) 59 rfl w1.heap.size (.int .u8 0) 1 1 Tryd.underlying59 byteInfo rfl (by decide) _ M6 _ rfl HO6.out w6.heap.size _ 32 32 _ rfl T16.out Hy.out (by omega) (by unfold maxLen; omega) HB6.out.size ?_; intro G7 c7 w7 hc7 hc7' hown hb7 hg7; have HO7 : Hid (YRow w7 w1.heap.size (.slice G7 (M6 + 32) c7) (M6 + 32) (nodeT na x nb y)) := aside (yrow_concat (bs := [26] ++ sizeL na ++ x ++ sizeL nb) (cs := y) rfl hown); have HB7 : Hid (Below w1.heap.size w1 w7) := aside (HB6.out.trans hb7); clear hown hb7 hg7)
    | fail)
  go_ret
  exact ⟨G7, M6 + 32, c7, rfl, Sl.own HO7.out, B1.out.trans (HB7.out.mono B1.out.size)⟩

/-- What the reference's node of two tells. -/
def tellU (r : Tot × Int) : Value := .tuple #[tV r.1, .int .i64 r.2]
end Go.Proofs.YtkpbhbafapdboaaDoor
