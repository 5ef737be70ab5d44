/- A number's bytes: size.Of: the walk. Conditions: named in each theorem. -/
import Derived.Test.YtkpbhbafapdboaaDoorSize
namespace Go.Proofs.YtkpbhbafapdboaaDoor
open Go.RowKit Go.ChangeShapes Go.WideShapes Go.ChangeAt

/-- How many bytes behind the first one. -/
def wideN (n : Nat) : Nat := if n < 253 then 0 else if n < 65536 then 2 else if n < 4294967296 then 4 else 8
theorem wide_any (n : Nat) (w : World) : Calls Tryd.prog 47 #[.int .i64 n] w (fun e w' => e = .returned (.int .i64 (wideN n : Nat)) ∧ w' = w) := by
  unfold wideN
  by_cases h1 : n < 253
  · have e1 : (n : Int) < 253 := by omega
    rw [if_pos h1]
    clear h1
    go_enter Tryd.func47, Tryd.ntmps47
    go_wp2
    go_ret
    exact ⟨rfl, rfl⟩
  have e1 : ((n : Int) < 253) = False := by simp only [eq_iff_iff, iff_false]; omega
  rw [if_neg h1]
  by_cases h2 : n < 65536
  · have e2 : (n : Int) < 65536 := by omega
    rw [if_pos h2]
    clear h1 h2
    go_enter Tryd.func47, Tryd.ntmps47
    go_wp2
    go_ret
    exact ⟨rfl, rfl⟩
  have e2 : ((n : Int) < 65536) = False := by simp only [eq_iff_iff, iff_false]; omega
  rw [if_neg h2]
  by_cases h3 : n < 4294967296
  · have e3 : (n : Int) < 4294967296 := by omega
    rw [if_pos h3]
    clear h1 h2 h3
    go_enter Tryd.func47, Tryd.ntmps47
    go_wp2
    go_ret
    exact ⟨rfl, rfl⟩
  have e3 : ((n : Int) < 4294967296) = False := by simp only [eq_iff_iff, iff_false]; omega
  rw [if_neg h3]
  clear h1 h2 h3
  go_enter Tryd.func47, Tryd.ntmps47
  go_wp2
  go_ret
  exact ⟨rfl, rfl⟩
/-- The bytes behind the first one. -/
def bigL (n : Nat) : Nat → List Nat
  | 0 => []
  | 2 => [n / 256 % 256, n % 256]
  | 4 => [n / 16777216 % 256, n / 65536 % 256, n / 256 % 256, n % 256]
  | _ => [n / 72057594037927936 % 256, n / 281474976710656 % 256, n / 1099511627776 % 256, n / 4294967296 % 256, n / 16777216 % 256, n / 65536 % 256, n / 256 % 256, n % 256]
/-- The first byte. -/
def headN (n : Nat) : Nat := match wideN n with
  | 0 => n
  | 2 => 253
  | 4 => 254
  | _ => 255
/-- A number's bytes. -/
def sizeL (n : Nat) : List Nat := headN n :: bigL n (wideN n)
theorem wideN_cases (n : Nat) : (n < 253 ∧ wideN n = 0) ∨ (253 ≤ n ∧ wideN n = 2) ∨ (253 ≤ n ∧ wideN n = 4) ∨ (253 ≤ n ∧ wideN n = 8) := by
  unfold wideN
  split
  · exact .inl ⟨by assumption, rfl⟩
  · split
    · exact .inr (.inl ⟨by omega, rfl⟩)
    · split
      · exact .inr (.inr (.inl ⟨by omega, rfl⟩))
      · exact .inr (.inr (.inr ⟨by omega, rfl⟩))
theorem sizeL_small (n : Nat) : ∀ x ∈ sizeL n, x < 256 := by
  intro x hx
  rcases wideN_cases n with ⟨h, e⟩ | ⟨h, e⟩ | ⟨h, e⟩ | ⟨h, e⟩ <;> simp only [sizeL, headN, e, bigL, List.mem_cons, List.not_mem_nil, or_false] at hx
  · omega
  · omega
  · omega
  · omega
theorem sizeL_len (n : Nat) : (sizeL n).length ≤ 9 ∧ 1 ≤ (sizeL n).length := by
  rcases wideN_cases n with ⟨h, e⟩ | ⟨h, e⟩ | ⟨h, e⟩ | ⟨h, e⟩ <;> simp [sizeL, e, bigL]
theorem bigL_len {n d : Nat} (h : d = 0 ∨ d = 2 ∨ d = 4 ∨ d = 8) : (bigL n d).length = d := by
  rcases h with rfl | rfl | rfl | rfl <;> rfl

theorem row_one (w : World) (x : Nat) : (w.alloc (.cells #[.int .u8 (x : Int)] 5)).ownsRow w.heap.size 5 1 (.slice (some ⟨w.heap.size, 0, none⟩) 1 1) 1 ([x].flatMap byV) :=
  ⟨rfl, .inr ⟨w.heap.size, 1, _, rfl, Nat.le_refl _, heap_alloc_new w _, Nat.le_refl _, by decide, rfl, rfl⟩⟩

set_option maxHeartbeats 4000000 in
set_option maxRecDepth 100000 in
theorem size_any (n : Nat) (hn : n ≤ 1125899906842624) (w : World) : Calls Tryd.prog 33 #[.int .i64 n] w (fun e w' => ∃ G m c, e = .returned (.slice G m c) ∧ YSl w' w'.heap.size G m (sizeL n) ∧ Below w.heap.size w w') := by
  rcases wideN_cases n with ⟨h, e⟩ | ⟨h, e⟩ | ⟨h, e⟩ | ⟨h, e⟩
  case inl =>
    have HS : Hid (sizeL n = [n]) := aside (by simp [sizeL, headN, e, bigL])
    have HE := aside e
    have e1 : IntKind.u8.wrap (n : Int) = (n : Int) := by rw [IntKind.wrap_u8]; omega
    have hW := wide_any n
    rw [e] at hW
    have HW := aside hW
    clear e hW
    go_enter Tryd.func33, Tryd.ntmps33
    go_wp2_with (first
      | (go_at_call 47; refine (HW.out _).mono ?_; rintro e w' ⟨rfl, rfl⟩)
      | fail)
    go_ret
    refine ⟨_, 1, _, rfl, ?_, (Below.refl _ _).alloc (Nat.le_refl _) _⟩
    rw [HS.out]
    exact Sl.own (row_one _ _)
  case inr.inl =>
    have HS : Hid (sizeL n = 253 :: bigL n 2) := aside (by simp [sizeL, headN, e])
    have hW := wide_any n
    rw [e] at hW
    have HW := aside hW
    clear e hW
    go_enter Tryd.func33, Tryd.ntmps33
    go_upto_region 11 with (first
      | (go_at_call 47; refine (HW.out _).mono ?_; rintro e w' ⟨rfl, rfl⟩; obtain ⟨w, hw⟩ : ∃ w, w = w' := ⟨_, rfl⟩; subst hw)
      | fail)
    have HO1 : Hid (YRow (w.alloc (.cells #[.int .u8 ((253 : Nat) : Int)] 5)) w.heap.size (.slice (some ⟨w.heap.size, 0, none⟩) 1 1) 1 [253]) := aside (row_one w 253)
    have HB1 : Hid (Below w.heap.size w (w.alloc (.cells #[.int .u8 ((253 : Nat) : Int)] 5))) := aside ((Below.refl _ _).alloc (Nat.le_refl _) _)
    change Code.wp _ _ _ _ (w.alloc (.cells #[.int .u8 ((253 : Nat) : Int)] 5))
    generalize (w.alloc (.cells #[.int .u8 ((253 : Nat) : Int)] 5)) = w1 at HO1 HB1 ⊢
    go_loopw [4, 5] (fun x4 x5 wr => ∃ (k m : Nat) (A : Option Addr) (c : Nat), k ≤ 2 ∧ m = 1 + k ∧ x4 = .slice A m c ∧ x5 = .int .i64 (2 - 1 - k) ∧ Hid (YRow wr w.heap.size (.slice A m c) m ([253] ++ (bigL n 2).take k)) ∧ Hid (Below w.heap.size w wr)) (fun x4 _ _ => 1 + 2 - lenV x4)
    case atStart => exact ⟨0, 1, _, 1, by omega, rfl, rfl, rfl, HO1, HB1⟩
    case round =>
      clear HO1 HB1
      obtain ⟨k, m, A, c, hk, hm, rfl, rfl, HO, HB⟩ := hrel
      have Hm := aside hm
      have hm9 : m ≤ 9 := by omega
      clear hm
      by_cases k8 : k < 2
      · obtain ⟨x, hx⟩ : ∃ x, x = (bigL n 2).getD k 0 := ⟨_, rfl⟩
        have HX := aside hx
        obtain ⟨k2, hk2⟩ : ∃ k2, k2 = k + 1 := ⟨_, rfl⟩
        have HTk : Hid ((bigL n 2).take k2 = (bigL n 2).take k ++ [x]) := aside (by rw [hx, hk2]; exact take_next 0 (by rw [bigL_len (by decide)]; exact k8))
        have HK2 := aside hk2
        clear hx hk2
        rcases (show k = 0 ∨ k = 1 by omega) with rfl | rfl
        all_goals
          clear k8 hk
          go_wp2_with (first
            | (at_builtin; refine wpList_push rfl (.tmp 35) (.tmp 41) 59 rfl w.heap.size (.int .u8 0) 1 1 Tryd.underlying59 byteInfo rfl (by decide) _ m _ rfl rfl rfl (by simp [Value.oneCell']) HO.out (by omega) (by unfold maxLen; omega) HB.out.size ?_; intro G6 c6 w6 hc6 hc6' hown hb6 hz6 hg6; have HO6 := aside (YRow.push (x := x) (by have hx := HX.out; simp only [bigL, List.getD_cons_succ, List.getD_cons_zero] at hx; simp only [hx]; first | omega | (rw [IntKind.wrap_u8]; omega)) rfl hown); have HB6 := aside (HB.out.trans hb6); clear hown hb6 hg6 hz6)
            | fail)
          have hm := Hm.out
          have hk2 := HK2.out
          refine ⟨⟨k2, m + 1, G6, c6, by omega, by omega, rfl, ?_, aside ?_, HB6⟩, by show 1 + 2 - (m + 1) < 1 + 2 - m; omega⟩
          · rw [hk2]
            rfl
          · rw [HTk.out, ← List.append_assoc]
            exact HO6.out
      · obtain rfl : k = 2 := by omega
        clear k8 hk
        go_wp2_with fail
        go_ret
        refine ⟨A, m, c, rfl, ?_, HB.out⟩
        rw [HS.out]
        have h := HO.out
        rw [List.take_of_length_le (Nat.le_of_eq (bigL_len (by decide)))] at h
        exact Sl.own h
  case inr.inr.inl =>
    have HS : Hid (sizeL n = 254 :: bigL n 4) := aside (by simp [sizeL, headN, e])
    have hW := wide_any n
    rw [e] at hW
    have HW := aside hW
    clear e hW
    go_enter Tryd.func33, Tryd.ntmps33
    go_upto_region 11 with (first
      | (go_at_call 47; refine (HW.out _).mono ?_; rintro e w' ⟨rfl, rfl⟩; obtain ⟨w, hw⟩ : ∃ w, w = w' := ⟨_, rfl⟩; subst hw)
      | fail)
    have HO1 : Hid (YRow (w.alloc (.cells #[.int .u8 ((254 : Nat) : Int)] 5)) w.heap.size (.slice (some ⟨w.heap.size, 0, none⟩) 1 1) 1 [254]) := aside (row_one w 254)
    have HB1 : Hid (Below w.heap.size w (w.alloc (.cells #[.int .u8 ((254 : Nat) : Int)] 5))) := aside ((Below.refl _ _).alloc (Nat.le_refl _) _)
    change Code.wp _ _ _ _ (w.alloc (.cells #[.int .u8 ((254 : Nat) : Int)] 5))
    generalize (w.alloc (.cells #[.int .u8 ((254 : Nat) : Int)] 5)) = w1 at HO1 HB1 ⊢
    go_loopw [4, 5] (fun x4 x5 wr => ∃ (k m : Nat) (A : Option Addr) (c : Nat), k ≤ 4 ∧ m = 1 + k ∧ x4 = .slice A m c ∧ x5 = .int .i64 (4 - 1 - k) ∧ Hid (YRow wr w.heap.size (.slice A m c) m ([254] ++ (bigL n 4).take k)) ∧ Hid (Below w.heap.size w wr)) (fun x4 _ _ => 1 + 4 - lenV x4)
    case atStart => exact ⟨0, 1, _, 1, by omega, rfl, rfl, rfl, HO1, HB1⟩
    case round =>
      clear HO1 HB1
      obtain ⟨k, m, A, c, hk, hm, rfl, rfl, HO, HB⟩ := hrel
      have Hm := aside hm
      have hm9 : m ≤ 9 := by omega
      clear hm
      by_cases k8 : k < 4
      · obtain ⟨x, hx⟩ : ∃ x, x = (bigL n 4).getD k 0 := ⟨_, rfl⟩
        have HX := aside hx
        obtain ⟨k2, hk2⟩ : ∃ k2, k2 = k + 1 := ⟨_, rfl⟩
        have HTk : Hid ((bigL n 4).take k2 = (bigL n 4).take k ++ [x]) := aside (by rw [hx, hk2]; exact take_next 0 (by rw [bigL_len (by decide)]; exact k8))
        have HK2 := aside hk2
        clear hx hk2
        rcases (show k = 0 ∨ k = 1 ∨ k = 2 ∨ k = 3 by omega) with rfl | rfl | rfl | rfl
        all_goals
          clear k8 hk
          go_wp2_with (first
            | (at_builtin; refine wpList_push rfl (.tmp 35) (.tmp 41) 59 rfl w.heap.size (.int .u8 0) 1 1 Tryd.underlying59 byteInfo rfl (by decide) _ m _ rfl rfl rfl (by simp [Value.oneCell']) HO.out (by omega) (by unfold maxLen; omega) HB.out.size ?_; intro G6 c6 w6 hc6 hc6' hown hb6 hz6 hg6; have HO6 := aside (YRow.push (x := x) (by have hx := HX.out; simp only [bigL, List.getD_cons_succ, List.getD_cons_zero] at hx; simp only [hx]; first | omega | (rw [IntKind.wrap_u8]; omega)) rfl hown); have HB6 := aside (HB.out.trans hb6); clear hown hb6 hg6 hz6)
            | fail)
          have hm := Hm.out
          have hk2 := HK2.out
          refine ⟨⟨k2, m + 1, G6, c6, by omega, by omega, rfl, ?_, aside ?_, HB6⟩, by show 1 + 4 - (m + 1) < 1 + 4 - m; omega⟩
          · rw [hk2]
            rfl
          · rw [HTk.out, ← List.append_assoc]
            exact HO6.out
      · obtain rfl : k = 4 := by omega
        clear k8 hk
        go_wp2_with fail
        go_ret
        refine ⟨A, m, c, rfl, ?_, HB.out⟩
        rw [HS.out]
        have h := HO.out
        rw [List.take_of_length_le (Nat.le_of_eq (bigL_len (by decide)))] at h
        exact Sl.own h
  case inr.inr.inr =>
    have HS : Hid (sizeL n = 255 :: bigL n 8) := aside (by simp [sizeL, headN, e])
    have hW := wide_any n
    rw [e] at hW
    have HW := aside hW
    clear e hW
    go_enter Tryd.func33, Tryd.ntmps33
    go_upto_region 11 with (first
      | (go_at_call 47; refine (HW.out _).mono ?_; rintro e w' ⟨rfl, rfl⟩; obtain ⟨w, hw⟩ : ∃ w, w = w' := ⟨_, rfl⟩; subst hw)
      | fail)
    have HO1 : Hid (YRow (w.alloc (.cells #[.int .u8 ((255 : Nat) : Int)] 5)) w.heap.size (.slice (some ⟨w.heap.size, 0, none⟩) 1 1) 1 [255]) := aside (row_one w 255)
    have HB1 : Hid (Below w.heap.size w (w.alloc (.cells #[.int .u8 ((255 : Nat) : Int)] 5))) := aside ((Below.refl _ _).alloc (Nat.le_refl _) _)
    change Code.wp _ _ _ _ (w.alloc (.cells #[.int .u8 ((255 : Nat) : Int)] 5))
    generalize (w.alloc (.cells #[.int .u8 ((255 : Nat) : Int)] 5)) = w1 at HO1 HB1 ⊢
    go_loopw [4, 5] (fun x4 x5 wr => ∃ (k m : Nat) (A : Option Addr) (c : Nat), k ≤ 8 ∧ m = 1 + k ∧ x4 = .slice A m c ∧ x5 = .int .i64 (8 - 1 - k) ∧ Hid (YRow wr w.heap.size (.slice A m c) m ([255] ++ (bigL n 8).take k)) ∧ Hid (Below w.heap.size w wr)) (fun x4 _ _ => 1 + 8 - lenV x4)
    case atStart => exact ⟨0, 1, _, 1, by omega, rfl, rfl, rfl, HO1, HB1⟩
    case round =>
      clear HO1 HB1
      obtain ⟨k, m, A, c, hk, hm, rfl, rfl, HO, HB⟩ := hrel
      have Hm := aside hm
      have hm9 : m ≤ 9 := by omega
      clear hm
      by_cases k8 : k < 8
      · obtain ⟨x, hx⟩ : ∃ x, x = (bigL n 8).getD k 0 := ⟨_, rfl⟩
        have HX := aside hx
        obtain ⟨k2, hk2⟩ : ∃ k2, k2 = k + 1 := ⟨_, rfl⟩
        have HTk : Hid ((bigL n 8).take k2 = (bigL n 8).take k ++ [x]) := aside (by rw [hx, hk2]; exact take_next 0 (by rw [bigL_len (by decide)]; exact k8))
        have HK2 := aside hk2
        clear hx hk2
        rcases (show k = 0 ∨ k = 1 ∨ k = 2 ∨ k = 3 ∨ k = 4 ∨ k = 5 ∨ k = 6 ∨ k = 7 by omega) with rfl | rfl | rfl | rfl | rfl | rfl | rfl | rfl
        all_goals
          clear k8 hk
          go_wp2_with (first
            | (at_builtin; refine wpList_push rfl (.tmp 35) (.tmp 41) 59 rfl w.heap.size (.int .u8 0) 1 1 Tryd.underlying59 byteInfo rfl (by decide) _ m _ rfl rfl rfl (by simp [Value.oneCell']) HO.out (by omega) (by unfold maxLen; omega) HB.out.size ?_; intro G6 c6 w6 hc6 hc6' hown hb6 hz6 hg6; have HO6 := aside (YRow.push (x := x) (by have hx := HX.out; simp only [bigL, List.getD_cons_succ, List.getD_cons_zero] at hx; simp only [hx]; first | omega | (rw [IntKind.wrap_u8]; omega)) rfl hown); have HB6 := aside (HB.out.trans hb6); clear hown hb6 hg6 hz6)
            | fail)
          have hm := Hm.out
          have hk2 := HK2.out
          refine ⟨⟨k2, m + 1, G6, c6, by omega, by omega, rfl, ?_, aside ?_, HB6⟩, by show 1 + 8 - (m + 1) < 1 + 8 - m; omega⟩
          · rw [hk2]
            rfl
          · rw [HTk.out, ← List.append_assoc]
            exact HO6.out
      · obtain rfl : k = 8 := by omega
        clear k8 hk
        go_wp2_with fail
        go_ret
        refine ⟨A, m, c, rfl, ?_, HB.out⟩
        rw [HS.out]
        have h := HO.out
        rw [List.take_of_length_le (Nat.le_of_eq (bigL_len (by decide)))] at h
        exact Sl.own h
end Go.Proofs.YtkpbhbafapdboaaDoor
