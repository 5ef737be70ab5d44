/- A number's bytes: size.Of, size.Write. Conditions: named in each theorem. A region that draws its order, by what holds at each of its states: words of this seat's own. Conditions: named in each theorem. wallet.Seed and wallet.Lock: the walks. Conditions: named in each theorem. -/
import Derived.Test.YtbpabjhcjffkmaaGreatDoorPubB
import Derived.Test.YtbpabjhcjffkmaaGreatDoorRec
import Derived.OrdersHeld
import Derived.Deep.RegionHeld3
import Derived.Deep.MidRow
/- A number's bytes: size.Of, size.Write. Conditions: named in each theorem. -/
namespace Go.Proofs.YtbpabjhcjffkmaaGreatDoor
open Go.RowKit Go.ChangeShapes Go.WideShapes Go.ChangeAt

/-- How many bytes behind the first one. -/
def wideN (n : Nat) : Nat := if n < 253 then 0 else if n < 65536 then 2 else if n < 4294967296 then 4 else 8
theorem wide_any (n : Nat) (w : World) : Calls Tryz.prog 134 #[.int .i64 n] w (fun e w' => e = .returned (.int .i64 (wideN n : Nat)) ∧ w' = w) := by
 unfold wideN
 by_cases h1 : n < 253
 ·have e1 : (n : Int) < 253 := by omega
  rw [if_pos h1]
  clear h1
  go_enter Tryz.func134, Tryz.ntmps134
  go_wp2
  go_ret
  exact ⟨rfl, rfl⟩
 have e1 : ((n : Int) < 253) = False := by simp only [eq_iff_iff, iff_false]; omega
 rw [if_neg h1]
 by_cases h2 : n < 65536
 ·have e2 : (n : Int) < 65536 := by omega
  rw [if_pos h2]
  clear h1 h2
  go_enter Tryz.func134, Tryz.ntmps134
  go_wp2
  go_ret
  exact ⟨rfl, rfl⟩
 have e2 : ((n : Int) < 65536) = False := by simp only [eq_iff_iff, iff_false]; omega
 rw [if_neg h2]
 by_cases h3 : n < 4294967296
 ·have e3 : (n : Int) < 4294967296 := by omega
  rw [if_pos h3]
  clear h1 h2 h3
  go_enter Tryz.func134, Tryz.ntmps134
  go_wp2
  go_ret
  exact ⟨rfl, rfl⟩
 have e3 : ((n : Int) < 4294967296) = False := by simp only [eq_iff_iff, iff_false]; omega
 rw [if_neg h3]
 clear h1 h2 h3
 go_enter Tryz.func134, Tryz.ntmps134
 go_wp2
 go_ret
 exact ⟨rfl, rfl⟩
/-- The bytes behind the first one. -/
def bigL (n : Nat) : Nat → List Nat
 | 0 => []
 | 2 => [n / 256 % 256, n % 256]
 | 4 => [n / 16777216 % 256, n / 65536 % 256, n / 256 % 256, n % 256]
 | _ => [n / 72057594037927936 % 256, n / 281474976710656 % 256, n / 1099511627776 % 256, n / 4294967296 % 256, n / 16777216 % 256, n / 65536 % 256, n / 256 % 256, n % 256]
/-- The first byte. -/
def headN (n : Nat) : Nat := match wideN n with
 | 0 => n
 | 2 => 253
 | 4 => 254
 | _ => 255
/-- A number's bytes. -/
def sizeL (n : Nat) : List Nat := headN n :: bigL n (wideN n)
theorem wideN_cases (n : Nat) : (n < 253 ∧ wideN n = 0) ∨ (253 ≤ n ∧ wideN n = 2) ∨ (253 ≤ n ∧ wideN n = 4) ∨ (253 ≤ n ∧ wideN n = 8) := by
 unfold wideN
 split
 ·exact .inl ⟨by assumption, rfl⟩
 ·split
  ·exact .inr (.inl ⟨by omega, rfl⟩)
  ·split
   ·exact .inr (.inr (.inl ⟨by omega, rfl⟩))
   ·exact .inr (.inr (.inr ⟨by omega, rfl⟩))
theorem sizeL_small (n : Nat) : ∀ x ∈ sizeL n, x < 256 := by
 intro x hx
 rcases wideN_cases n with ⟨h, e⟩ | ⟨h, e⟩ | ⟨h, e⟩ | ⟨h, e⟩ <;> simp only [sizeL, headN, e, bigL, List.mem_cons, List.not_mem_nil, or_false] at hx
 ·omega
 ·omega
 ·omega
 ·omega
theorem sizeL_len (n : Nat) : (sizeL n).length ≤ 9 ∧ 1 ≤ (sizeL n).length := by
 rcases wideN_cases n with ⟨h, e⟩ | ⟨h, e⟩ | ⟨h, e⟩ | ⟨h, e⟩ <;> simp [sizeL, e, bigL]
theorem bigL_len {n d : Nat} (h : d = 0 ∨ d = 2 ∨ d = 4 ∨ d = 8) : (bigL n d).length = d := by
 rcases h with rfl | rfl | rfl | rfl <;> rfl
theorem row_one (w : World) (x : Nat) : (w.alloc (.cells #[.int .u8 (x : Int)] 5)).ownsRow w.heap.size 5 1 (.slice (some ⟨w.heap.size, 0, none⟩) 1 1) 1 ([x].flatMap byV) :=
 ⟨rfl, .inr ⟨w.heap.size, 1, _, rfl, Nat.le_refl _, heap_alloc_new w _, Nat.le_refl _, by decide, rfl, rfl⟩⟩
set_option maxHeartbeats 4000000 in
set_option maxRecDepth 100000 in
theorem size_any (n : Nat) (hn : n < 9223372036854775808) (w : World) : Calls Tryz.prog 115 #[.int .i64 n] w (fun e w' => ∃ G m c, e = .returned (.slice G m c) ∧ YSl w' w'.heap.size G m (sizeL n) ∧ Below w.heap.size w w') := by
 rcases wideN_cases n with ⟨h, e⟩ | ⟨h, e⟩ | ⟨h, e⟩ | ⟨h, e⟩
 case inl =>
  have HS : Hid (sizeL n = [n]) := aside (by simp [sizeL, headN, e, bigL])
  have HE := aside e
  have e1 : IntKind.u8.wrap (n : Int) = (n : Int) := by rw [IntKind.wrap_u8]; omega
  have hW := wide_any n
  rw [e] at hW
  have HW := aside hW
  clear e hW
  go_enter Tryz.func115, Tryz.ntmps115
  go_wp2_with (first
   | (go_at_call 134; refine (HW.out _).mono ?_; rintro e w' ⟨rfl, rfl⟩)
   | fail)
  go_ret
  refine ⟨_, 1, _, rfl, ?_, (Below.refl _ _).alloc (Nat.le_refl _) _⟩
  rw [HS.out]
  exact Sl.own (row_one _ _)
 case inr.inl =>
  have HS : Hid (sizeL n = 253 :: bigL n 2) := aside (by simp [sizeL, headN, e])
  have hW := wide_any n
  rw [e] at hW
  have HW := aside hW
  clear e hW
  go_enter Tryz.func115, Tryz.ntmps115
  go_upto_region 11 with (first
   | (go_at_call 134; refine (HW.out _).mono ?_; rintro e w' ⟨rfl, rfl⟩; obtain ⟨w, hw⟩ : ∃ w, w = w' := ⟨_, rfl⟩; subst hw)
   | fail)
  have HO1 : Hid (YRow (w.alloc (.cells #[.int .u8 ((253 : Nat) : Int)] 5)) w.heap.size (.slice (some ⟨w.heap.size, 0, none⟩) 1 1) 1 [253]) := aside (row_one w 253)
  have HB1 : Hid (Below w.heap.size w (w.alloc (.cells #[.int .u8 ((253 : Nat) : Int)] 5))) := aside ((Below.refl _ _).alloc (Nat.le_refl _) _)
  change Code.wp _ _ _ _ (w.alloc (.cells #[.int .u8 ((253 : Nat) : Int)] 5))
  generalize (w.alloc (.cells #[.int .u8 ((253 : Nat) : Int)] 5)) = w1 at HO1 HB1 ⊢
  go_loopw [4, 5] (fun x4 x5 wr => ∃ (k m : Nat) (A : Option Addr) (c : Nat), k ≤ 2 ∧ m = 1 + k ∧ x4 = .slice A m c ∧ x5 = .int .i64 (2 - 1 - k) ∧ Hid (YRow wr w.heap.size (.slice A m c) m ([253] ++ (bigL n 2).take k)) ∧ Hid (Below w.heap.size w wr)) (fun x4 _ _ => 1 + 2 - lenV x4)
  case atStart => exact ⟨0, 1, _, 1, by omega, rfl, rfl, rfl, HO1, HB1⟩
  case round =>
   clear HO1 HB1
   obtain ⟨k, m, A, c, hk, hm, rfl, rfl, HO, HB⟩ := hrel
   have Hm := aside hm
   have hm9 : m ≤ 9 := by omega
   clear hm
   by_cases k8 : k < 2
   ·obtain ⟨x, hx⟩ : ∃ x, x = (bigL n 2).getD k 0 := ⟨_, rfl⟩
    have HX := aside hx
    obtain ⟨k2, hk2⟩ : ∃ k2, k2 = k + 1 := ⟨_, rfl⟩
    have HTk : Hid ((bigL n 2).take k2 = (bigL n 2).take k ++ [x]) := aside (by rw [hx, hk2]; exact take_next 0 (by rw [bigL_len (by decide)]; exact k8))
    have HK2 := aside hk2
    clear hx hk2
    rcases (show k = 0 ∨ k = 1 by omega) with rfl | rfl
    all_goals
     clear k8 hk
     go_wp2_with (first
      | (at_builtin; refine wpList_push rfl (.tmp 35) (.tmp 41) 67 rfl w.heap.size (.int .u8 0) 1 1 Tryz.underlying67 byteInfo rfl (by decide) _ m _ rfl rfl rfl (by simp [Value.oneCell']) HO.out (by omega) (by unfold maxLen; omega) HB.out.size ?_; intro G6 c6 w6 hc6 hc6' hown hb6 hz6 hg6; have HO6 := aside (YRow.push (x := x) (by have hx := HX.out; simp only [bigL, List.getD_cons_succ, List.getD_cons_zero] at hx; simp only [hx]; first | omega | (rw [IntKind.wrap_u8]; omega)) rfl hown); have HB6 := aside (HB.out.trans hb6); clear hown hb6 hg6 hz6)
      | fail)
     have hm := Hm.out
     have hk2 := HK2.out
     refine ⟨⟨k2, m + 1, G6, c6, by omega, by omega, rfl, ?_, aside ?_, HB6⟩, by show 1 + 2 - (m + 1) < 1 + 2 - m; omega⟩
     ·rw [hk2]
      rfl
     ·rw [HTk.out, ← List.append_assoc]
      exact HO6.out
   ·obtain rfl : k = 2 := by omega
    clear k8 hk
    go_wp2_with fail
    go_ret
    refine ⟨A, m, c, rfl, ?_, HB.out⟩
    rw [HS.out]
    have h := HO.out
    rw [List.take_of_length_le (Nat.le_of_eq (bigL_len (by decide)))] at h
    exact Sl.own h
 case inr.inr.inl =>
  have HS : Hid (sizeL n = 254 :: bigL n 4) := aside (by simp [sizeL, headN, e])
  have hW := wide_any n
  rw [e] at hW
  have HW := aside hW
  clear e hW
  go_enter Tryz.func115, Tryz.ntmps115
  go_upto_region 11 with (first
   | (go_at_call 134; refine (HW.out _).mono ?_; rintro e w' ⟨rfl, rfl⟩; obtain ⟨w, hw⟩ : ∃ w, w = w' := ⟨_, rfl⟩; subst hw)
   | fail)
  have HO1 : Hid (YRow (w.alloc (.cells #[.int .u8 ((254 : Nat) : Int)] 5)) w.heap.size (.slice (some ⟨w.heap.size, 0, none⟩) 1 1) 1 [254]) := aside (row_one w 254)
  have HB1 : Hid (Below w.heap.size w (w.alloc (.cells #[.int .u8 ((254 : Nat) : Int)] 5))) := aside ((Below.refl _ _).alloc (Nat.le_refl _) _)
  change Code.wp _ _ _ _ (w.alloc (.cells #[.int .u8 ((254 : Nat) : Int)] 5))
  generalize (w.alloc (.cells #[.int .u8 ((254 : Nat) : Int)] 5)) = w1 at HO1 HB1 ⊢
  go_loopw [4, 5] (fun x4 x5 wr => ∃ (k m : Nat) (A : Option Addr) (c : Nat), k ≤ 4 ∧ m = 1 + k ∧ x4 = .slice A m c ∧ x5 = .int .i64 (4 - 1 - k) ∧ Hid (YRow wr w.heap.size (.slice A m c) m ([254] ++ (bigL n 4).take k)) ∧ Hid (Below w.heap.size w wr)) (fun x4 _ _ => 1 + 4 - lenV x4)
  case atStart => exact ⟨0, 1, _, 1, by omega, rfl, rfl, rfl, HO1, HB1⟩
  case round =>
   clear HO1 HB1
   obtain ⟨k, m, A, c, hk, hm, rfl, rfl, HO, HB⟩ := hrel
   have Hm := aside hm
   have hm9 : m ≤ 9 := by omega
   clear hm
   by_cases k8 : k < 4
   ·obtain ⟨x, hx⟩ : ∃ x, x = (bigL n 4).getD k 0 := ⟨_, rfl⟩
    have HX := aside hx
    obtain ⟨k2, hk2⟩ : ∃ k2, k2 = k + 1 := ⟨_, rfl⟩
    have HTk : Hid ((bigL n 4).take k2 = (bigL n 4).take k ++ [x]) := aside (by rw [hx, hk2]; exact take_next 0 (by rw [bigL_len (by decide)]; exact k8))
    have HK2 := aside hk2
    clear hx hk2
    rcases (show k = 0 ∨ k = 1 ∨ k = 2 ∨ k = 3 by omega) with rfl | rfl | rfl | rfl
    all_goals
     clear k8 hk
     go_wp2_with (first
      | (at_builtin; refine wpList_push rfl (.tmp 35) (.tmp 41) 67 rfl w.heap.size (.int .u8 0) 1 1 Tryz.underlying67 byteInfo rfl (by decide) _ m _ rfl rfl rfl (by simp [Value.oneCell']) HO.out (by omega) (by unfold maxLen; omega) HB.out.size ?_; intro G6 c6 w6 hc6 hc6' hown hb6 hz6 hg6; have HO6 := aside (YRow.push (x := x) (by have hx := HX.out; simp only [bigL, List.getD_cons_succ, List.getD_cons_zero] at hx; simp only [hx]; first | omega | (rw [IntKind.wrap_u8]; omega)) rfl hown); have HB6 := aside (HB.out.trans hb6); clear hown hb6 hg6 hz6)
      | fail)
     have hm := Hm.out
     have hk2 := HK2.out
     refine ⟨⟨k2, m + 1, G6, c6, by omega, by omega, rfl, ?_, aside ?_, HB6⟩, by show 1 + 4 - (m + 1) < 1 + 4 - m; omega⟩
     ·rw [hk2]
      rfl
     ·rw [HTk.out, ← List.append_assoc]
      exact HO6.out
   ·obtain rfl : k = 4 := by omega
    clear k8 hk
    go_wp2_with fail
    go_ret
    refine ⟨A, m, c, rfl, ?_, HB.out⟩
    rw [HS.out]
    have h := HO.out
    rw [List.take_of_length_le (Nat.le_of_eq (bigL_len (by decide)))] at h
    exact Sl.own h
 case inr.inr.inr =>
  have HS : Hid (sizeL n = 255 :: bigL n 8) := aside (by simp [sizeL, headN, e])
  have hW := wide_any n
  rw [e] at hW
  have HW := aside hW
  clear e hW
  go_enter Tryz.func115, Tryz.ntmps115
  go_upto_region 11 with (first
   | (go_at_call 134; refine (HW.out _).mono ?_; rintro e w' ⟨rfl, rfl⟩; obtain ⟨w, hw⟩ : ∃ w, w = w' := ⟨_, rfl⟩; subst hw)
   | fail)
  have HO1 : Hid (YRow (w.alloc (.cells #[.int .u8 ((255 : Nat) : Int)] 5)) w.heap.size (.slice (some ⟨w.heap.size, 0, none⟩) 1 1) 1 [255]) := aside (row_one w 255)
  have HB1 : Hid (Below w.heap.size w (w.alloc (.cells #[.int .u8 ((255 : Nat) : Int)] 5))) := aside ((Below.refl _ _).alloc (Nat.le_refl _) _)
  change Code.wp _ _ _ _ (w.alloc (.cells #[.int .u8 ((255 : Nat) : Int)] 5))
  generalize (w.alloc (.cells #[.int .u8 ((255 : Nat) : Int)] 5)) = w1 at HO1 HB1 ⊢
  go_loopw [4, 5] (fun x4 x5 wr => ∃ (k m : Nat) (A : Option Addr) (c : Nat), k ≤ 8 ∧ m = 1 + k ∧ x4 = .slice A m c ∧ x5 = .int .i64 (8 - 1 - k) ∧ Hid (YRow wr w.heap.size (.slice A m c) m ([255] ++ (bigL n 8).take k)) ∧ Hid (Below w.heap.size w wr)) (fun x4 _ _ => 1 + 8 - lenV x4)
  case atStart => exact ⟨0, 1, _, 1, by omega, rfl, rfl, rfl, HO1, HB1⟩
  case round =>
   clear HO1 HB1
   obtain ⟨k, m, A, c, hk, hm, rfl, rfl, HO, HB⟩ := hrel
   have Hm := aside hm
   have hm9 : m ≤ 9 := by omega
   clear hm
   by_cases k8 : k < 8
   ·obtain ⟨x, hx⟩ : ∃ x, x = (bigL n 8).getD k 0 := ⟨_, rfl⟩
    have HX := aside hx
    obtain ⟨k2, hk2⟩ : ∃ k2, k2 = k + 1 := ⟨_, rfl⟩
    have HTk : Hid ((bigL n 8).take k2 = (bigL n 8).take k ++ [x]) := aside (by rw [hx, hk2]; exact take_next 0 (by rw [bigL_len (by decide)]; exact k8))
    have HK2 := aside hk2
    clear hx hk2
    rcases (show k = 0 ∨ k = 1 ∨ k = 2 ∨ k = 3 ∨ k = 4 ∨ k = 5 ∨ k = 6 ∨ k = 7 by omega) with rfl | rfl | rfl | rfl | rfl | rfl | rfl | rfl
    all_goals
     clear k8 hk
     go_wp2_with (first
      | (at_builtin; refine wpList_push rfl (.tmp 35) (.tmp 41) 67 rfl w.heap.size (.int .u8 0) 1 1 Tryz.underlying67 byteInfo rfl (by decide) _ m _ rfl rfl rfl (by simp [Value.oneCell']) HO.out (by omega) (by unfold maxLen; omega) HB.out.size ?_; intro G6 c6 w6 hc6 hc6' hown hb6 hz6 hg6; have HO6 := aside (YRow.push (x := x) (by have hx := HX.out; simp only [bigL, List.getD_cons_succ, List.getD_cons_zero] at hx; simp only [hx]; first | omega | (rw [IntKind.wrap_u8]; omega)) rfl hown); have HB6 := aside (HB.out.trans hb6); clear hown hb6 hg6 hz6)
      | fail)
     have hm := Hm.out
     have hk2 := HK2.out
     refine ⟨⟨k2, m + 1, G6, c6, by omega, by omega, rfl, ?_, aside ?_, HB6⟩, by show 1 + 8 - (m + 1) < 1 + 8 - m; omega⟩
     ·rw [hk2]
      rfl
     ·rw [HTk.out, ← List.append_assoc]
      exact HO6.out
   ·obtain rfl : k = 8 := by omega
    clear k8 hk
    go_wp2_with fail
    go_ret
    refine ⟨A, m, c, rfl, ?_, HB.out⟩
    rw [HS.out]
    have h := HO.out
    rw [List.take_of_length_le (Nat.le_of_eq (bigL_len (by decide)))] at h
    exact Sl.own h
set_option maxRecDepth 100000 in
theorem writeP_any (n : Nat) (hn : n < 9223372036854775808) (w : World) : Calls Tryz.prog 77 #[.int .i64 n] w (fun e w' => ∃ G m c, e = .returned (.tuple #[.slice G m c, .nilIface]) ∧ YSl w' w'.heap.size G m (sizeL n) ∧ Below w.heap.size w w') := by
 have h0 : (0 : Int) ≤ (n : Int) := by omega
 go_enter Tryz.func77, Tryz.ntmps77
 go_wp2_with fail
 refine (size_any n hn _).mono ?_
 rintro e w2 ⟨G, m, c, rfl, hy, hb⟩
 have HY := aside hy
 have HB := aside hb
 clear hy hb
 go_wp2
 (try simp only [Exit.inBlock, Exit.then])
 refine bodyPost_ret (v := .tuple #[.slice G m c, .nilIface]) (by simp only [results, Tryz.results77]; go_simp) rfl ?_
 exact ⟨G, m, c, rfl, HY.out, HB.out⟩
set_option maxRecDepth 100000 in
theorem writeN_any (i : Int) (h : i < 0) (w : World) : Calls Tryz.prog 77 #[.int .i64 i] w (fun e w' => e = .returned (.tuple #[.slice none 0 0, .iface 33 (.int .i64 2)]) ∧ w' = w) := by
 go_enter Tryz.func77, Tryz.ntmps77
 go_wp2
 (try simp only [Exit.inBlock, Exit.then])
 refine bodyPost_ret (v := .tuple #[.slice none 0 0, .iface 33 (.int .i64 2)]) (by simp only [results, Tryz.results77]; go_simp) rfl ?_
 exact ⟨rfl, rfl⟩
end Go.Proofs.YtbpabjhcjffkmaaGreatDoor

/- A region that draws its order, by what holds at each of its states: words of this seat's own. Conditions: named in each theorem. -/
namespace Go.Proofs.YtbpabjhcjffkmaaGreatDoor
open Go.RowKit Go.ChangeShapes Go.WideShapes Go.ChangeAt

/-- K behind what ends well; else Q. -/
def After (K : Act → World → Prop) (Q : Exit → Act → World → Prop) : Exit → Act → World → Prop
 | .normal, a, w => K a w
 | .exit i, a, w => Q (.exit i) a w
 | .goto l, a, w => Q (.goto l) a w
 | .ret, a, w => Q .ret a w
 | .panic c, a, w => Q (.panic c) a w
 | .outgrown, a, w => Q .outgrown a w
theorem wpOp_of_list {P : Program} {ops : Array Oper} {Q : Exit → Act → World → Prop} {i : Nat} {o : Oper} {K : Act → World → Prop} {a : Act} {w : World} (ho : ops[i]? = some o)
  (h : wpList P ops (After K Q) [o] a w) : wpOp P ops Q i K a w := by
 unfold wpOp
 simp only [ho]
 unfold wpList at h
 split
 ·rename_i hw
  rw [if_pos hw] at h
  rcases h with h | h
  ·refine .inl ?_
   have h' : o.wp P a w K (After K Q) := Oper.wp_mono (fun _ _ h => h) h
   unfold Oper.wp at h' ⊢
   generalize (execOp a.eval o).run P w = r at h'
   cases r with
   | ok n w' =>
    cases n <;> first | exact h' | (exact Calls.mono h' (fun e w'' he => by cases e <;> exact he))
   | halt x w' => cases x <;> exact h'
  ·exact .inr h
 ·rename_i hw
  rw [if_neg hw] at h
  exact h
theorem q1 {α : Type} {xs : List α} {i : Nat} (h : i < xs.toArray.size) : xs.toArray[i] = xs[i]'(by simpa using h) := List.getElem_toArray h
theorem q2 {α : Type} {a : α} {xs : List α} {i : Nat} (h : i + 1 < (a :: xs).length) : getElem (a :: xs) (i + 1) h = getElem xs i (Nat.lt_of_succ_lt_succ h) := List.getElem_cons_succ ..
theorem q3 {α : Type} {a : α} {xs : List α} (h : 0 < (a :: xs).length) : getElem (a :: xs) 0 h = a := List.getElem_cons_zero ..
theorem q4 {α : Type} {xs : List α} {i : Nat} {a : α} : xs.toArray.setIfInBounds i a = (xs.set i a).toArray := List.setIfInBounds_toArray ..
theorem q5 {α : Type} {x : α} {xs : List α} {n : Nat} {a : α} : (x :: xs).set (n + 1) a = x :: xs.set n a := List.set_cons_succ
theorem q6 {α : Type} {x : α} {xs : List α} {a : α} : (x :: xs).set 0 a = a :: xs := List.set_cons_zero
theorem tkH {P : Program} {ops : Array Oper} {Q : Exit → Act → World → Prop} {md : Region.Mode} {S : World → Prop} {i : Nat} {oi : Oper} {v : Value} {fuel : Nat} {listed : Array Bool} {a : Act} {w : World} (hi : ops[i]? = some oi) (hc : (Region.noSelect ops && Region.free md ops listed i && (Region.ready md ops listed).contains i) = true)
 (hQ : ∀ c a w, Q (.panic c) (a.put oi.dst v) w → Q (.panic c) a w) (hy : YieldsIf P ops S oi v a) (hS : S w) (h : wpAnyH P md ops Q S fuel (listed.setIfInBounds i true) (a.put oi.dst v) w) : wpAnyH P md ops Q S (fuel + 1) listed a w := by
 simp only [Bool.and_eq_true] at hc
 exact wpAnyH_take hi hc.1.1 hc.1.2 hc.2 hQ hy hS h
theorem oneH {P : Program} {ops : Array Oper} {Q : Exit → Act → World → Prop} {md : Region.Mode} {S : World → Prop} {i : Nat} {fuel : Nat} {listed : Array Bool} {a : Act} {w : World} (hr : Region.ready md ops listed = [i]) (h : wpOp P ops Q i (fun a' w' => S w' ∧ wpAnyH P md ops Q S fuel (listed.setIfInBounds i true) a' w') a w) : wpAnyH P md ops Q S (fuel + 1) listed a w :=
 wpAnyH_all hr (by simp) (fun m hm => by obtain rfl := List.mem_singleton.1 hm; exact h)
theorem oneL {P : Program} {ops : Array Oper} {Q : Exit → Act → World → Prop} {md : Region.Mode} {S : World → Prop} {i : Nat} {o : Oper} {fuel : Nat} {listed : Array Bool} {a : Act} {w : World} (hr : Region.ready md ops listed = [i]) (ho : ops[i]? = some o) (h : wpList P ops (After (fun a' w' => S w' ∧ wpAnyH P md ops Q S fuel (listed.setIfInBounds i true) a' w') Q) [o] a w) : wpAnyH P md ops Q S (fuel + 1) listed a w :=
 oneH hr (wpOp_of_list ho h)
end Go.Proofs.YtbpabjhcjffkmaaGreatDoor

/- wallet.Seed and wallet.Lock: the walks. Conditions: named in each theorem. -/
namespace Go.Proofs.YtbpabjhcjffkmaaGreatDoor
open Go.RowKit Go.ChangeShapes Go.WideShapes Go.ChangeAt

theorem bytes_one {bs : List Nat} : ∀ u ∈ bs.flatMap byV, u.oneCell' = true := by
 intro u hu
 obtain ⟨x, -, hx⟩ := List.mem_flatMap.1 hu
 simp only [byV, List.mem_singleton] at hx
 rw [hx]; rfl
/-- A key's number, as bytes. -/
def sizeG (i : Int) : List Nat := if i < 0 then [24] else sizeL i.toNat
theorem sizeG_len (i : Int) : (sizeG i).length ≤ 9 := by
 unfold sizeG
 split
 ·decide
 ·exact (sizeL_len _).1
theorem sizeG_small (i : Int) : ∀ x ∈ sizeG i, x < 256 := by
 unfold sizeG
 split
 ·intro x hx
  obtain rfl := List.mem_singleton.1 hx
  decide
 ·exact sizeL_small _
/-- The seed of a wallet's key. -/
def seedG (d : List Nat) (i : Int) : List Nat := macL d (24 :: sizeG i)
theorem seedG_len (d : List Nat) (i : Int) : (seedG d i).length = 32 := macL_len _ _
theorem seedG_small (d : List Nat) (i : Int) : ∀ x ∈ seedG d i, x < 256 := macL_small _ _
/-- The seed of a wallet's key, from 0 on. -/
def seedL (d : List Nat) (i : Nat) : List Nat := seedG d (i : Int)
set_option maxHeartbeats 20000000 in
set_option maxRecDepth 100000 in
theorem seedG_any (d : List Nat) (hd : d.length = 32) (hb : ∀ x ∈ d, x < 256) (i : Int) (hi : i < 9223372036854775808) (w : World) (hg : RoundsAt w) :
  Calls Tryz.prog 35 #[digV d, .int .i64 i] w (fun e w' => e = .returned (digV (seedG d i)) ∧ Below w.heap.size w w') := by
 have HG := aside hg
 have HDb := aside hb
 have HDl := aside hd
 have B1 : Hid (Below w.heap.size w ((w.alloc (.cells (rowY d) 23)).alloc (.cells (rowY (List.replicate 32 0)) 23))) := aside (((Below.refl _ _).alloc (Nat.le_refl _) _).alloc (by simp) _)
 have D0 : Hid (BlkY ((w.alloc (.cells (rowY d) 23)).alloc (.cells (rowY (List.replicate 32 0)) 23)) w.heap.size 23 d) := aside ((BlkY.new w _ _).alloc _)
 have D1 : Hid (BlkY ((w.alloc (.cells (rowY d) 23)).alloc (.cells (rowY (List.replicate 32 0)) 23)) (w.heap.size + 1) 23 (List.replicate 32 0)) := aside (by
  have h := BlkY.new (w.alloc (.cells (rowY d) 23)) 23 (List.replicate 32 0)
  rwa [show (w.alloc (.cells (rowY d) 23)).heap.size = w.heap.size + 1 by simp] at h)
 clear hg hb hd
 obtain ⟨bs, hbs⟩ : ∃ bs, bs = sizeG i := ⟨_, rfl⟩
 have HBl : Hid (bs.length ≤ 9) := aside (by rw [hbs]; exact sizeG_len i)
 have HBs : Hid (∀ x ∈ bs, x < 256) := aside (by rw [hbs]; exact sizeG_small i)
 have HSd : Hid (seedG d i = macL d (24 :: bs)) := aside (by unfold seedG; rw [hbs])
 have HSz := aside hbs
 clear hbs
 unfold digV
 go_enter Tryz.func35, Tryz.ntmps35
 go_wp2_with fail
 change Calls _ _ _ ((w.alloc (.cells (rowY d) 23)).alloc (.cells (rowY (List.replicate 32 0)) 23)) _
 generalize ((w.alloc (.cells (rowY d) 23)).alloc (.cells (rowY (List.replicate 32 0)) 23)) = w1 at B1 D0 D1 ⊢
 obtain ⟨B0, hB0⟩ : ∃ B0, B0 = w.heap.size := ⟨_, rfl⟩
 have EB := aside hB0
 simp only [← hB0] at D0 D1 ⊢
 clear hB0
 by_cases hneg : i < 0
 ·have HB24 : Hid (bs = [24]) := aside (by rw [HSz.out]; unfold sizeG; rw [if_pos hneg])
  refine (writeN_any i hneg w1).mono ?_
  rintro e w' ⟨rfl, hw'⟩
  rw [hw']
  clear hw' w'
  have hY2 : Hid (YSl (w1.alloc (.cells #[.int .u8 ((24 : Nat) : Int)] 5)) (w1.alloc (.cells #[.int .u8 ((24 : Nat) : Int)] 5)).heap.size (some ⟨w1.heap.size, 0, none⟩) 1 bs) := aside (by rw [HB24.out]; exact Sl.own (row_one w1 24))
  have HB2 : Hid (Below w.heap.size w (w1.alloc (.cells #[.int .u8 ((24 : Nat) : Int)] 5))) := aside (B1.out.alloc B1.out.size _)
  have D02 : Hid (BlkY (w1.alloc (.cells #[.int .u8 ((24 : Nat) : Int)] 5)) B0 23 d) := aside (D0.out.alloc _)
  have D12 : Hid (BlkY (w1.alloc (.cells #[.int .u8 ((24 : Nat) : Int)] 5)) (B0 + 1) 23 (List.replicate 32 0)) := aside (D1.out.alloc _)
  clear hneg
  go_upto_region 4 with fail
  change Code.wp _ _ _ _ (w1.alloc (.cells #[.int .u8 ((24 : Nat) : Int)] 5))
  generalize (w1.alloc (.cells #[.int .u8 ((24 : Nat) : Int)] 5)) = w2 at hY2 HB2 D02 D12 ⊢
  obtain ⟨g, hg⟩ : ∃ g, g = w1.heap.size := ⟨_, rfl⟩
  rw [← hg] at hY2 ⊢
  have HY := hY2
  clear hg B1 D0 D1
  refine wp_region_noPanic ?_
  refine wp_region_held_drew (S := (fun _ => True)) (by kernel_rfl) trivial (fun hS => ?_)
  refine tkH (i := 0) (v := ?_) rfl (by kernel_rfl) (fun _ _ _ h => h) (Or.inl ⟨by rfl, ?_⟩) hS ?_
  rotate_left
  ·(intro W hSw; (try dsimp only at hSw); go_simp; try with_reducible rfl)
  (repeat (first | simp only [q1] | simp only [q2] | simp only [q3] | simp only [Act.put] | simp only [q4] | simp only [q5] | simp only [q6]))
  refine tkH (i := 2) (v := ?_) rfl (by kernel_rfl) (fun _ _ _ h => h) (Or.inl ⟨by rfl, ?_⟩) hS ?_
  rotate_left
  ·(intro W hSw; (try dsimp only at hSw); go_simp; try with_reducible rfl)
  (repeat (first | simp only [q1] | simp only [q2] | simp only [q3] | simp only [Act.put] | simp only [q4] | simp only [q5] | simp only [q6]))
  refine oneL (i := 1) (by kernel_rfl) rfl ?_
  (repeat (first | simp only [q1] | simp only [q2] | simp only [q3]))
  have hS3 : Below w2.heap.size w2 (w2.alloc (.cells #[.int .u8 ((24 : Nat) : Int)] 5)).drew := below_drawn ((Below.refl _ _).alloc (Nat.le_refl _) _) 1
  have HO3 : Hid ((w2.alloc (.cells #[.int .u8 ((24 : Nat) : Int)] 5)).drew.ownsRow w2.heap.size 5 1 (.slice (some ⟨w2.heap.size, 0, none⟩) 1 1) 1 ([24].flatMap byV)) := aside (row_one w2 24)
  have HS3 := aside hS3
  have HY3 : Hid (YSl (w2.alloc (.cells #[.int .u8 ((24 : Nat) : Int)] 5)).drew w2.heap.size (some ⟨g, 0, none⟩) 1 bs) := aside (Sl.below HY.out hS3)
  have HK3 : Hid (BlkY (w2.alloc (.cells #[.int .u8 ((24 : Nat) : Int)] 5)).drew B0 23 d) := aside (D02.out.below hS3 D02.out.lt)
  have D13 : Hid (BlkY (w2.alloc (.cells #[.int .u8 ((24 : Nat) : Int)] 5)).drew (B0 + 1) 23 (List.replicate 32 0)) := aside (D12.out.below hS3 D12.out.lt)
  clear hS3
  go_wp2_with fail
  change _ ∧ _
  refine ⟨trivial, ?_⟩
  (try dsimp only)
  (repeat (first | simp only [q1] | simp only [q2] | simp only [q3] | simp only [Act.put] | simp only [q4] | simp only [q5] | simp only [q6]))
  refine oneL (i := 3) (by kernel_rfl) rfl ?_
  (repeat (first | simp only [q1] | simp only [q2] | simp only [q3]))
  refine wpList_concat rfl (.tmp 16) (.tmp 17) 67 rfl w2.heap.size (.int .u8 0) 1 1 Tryz.underlying67 byteInfo rfl (by decide) _ 1 _ rfl HO3.out w2.heap.size (some ⟨g, 0, none⟩) 1 1 _ rfl HY3.out bytes_one (by omega) (by unfold maxLen; omega) HS3.out.size ?_
  intro A4 c4 w4 _ _ hown4 hb4 _
  have HY4 : Hid (YSl w4 w4.heap.size A4 (1 + 1) (24 :: bs)) := aside (by
   have h9 := Sl.own hown4
   have e9 : [24].flatMap byV ++ bs.flatMap byV = (24 :: bs).flatMap byV := by simp
   rw [e9] at h9
   exact h9)
  have HS4 := aside (HS3.out.trans hb4)
  have HK4 := aside (HK3.out.below hb4 D02.out.lt)
  have D14 := aside (D13.out.below hb4 D12.out.lt)
  clear hown4 hb4
  change _ ∧ _
  refine ⟨trivial, ?_⟩
  (try dsimp only)
  (repeat (first | simp only [q1] | simp only [q2] | simp only [q3] | simp only [Act.put] | simp only [q4] | simp only [q5] | simp only [q6]))
  refine oneL (i := 4) (by kernel_rfl) rfl ?_
  (repeat (first | simp only [q1] | simp only [q2] | simp only [q3]))
  have HKs : Hid (YSl w4 w4.heap.size (some ⟨B0, 0, none⟩) 32 d) := aside (HK4.out.sl HDl.out HK4.out.lt)
  have HG4 : Hid (RoundsAt w4) := aside (HG.out.below (HB2.out.trans (HS4.out.mono HB2.out.size)))
  go_wp2_with (first
   | (go_at_call 78; refine (mac_any d (some ⟨B0, 0, none⟩) 32 32 (24 :: bs) A4 (1 + 1) c4 w4 HKs.out HY4.out (by omega) (by omega) HDb.out (fun x hx => (List.mem_cons.1 hx).elim (fun e => by omega) (HBs.out x)) HG4.out).mono ?_; rintro e w5 ⟨rfl, hb5⟩; have HS5 := aside (HS4.out.trans (hb5.mono HS4.out.size)); have D15 := aside (D14.out.below hb5 D14.out.lt); clear hb5)
   | fail)
  change _ ∧ _
  refine ⟨trivial, ?_⟩
  (try dsimp only)
  (repeat (first | simp only [q1] | simp only [q2] | simp only [q3] | simp only [Act.put] | simp only [q4] | simp only [q5] | simp only [q6]))
  refine oneL (i := 5) (by kernel_rfl) rfl ?_
  (repeat (first | simp only [q1] | simp only [q2] | simp only [q3]))
  have hXl := macL_len d (24 :: bs)
  have HS9 := aside (zinfo _ hXl)
  have HS8 := aside (zsame _ _ zlen hXl)
  refine wpList_store_row rfl 23 (.tmp 4) (.tmp 19) rfl (B0 + 1) (rowY (macL d (24 :: bs))) rfl rfl 23 (rowY (List.replicate 32 0)) D15.out HS9.out HS8.out (rowY_one _) ?_
  change _ ∧ _
  refine ⟨trivial, ?_⟩
  (try dsimp only)
  (repeat (first | simp only [q1] | simp only [q2] | simp only [q3] | simp only [Act.put] | simp only [q4] | simp only [q5] | simp only [q6]))
  refine wpAnyH_done (by kernel_rfl) ?_ _
  refine NoPanic.normal ?_
  have HB5 : Hid (Below w.heap.size w w5) := aside (HB2.out.trans (HS5.out.mono HB2.out.size))
  go_wp2_with fail
  refine bodyPost_ret (results_cell_row rfl _ _ (B0 + 1) 23 (rowY (macL d (24 :: bs))) (0, 0) _ rfl (setRow_heap w5 (B0 + 1) _ _ _ _ D15.out) Tryz.underlying23 rfl HS9.out) rfl ?_
  exact ⟨by rw [HSd.out] <;> rfl, below_setRow HB5.out _ (by rw [EB.out]; omega) _⟩
 ·obtain ⟨n, rfl⟩ := Int.eq_ofNat_of_zero_le (show 0 ≤ i by omega)
  have HBn : Hid (bs = sizeL n) := aside (by rw [HSz.out]; unfold sizeG; rw [if_neg hneg]; rfl)
  refine (writeP_any n (by omega) w1).mono ?_
  rintro e w2 ⟨G, m, c, rfl, hy, hb2⟩
  rw [← HBn.out] at hy
  have hm9 : m ≤ 9 := by have h1 := YSl.len1 hy; have h2 := HBl.out; omega
  have HB2 := aside (B1.out.trans (hb2.mono B1.out.size))
  have D02 := aside (D0.out.below hb2 D0.out.lt)
  have D12 := aside (D1.out.below hb2 D1.out.lt)
  have HY := aside hy
  clear hy hb2 B1 D0 D1 hneg
  go_upto_region 4 with fail
  refine wp_region_noPanic ?_
  refine wp_region_held_drew (S := (fun _ => True)) (by kernel_rfl) trivial (fun hS => ?_)
  refine tkH (i := 0) (v := ?_) rfl (by kernel_rfl) (fun _ _ _ h => h) (Or.inl ⟨by rfl, ?_⟩) hS ?_
  rotate_left
  ·(intro W hSw; (try dsimp only at hSw); go_simp; try with_reducible rfl)
  (repeat (first | simp only [q1] | simp only [q2] | simp only [q3] | simp only [Act.put] | simp only [q4] | simp only [q5] | simp only [q6]))
  refine tkH (i := 2) (v := ?_) rfl (by kernel_rfl) (fun _ _ _ h => h) (Or.inl ⟨by rfl, ?_⟩) hS ?_
  rotate_left
  ·(intro W hSw; (try dsimp only at hSw); go_simp; try with_reducible rfl)
  (repeat (first | simp only [q1] | simp only [q2] | simp only [q3] | simp only [Act.put] | simp only [q4] | simp only [q5] | simp only [q6]))
  refine oneL (i := 1) (by kernel_rfl) rfl ?_
  (repeat (first | simp only [q1] | simp only [q2] | simp only [q3]))
  have hS3 : Below w2.heap.size w2 (w2.alloc (.cells #[.int .u8 ((24 : Nat) : Int)] 5)).drew := below_drawn ((Below.refl _ _).alloc (Nat.le_refl _) _) 1
  have HO3 : Hid ((w2.alloc (.cells #[.int .u8 ((24 : Nat) : Int)] 5)).drew.ownsRow w2.heap.size 5 1 (.slice (some ⟨w2.heap.size, 0, none⟩) 1 1) 1 ([24].flatMap byV)) := aside (row_one w2 24)
  have HS3 := aside hS3
  have HY3 : Hid (YSl (w2.alloc (.cells #[.int .u8 ((24 : Nat) : Int)] 5)).drew w2.heap.size G m bs) := aside (Sl.below HY.out hS3)
  have HK3 : Hid (BlkY (w2.alloc (.cells #[.int .u8 ((24 : Nat) : Int)] 5)).drew B0 23 d) := aside (D02.out.below hS3 D02.out.lt)
  have D13 : Hid (BlkY (w2.alloc (.cells #[.int .u8 ((24 : Nat) : Int)] 5)).drew (B0 + 1) 23 (List.replicate 32 0)) := aside (D12.out.below hS3 D12.out.lt)
  clear hS3
  go_wp2_with fail
  change _ ∧ _
  refine ⟨trivial, ?_⟩
  (try dsimp only)
  (repeat (first | simp only [q1] | simp only [q2] | simp only [q3] | simp only [Act.put] | simp only [q4] | simp only [q5] | simp only [q6]))
  refine oneL (i := 3) (by kernel_rfl) rfl ?_
  (repeat (first | simp only [q1] | simp only [q2] | simp only [q3]))
  refine wpList_concat rfl (.tmp 16) (.tmp 17) 67 rfl w2.heap.size (.int .u8 0) 1 1 Tryz.underlying67 byteInfo rfl (by decide) _ 1 _ rfl HO3.out w2.heap.size G m c _ rfl HY3.out bytes_one (by omega) (by unfold maxLen; omega) HS3.out.size ?_
  intro A4 c4 w4 _ _ hown4 hb4 _
  have HY4 : Hid (YSl w4 w4.heap.size A4 (1 + m) (24 :: bs)) := aside (by
   have h9 := Sl.own hown4
   have e9 : [24].flatMap byV ++ bs.flatMap byV = (24 :: bs).flatMap byV := by simp
   rw [e9] at h9
   exact h9)
  have HS4 := aside (HS3.out.trans hb4)
  have HK4 := aside (HK3.out.below hb4 D02.out.lt)
  have D14 := aside (D13.out.below hb4 D12.out.lt)
  clear hown4 hb4
  change _ ∧ _
  refine ⟨trivial, ?_⟩
  (try dsimp only)
  (repeat (first | simp only [q1] | simp only [q2] | simp only [q3] | simp only [Act.put] | simp only [q4] | simp only [q5] | simp only [q6]))
  refine oneL (i := 4) (by kernel_rfl) rfl ?_
  (repeat (first | simp only [q1] | simp only [q2] | simp only [q3]))
  have HKs : Hid (YSl w4 w4.heap.size (some ⟨B0, 0, none⟩) 32 d) := aside (HK4.out.sl HDl.out HK4.out.lt)
  have HG4 : Hid (RoundsAt w4) := aside (HG.out.below (HB2.out.trans (HS4.out.mono HB2.out.size)))
  go_wp2_with (first
   | (go_at_call 78; refine (mac_any d (some ⟨B0, 0, none⟩) 32 32 (24 :: bs) A4 (1 + m) c4 w4 HKs.out HY4.out (by omega) (by omega) HDb.out (fun x hx => (List.mem_cons.1 hx).elim (fun e => by omega) (HBs.out x)) HG4.out).mono ?_; rintro e w5 ⟨rfl, hb5⟩; have HS5 := aside (HS4.out.trans (hb5.mono HS4.out.size)); have D15 := aside (D14.out.below hb5 D14.out.lt); clear hb5)
   | fail)
  change _ ∧ _
  refine ⟨trivial, ?_⟩
  (try dsimp only)
  (repeat (first | simp only [q1] | simp only [q2] | simp only [q3] | simp only [Act.put] | simp only [q4] | simp only [q5] | simp only [q6]))
  refine oneL (i := 5) (by kernel_rfl) rfl ?_
  (repeat (first | simp only [q1] | simp only [q2] | simp only [q3]))
  have hXl := macL_len d (24 :: bs)
  have HS9 := aside (zinfo _ hXl)
  have HS8 := aside (zsame _ _ zlen hXl)
  refine wpList_store_row rfl 23 (.tmp 4) (.tmp 19) rfl (B0 + 1) (rowY (macL d (24 :: bs))) rfl rfl 23 (rowY (List.replicate 32 0)) D15.out HS9.out HS8.out (rowY_one _) ?_
  change _ ∧ _
  refine ⟨trivial, ?_⟩
  (try dsimp only)
  (repeat (first | simp only [q1] | simp only [q2] | simp only [q3] | simp only [Act.put] | simp only [q4] | simp only [q5] | simp only [q6]))
  refine wpAnyH_done (by kernel_rfl) ?_ _
  refine NoPanic.normal ?_
  have HB5 : Hid (Below w.heap.size w w5) := aside (HB2.out.trans (HS5.out.mono HB2.out.size))
  go_wp2_with fail
  refine bodyPost_ret (results_cell_row rfl _ _ (B0 + 1) 23 (rowY (macL d (24 :: bs))) (0, 0) _ rfl (setRow_heap w5 (B0 + 1) _ _ _ _ D15.out) Tryz.underlying23 rfl HS9.out) rfl ?_
  exact ⟨by rw [HSd.out] <;> rfl, below_setRow HB5.out _ (by rw [EB.out]; omega) _⟩
end Go.Proofs.YtbpabjhcjffkmaaGreatDoor
