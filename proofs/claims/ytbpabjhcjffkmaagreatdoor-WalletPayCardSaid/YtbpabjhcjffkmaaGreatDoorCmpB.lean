/- bytes.Compare, cmp.Compare, coin.Compare: the walks. Conditions: named in each theorem. Rows of structs: copied within and between: words of this seat's own. Conditions: named in each theorem. cmp.Compare, cmp.Or, coin.Compare: the walks. Conditions: named in each theorem. -/
import Derived.Test.YtbpabjhcjffkmaaGreatDoorWalH
import Derived.Laws.Externs
import Derived.Lib.Bytealg
import Derived.Lib.BytesEntry
import Derived.Test.YtbpabjhcjffkmaaGreatDoorRec
import Derived.Laws.CopyOwn
import Derived.Lib.AppendZerosOnto
import Derived.Lib.Overlaps
import Derived.Deep.RegionHeld3
/- bytes.Compare, cmp.Compare, coin.Compare: the walks. Conditions: named in each theorem. -/
namespace Go.Proofs.YtbpabjhcjffkmaaGreatDoor
open Go.RowKit Go.ChangeShapes Go.WideShapes Go.ChangeAt

/-- Which of two rows of bytes is ahead. -/
def cmpY (xs ys : List Nat) : Int := Lib.compareBytes (Lib.bytesOf (xs.map Int.ofNat)) (Lib.bytesOf (ys.map Int.ofNat))
theorem load_bytes {w : World} {B n : Nat} {A : Option Addr} {xs : List Nat} (h : YSl w B A n xs) (c : Nat) : (Extern.Bytes.bytesOf (.slice A n c)).run Tryz.prog w = .ok (strB xs) w := by
 have hl := YSl.len1 h
 rcases Nat.eq_zero_or_pos n with h0 | h0
 ·subst h0
  obtain rfl : xs = [] := List.eq_nil_of_length_eq_zero hl
  cases A <;> rfl
 ·obtain ⟨b, o, rfl, _, hc⟩ := YSl.at1 h h0
  have h9 := Lib.run_loadBytesX (P := Tryz.prog) w (xs.map Int.ofNat) ⟨b, o, none⟩ .empty (fun j x hj => by
   have hjl : j < xs.length := by have := (List.getElem?_eq_some_iff.1 hj).1; simpa using this
   rw [add_plain, hc j (by omega)]
   rw [List.getElem?_map, List.getElem?_eq_getElem hjl] at hj
   injection hj with hj
   rw [← hj, List.getD_eq_getElem?_getD, List.getElem?_eq_getElem hjl]
   rfl)
  rw [List.length_map, hl] at h9
  show (Extern.Bytes.loadBytes ⟨b, o, none⟩ n .empty).run Tryz.prog w = _
  rw [h9]
  congr 1
  unfold strB strOfNums Lib.bytesOf
  simp
theorem compare_run {w : World} {B B' n n' : Nat} {A A' : Option Addr} {xs ys : List Nat} (h : YSl w B A n xs) (h' : YSl w B' A' n' ys) (c c' : Nat) : (Extern.BytealgCompare.compare #[.slice A n c, .slice A' n' c']).run Tryz.prog w = .ok (.int .i64 (cmpY xs ys)) w := by
 change Sem.run Tryz.prog (do pure (goInt (Extern.BytealgCompare.cmp (← Extern.Bytes.bytesOf (.slice A n c)) (← Extern.Bytes.bytesOf (.slice A' n' c'))))) w = _
 simp only [Sem.run_bind, load_bytes h c, load_bytes h' c', Sem.run_pure, Result.andThen]
 rw [Lib.cmp_eq]
 rfl
set_option maxRecDepth 100000 in
theorem bcmp_any (xs ys : List Nat) (A A' : Option Addr) (n c n' c' : Nat) (w : World) (h : YSl w w.heap.size A n xs) (h' : YSl w w.heap.size A' n' ys) :
  Calls Tryz.prog 125 #[.slice A n c, .slice A' n' c'] w (fun e w' => e = .returned (.int .i64 (cmpY xs ys)) ∧ w' = w) := by
 have hr := compare_run h h' c c'
 generalize cmpY xs ys = r at hr ⊢
 clear h h'
 go_enter Tryz.func125, Tryz.ntmps125
 go_wp2
 rw [run_callFunc_extern Tryz.func138 (by kernel_rfl) (by kernel_rfl) (by kernel_rfl) (e := Extern.BytealgCompare.compare) (by kernel_rfl), hr]
 simp only [Result.andThen]
 rw [Oper.upon_value]
 go_wp2
 go_ret
 exact ⟨rfl, rfl⟩
end Go.Proofs.YtbpabjhcjffkmaaGreatDoor

/- Rows of structs: copied within and between: words of this seat's own. Conditions: named in each theorem. -/
namespace Go.Proofs.YtbpabjhcjffkmaaGreatDoor
open Go.RowKit Go.ChangeShapes Go.WideShapes Go.ChangeAt

/-- A row of the call's own, its cells written out. -/
theorem own_open {w : World} {base : Nat} {e : TypeId} {sz : Nat} {A : Option Addr} {n c : Nat} {xs : List Value} (h : w.ownsRow base e sz (.slice A n c) n xs) (hn : 0 < n ∨ 0 < c) :
  ∃ g cur, A = some ⟨g, 0, none⟩ ∧ base ≤ g ∧ w.heap[g]? = some (.cells (cur : List Value).toArray e (0, 0)) ∧ n ≤ c ∧ c ≤ maxLen ∧ cur.length = c * sz ∧ cur.take (n * sz) = xs := by
 rcases h.2 with ⟨e, _⟩ | ⟨g, cap, cur, e, h1, h2, h3, h4, h5, h6⟩
 ·injection e with e1 e2 e3
  omega
 ·injection e with e1 _ e3
  subst e3
  exact ⟨g, cur.toList, e1, h1, by simpa using h2, h3, h4, by simpa using h5, h6⟩
theorem own_shut {w : World} {base g : Nat} {e : TypeId} {sz : Nat} {n c : Nat} {cur xs : List Value} (hb : base ≤ g) (hg : w.heap[g]? = some (.cells cur.toArray e (0, 0))) (hn : n ≤ c) (hc : c ≤ maxLen) (hl : cur.length = c * sz) (hx : cur.take (n * sz) = xs) :
  w.ownsRow base e sz (.slice (some ⟨g, 0, none⟩) n c) n xs := by
 refine ⟨?_, .inr ⟨g, c, cur.toArray, rfl, hb, hg, hn, hc, by simpa using hl, by simpa using hx⟩⟩
 rw [← hx, List.length_take, hl]
 exact Nat.min_eq_left (Nat.mul_le_mul_right _ hn)
end Go.Proofs.YtbpabjhcjffkmaaGreatDoor

/- cmp.Compare, cmp.Or, coin.Compare: the walks. Conditions: named in each theorem. -/
namespace Go.Proofs.YtbpabjhcjffkmaaGreatDoor
open Go.RowKit Go.ChangeShapes Go.WideShapes Go.ChangeAt

/-- Which of two numbers is ahead. -/
def cmpI (x y : Int) : Int := if x < y then -1 else if y < x then 1 else 0
theorem cnan_any (x : Int) (w : World) : Calls Tryz.prog 105 #[.int .i64 x] w (fun e w' => e = .returned (.bool false) ∧ w' = w) := by
 go_enter Tryz.func105, Tryz.ntmps105
 go_wp2
 go_ret
 exact ⟨by simp, rfl⟩
theorem cmp_any (x y : Int) (w : World) : Calls Tryz.prog 67 #[.int .i64 x, .int .i64 y] w (fun e w' => e = .returned (.int .i64 (cmpI x y)) ∧ w' = w) := by
 unfold cmpI
 by_cases h1 : x < y
 ·rw [if_pos h1]
  go_enter Tryz.func67, Tryz.ntmps67
  go_wp2_with (go_at_call 105; refine (cnan_any _ _).mono ?_; rintro e w' ⟨rfl, rfl⟩)
  go_ret
  exact ⟨rfl, rfl⟩
 ·rw [if_neg h1]
  by_cases h2 : y < x
  ·rw [if_pos h2]
   go_enter Tryz.func67, Tryz.ntmps67
   go_wp2_with (go_at_call 105; refine (cnan_any _ _).mono ?_; rintro e w' ⟨rfl, rfl⟩)
   go_ret
   exact ⟨rfl, rfl⟩
  ·rw [if_neg h2]
   go_enter Tryz.func67, Tryz.ntmps67
   go_wp2_with (go_at_call 105; refine (cnan_any _ _).mono ?_; rintro e w' ⟨rfl, rfl⟩)
   go_ret
   exact ⟨rfl, rfl⟩
def orL : List Int → Int
 | [] => 0
 | a :: r => if a ≠ 0 then a else orL r
theorem orL_at {zs : List Int} {i : Nat} (h : i < zs.length) : orL (zs.drop i) = if nth zs i ≠ 0 then nth zs i else orL (zs.drop (i + 1)) := by
 rw [nth_get h, List.drop_eq_getElem_cons h]
 rfl
set_option maxHeartbeats 4000000 in
set_option maxRecDepth 100000 in
theorem or_any (zs : List Int) (A : Option Addr) (n c : Nat) (hn : n ≤ 1000) (w : World) (h : ISl w w.heap.size A n zs) :
  Calls Tryz.prog 124 #[.slice A n c] w (fun e w' => e = .returned (.int .i64 (orL zs)) ∧ w' = w) := by
 have hl := ISl.len h
 obtain ⟨R, hR⟩ : ∃ R, R = orL zs := ⟨_, rfl⟩
 rw [← hR]
 have HR := aside hR
 have HL := aside hl
 have H := aside h
 clear hR hl h
 go_enter Tryz.func124, Tryz.ntmps124
 go_wp2
 go_loopw [8] (fun v8 wr => ∃ i : Nat, i ≤ n ∧ v8 = .int .i64 i ∧ wr = w ∧ Hid (R = orL (zs.drop i))) (fun v8 _ => n - (Go.RowKit.intOf v8).toNat)
 case atStart => exact ⟨0, Nat.zero_le _, rfl, rfl, HR⟩
 case round =>
  obtain ⟨i, hi, rfl, hw, HI⟩ := hrel
  try subst hw
  by_cases hin : i < n
  ·obtain ⟨b, o, hAe, hbl, hc⟩ := ISl.at_ H.out hin
   have e := orL_at (zs := zs) (i := i) (by have := HL.out; omega)
   have i0 : (i : Int) < (n : Int) := by omega
   obtain ⟨x, hx⟩ : ∃ x, x = nth zs i := ⟨_, rfl⟩
   rw [← hx] at hc e
   by_cases hz : x = 0
   ·rw [if_neg (by simp [hz])] at e
    have HI2 : Hid (R = orL (zs.drop (i + 1))) := aside (HI.out.trans e)
    subst hAe
    have hz2 : (x != 0) = false := by simp [hz]
    clear e hbl hx
    subst hz
    go_wp2
    exact ⟨⟨i + 1, by omega, by go_num, by trivial, HI2⟩, by simp [Go.RowKit.intOf]; omega⟩
   ·rw [if_pos hz] at e
    have hRx := HI.out.trans e
    subst hAe
    have hz2 : (x != 0) = true := by simp [hz]
    have HRx := aside hRx
    clear e hbl hx hRx
    go_wp2
    (try simp only [Exit.inBlock, Exit.then])
    refine bodyPost_ret (v := .int .i64 x) (by simp only [results, Tryz.results124]; go_simp) rfl ?_
    exact ⟨by rw [HRx.out], rfl⟩
  ·obtain rfl : n = i := by omega
   have e : zs.drop n = [] := List.drop_of_length_le (by have := HL.out; omega)
   have HRx : Hid (R = 0) := aside (by rw [HI.out, e]; rfl)
   have i0 : ((n : Int) < (n : Int)) = False := by simp
   clear e
   go_wp2
   (try simp only [Exit.inBlock, Exit.then])
   refine bodyPost_ret (v := .int .i64 0) (by simp only [results, Tryz.results124]; go_simp) rfl ?_
   exact ⟨by rw [HRx.out], rfl⟩
/-- A place's cells. -/
def plC (tx : List Nat) (at_ : Int) : List Value := digC tx ++ [.int .i64 at_]
theorem plC_len (tx : List Nat) (at_ : Int) : (plC tx at_).length = 33 := by simp [plC, digC_len]
theorem plC_at (tx : List Nat) (at_ : Int) : (plC tx at_)[32]? = some (.int .i64 at_) := by
 unfold plC
 rw [List.getElem?_append_right (by rw [digC_len]; exact Nat.le_refl _), digC_len]
 rfl
theorem plC_tx (tx : List Nat) (at_ : Int) {j : Nat} (h : j < 32) : (plC tx at_)[j]? = some (.int .u8 ((tx.getD j 0 : Nat) : Int)) := by
 unfold plC
 rw [List.getElem?_append_left (by rw [digC_len]; exact h)]
 unfold digC
 rw [List.getElem?_map, List.getElem?_range h]
 rfl
/-- Which of two places is ahead. -/
def cmpP (tx : List Nat) (a : Int) (tx' : List Nat) (a' : Int) : Int := orL [cmpY tx tx', cmpI a a']
set_option maxHeartbeats 20000000 in
set_option maxRecDepth 100000 in
theorem cmpP_any (tx tx' : List Nat) (at_ at' : Int) (hx : tx.length = 32) (hx' : tx'.length = 32) (w : World) :
  Calls Tryz.prog 99 #[.agg (plC tx at_).toArray, .agg (plC tx' at').toArray] w (fun e w' => e = .returned (.int .i64 (cmpP tx at_ tx' at')) ∧ Below w.heap.size w w') := by
 have B1 : Hid (Below w.heap.size w ((w.alloc (.cells (plC tx at_).toArray 55)).alloc (.cells (plC tx' at').toArray 55))) := aside (((Below.refl _ _).alloc (Nat.le_refl _) _).alloc (by simp) _)
 have D0 : Hid (((w.alloc (.cells (plC tx at_).toArray 55)).alloc (.cells (plC tx' at').toArray 55)).heap[w.heap.size]? = some (.cells (plC tx at_).toArray 55 (0, 0))) := aside ((Below.heap_alloc _ _ _ (by simp)).trans (heap_alloc_new w _))
 have D1 : Hid (((w.alloc (.cells (plC tx at_).toArray 55)).alloc (.cells (plC tx' at').toArray 55)).heap[w.heap.size + 1]? = some (.cells (plC tx' at').toArray 55 (0, 0))) := aside (by
  have h := heap_alloc_new (w.alloc (.cells (plC tx at_).toArray 55)) (.cells (plC tx' at').toArray 55)
  rwa [show (w.alloc (.cells (plC tx at_).toArray 55)).heap.size = w.heap.size + 1 by simp] at h)
 go_enter Tryz.func99, Tryz.ntmps99
 go_wp2_with fail
 generalize ((w.alloc (.cells (plC tx at_).toArray 55)).alloc (.cells (plC tx' at').toArray 55)) = w1 at B1 D0 D1 ⊢
 obtain ⟨B0, hB0⟩ : ∃ B0, B0 = w.heap.size := ⟨_, rfl⟩
 have EB := aside hB0
 simp only [← hB0] at D0 D1 ⊢
 clear hB0
 have l0 : B0 < w1.heap.size := (Array.getElem?_eq_some_iff.1 D0.out).1
 have l1 : B0 + 1 < w1.heap.size := (Array.getElem?_eq_some_iff.1 D1.out).1
 have p0 : w1.cell? ⟨B0, 32, none⟩ = some (.int .i64 at_) := by rw [cell_of_row _ _ 32 _ _ _ D0.out, List.getElem?_toArray]; exact plC_at _ _
 have p1 : w1.cell? ⟨B0 + 1, 32, none⟩ = some (.int .i64 at') := by rw [cell_of_row _ _ 32 _ _ _ D1.out, List.getElem?_toArray]; exact plC_at _ _
 have Y0 : YSl w1.drew w1.drew.heap.size (some ⟨B0, 0, none⟩) 32 tx := YSl.of hx l0 fun k hk => by
  rw [Nat.zero_add]
  show w1.cell? _ = _
  rw [cell_of_row _ _ k _ _ _ D0.out, List.getElem?_toArray]
  exact plC_tx _ _ hk
 have Y1 : YSl w1.drew w1.drew.heap.size (some ⟨B0 + 1, 0, none⟩) 32 tx' := YSl.of hx' l1 fun k hk => by
  rw [Nat.zero_add]
  show w1.cell? _ = _
  rw [cell_of_row _ _ k _ _ _ D1.out, List.getElem?_toArray]
  exact plC_tx _ _ hk
 have HBC := aside (bcmp_any tx tx' (some ⟨B0, 0, none⟩) (some ⟨B0 + 1, 0, none⟩) 32 32 32 32 w1.drew Y0 Y1)
 obtain ⟨r1, hr1⟩ : ∃ r, r = cmpY tx tx' := ⟨_, rfl⟩
 have HCI := aside (cmp_any at_ at')
 have HCE : Hid (orL [r1, cmpI at_ at'] = cmpP tx at_ tx' at') := aside (by rw [hr1]; rfl)
 rw [← hr1] at HBC
 obtain ⟨r2, hr2⟩ : ∃ r, r = cmpI at_ at' := ⟨_, rfl⟩
 rw [← hr2] at HCI HCE
 have HOR : Hid (Calls Tryz.prog 124 #[.slice (some ⟨w1.heap.size, 0, none⟩) 2 2] (w1.alloc (.cells #[.int .i64 r1, .int .i64 r2] 3)).drew (fun e w' => e = .returned (.int .i64 (orL [r1, r2])) ∧ w' = (w1.alloc (.cells #[.int .i64 r1, .int .i64 r2] 3)).drew)) := aside (or_any [r1, r2] (some ⟨w1.heap.size, 0, none⟩) 2 2 (by decide) _ ⟨rfl, fun _ => ⟨w1.heap.size, 0, rfl, by show w1.heap.size < (w1.alloc _).heap.size; simp, fun j u hu => by
  show (w1.alloc _).cell? _ = _
  rw [Nat.zero_add, cell_of_row _ _ j _ _ _ (heap_alloc_new w1 _), List.getElem?_toArray]
  exact hu⟩⟩)
 generalize orL [r1, r2] = R at HOR HCE
 have HS0 : w1.drew.cell? ⟨B0, 32, none⟩ = some (.int .i64 at_) ∧ w1.drew.cell? ⟨B0 + 1, 32, none⟩ = some (.int .i64 at') := ⟨p0, p1⟩
 have HS1 : (w1.alloc (.cells #[.int .i64 r1, .int .i64 r2] 3)).drew.cell? ⟨B0, 32, none⟩ = some (.int .i64 at_) ∧ (w1.alloc (.cells #[.int .i64 r1, .int .i64 r2] 3)).drew.cell? ⟨B0 + 1, 32, none⟩ = some (.int .i64 at') := ⟨(World.cell?_alloc_lt _ _ _ l0).trans p0, (World.cell?_alloc_lt _ _ _ l1).trans p1⟩
 clear Y0 Y1 hr1 hr2 p0 p1 D0 D1
 go_region_held3 (fun X => X.cell? ⟨B0, 32, none⟩ = some (.int .i64 at_) ∧ X.cell? ⟨B0 + 1, 32, none⟩ = some (.int .i64 at'))
  (first | exact HS0 | exact HS1)
  (first | (go_at_call 125; refine HBC.out.mono ?_; rintro e w' ⟨rfl, rfl⟩) | (go_at_call 67; refine (HCI.out _).mono ?_; rintro e w' ⟨rfl, rfl⟩) | (go_at_call 124; refine HOR.out.mono ?_; rintro e w' ⟨rfl, rfl⟩))
 all_goals go_wp2
 all_goals go_ret
 all_goals exact ⟨by rw [← HCE.out] <;> rfl, below_drawn (B1.out.alloc B1.out.size _) 1⟩
end Go.Proofs.YtbpabjhcjffkmaaGreatDoor
