/- cmp.Compare, cmp.Or, coin.Compare: the walks. Conditions: named in each theorem. -/
import Derived.Test.YtiigggbghgfdoaaDoorCmp
import Derived.Test.YtiigggbghgfdoaaDoorRow
import Derived.Deep.RegionHeld3
namespace Go.Proofs.YtiigggbghgfdoaaDoor
open Go.RowKit Go.ChangeShapes Go.WideShapes Go.ChangeAt

/-- Which of two numbers is ahead. -/
def cmpI (x y : Int) : Int := if x < y then -1 else if y < x then 1 else 0
theorem cnan_any (x : Int) (w : World) : Calls Tryd.prog 41 #[.int .i64 x] w (fun e w' => e = .returned (.bool false) ∧ w' = w) := by
  go_enter Tryd.func41, Tryd.ntmps41
  go_wp2
  go_ret
  exact ⟨by simp, rfl⟩
theorem cmp_any (x y : Int) (w : World) : Calls Tryd.prog 25 #[.int .i64 x, .int .i64 y] w (fun e w' => e = .returned (.int .i64 (cmpI x y)) ∧ w' = w) := by
  unfold cmpI
  by_cases h1 : x < y
  · rw [if_pos h1]
    go_enter Tryd.func25, Tryd.ntmps25
    go_wp2_with (go_at_call 41; refine (cnan_any _ _).mono ?_; rintro e w' ⟨rfl, rfl⟩)
    go_ret
    exact ⟨rfl, rfl⟩
  · rw [if_neg h1]
    by_cases h2 : y < x
    · rw [if_pos h2]
      go_enter Tryd.func25, Tryd.ntmps25
      go_wp2_with (go_at_call 41; refine (cnan_any _ _).mono ?_; rintro e w' ⟨rfl, rfl⟩)
      go_ret
      exact ⟨rfl, rfl⟩
    · rw [if_neg h2]
      go_enter Tryd.func25, Tryd.ntmps25
      go_wp2_with (go_at_call 41; refine (cnan_any _ _).mono ?_; rintro e w' ⟨rfl, rfl⟩)
      go_ret
      exact ⟨rfl, rfl⟩
def orL : List Int → Int
  | [] => 0
  | a :: r => if a ≠ 0 then a else orL r
theorem orL_at {zs : List Int} {i : Nat} (h : i < zs.length) : orL (zs.drop i) = if nth zs i ≠ 0 then nth zs i else orL (zs.drop (i + 1)) := by
  rw [nth_get h, List.drop_eq_getElem_cons h]
  rfl
set_option maxHeartbeats 4000000 in
set_option maxRecDepth 100000 in
theorem or_any (zs : List Int) (A : Option Addr) (n c : Nat) (hn : n ≤ 1000) (w : World) (h : ISl w w.heap.size A n zs) :
    Calls Tryd.prog 23 #[.slice A n c] w (fun e w' => e = .returned (.int .i64 (orL zs)) ∧ w' = w) := by
  have hl := ISl.len h
  obtain ⟨R, hR⟩ : ∃ R, R = orL zs := ⟨_, rfl⟩
  rw [← hR]
  have HR := aside hR
  have HL := aside hl
  have H := aside h
  clear hR hl h
  go_enter Tryd.func23, Tryd.ntmps23
  go_wp2
  go_loopw [8] (fun v8 wr => ∃ i : Nat, i ≤ n ∧ v8 = .int .i64 i ∧ wr = w ∧ Hid (R = orL (zs.drop i))) (fun v8 _ => n - (Go.RowKit.intOf v8).toNat)
  case atStart => exact ⟨0, Nat.zero_le _, rfl, rfl, HR⟩
  case round =>
    obtain ⟨i, hi, rfl, hw, HI⟩ := hrel
    try subst hw
    by_cases hin : i < n
    · obtain ⟨b, o, hAe, hbl, hc⟩ := ISl.at_ H.out hin
      have e := orL_at (zs := zs) (i := i) (by have := HL.out; omega)
      have i0 : (i : Int) < (n : Int) := by omega
      obtain ⟨x, hx⟩ : ∃ x, x = nth zs i := ⟨_, rfl⟩
      rw [← hx] at hc e
      by_cases hz : x = 0
      · rw [if_neg (by simp [hz])] at e
        have HI2 : Hid (R = orL (zs.drop (i + 1))) := aside (HI.out.trans e)
        subst hAe
        have hz2 : (x != 0) = false := by simp [hz]
        clear e hbl hx
        subst hz
        go_wp2
        exact ⟨⟨i + 1, by omega, by go_num, by trivial, HI2⟩, by simp [Go.RowKit.intOf]; omega⟩
      · rw [if_pos hz] at e
        have hRx := HI.out.trans e
        subst hAe
        have hz2 : (x != 0) = true := by simp [hz]
        have HRx := aside hRx
        clear e hbl hx hRx
        go_wp2
        (try simp only [Exit.inBlock, Exit.then])
        refine bodyPost_ret (v := .int .i64 x) (by simp only [results, Tryd.results23]; go_simp) rfl ?_
        exact ⟨by rw [HRx.out], rfl⟩
    · obtain rfl : n = i := by omega
      have e : zs.drop n = [] := List.drop_of_length_le (by have := HL.out; omega)
      have HRx : Hid (R = 0) := aside (by rw [HI.out, e]; rfl)
      have i0 : ((n : Int) < (n : Int)) = False := by simp
      clear e
      go_wp2
      (try simp only [Exit.inBlock, Exit.then])
      refine bodyPost_ret (v := .int .i64 0) (by simp only [results, Tryd.results23]; go_simp) rfl ?_
      exact ⟨by rw [HRx.out], rfl⟩
/-- A place's cells. -/
def plC (tx : List Nat) (at_ : Int) : List Value := digC tx ++ [.int .i64 at_]
theorem plC_len (tx : List Nat) (at_ : Int) : (plC tx at_).length = 33 := by simp [plC, digC_len]
theorem plC_at (tx : List Nat) (at_ : Int) : (plC tx at_)[32]? = some (.int .i64 at_) := by
  unfold plC
  rw [List.getElem?_append_right (by rw [digC_len]; exact Nat.le_refl _), digC_len]
  rfl
theorem plC_tx (tx : List Nat) (at_ : Int) {j : Nat} (h : j < 32) : (plC tx at_)[j]? = some (.int .u8 ((tx.getD j 0 : Nat) : Int)) := by
  unfold plC
  rw [List.getElem?_append_left (by rw [digC_len]; exact h)]
  unfold digC
  rw [List.getElem?_map, List.getElem?_range h]
  rfl
/-- Which of two places is ahead. -/
def cmpP (tx : List Nat) (a : Int) (tx' : List Nat) (a' : Int) : Int := orL [cmpY tx tx', cmpI a a']
set_option maxHeartbeats 20000000 in
set_option maxRecDepth 100000 in
theorem cmpP_any (tx tx' : List Nat) (at_ at' : Int) (hx : tx.length = 32) (hx' : tx'.length = 32) (w : World) :
    Calls Tryd.prog 12 #[.agg (plC tx at_).toArray, .agg (plC tx' at').toArray] w (fun e w' => e = .returned (.int .i64 (cmpP tx at_ tx' at')) ∧ Below w.heap.size w w') := by
  have B1 : Hid (Below w.heap.size w ((w.alloc (.cells (plC tx at_).toArray 38)).alloc (.cells (plC tx' at').toArray 38))) := aside (((Below.refl _ _).alloc (Nat.le_refl _) _).alloc (by simp) _)
  have D0 : Hid (((w.alloc (.cells (plC tx at_).toArray 38)).alloc (.cells (plC tx' at').toArray 38)).heap[w.heap.size]? = some (.cells (plC tx at_).toArray 38 (0, 0))) := aside ((Below.heap_alloc _ _ _ (by simp)).trans (heap_alloc_new w _))
  have D1 : Hid (((w.alloc (.cells (plC tx at_).toArray 38)).alloc (.cells (plC tx' at').toArray 38)).heap[w.heap.size + 1]? = some (.cells (plC tx' at').toArray 38 (0, 0))) := aside (by
    have h := heap_alloc_new (w.alloc (.cells (plC tx at_).toArray 38)) (.cells (plC tx' at').toArray 38)
    rwa [show (w.alloc (.cells (plC tx at_).toArray 38)).heap.size = w.heap.size + 1 by simp] at h)
  go_enter Tryd.func12, Tryd.ntmps12
  go_wp2_with fail
  generalize ((w.alloc (.cells (plC tx at_).toArray 38)).alloc (.cells (plC tx' at').toArray 38)) = w1 at B1 D0 D1 ⊢
  obtain ⟨B0, hB0⟩ : ∃ B0, B0 = w.heap.size := ⟨_, rfl⟩
  have EB := aside hB0
  simp only [← hB0] at D0 D1 ⊢
  clear hB0
  have l0 : B0 < w1.heap.size := (Array.getElem?_eq_some_iff.1 D0.out).1
  have l1 : B0 + 1 < w1.heap.size := (Array.getElem?_eq_some_iff.1 D1.out).1
  have p0 : w1.cell? ⟨B0, 32, none⟩ = some (.int .i64 at_) := by rw [cell_of_row _ _ 32 _ _ _ D0.out, List.getElem?_toArray]; exact plC_at _ _
  have p1 : w1.cell? ⟨B0 + 1, 32, none⟩ = some (.int .i64 at') := by rw [cell_of_row _ _ 32 _ _ _ D1.out, List.getElem?_toArray]; exact plC_at _ _
  have Y0 : YSl w1.drew w1.drew.heap.size (some ⟨B0, 0, none⟩) 32 tx := YSl.of hx l0 fun k hk => by
    rw [Nat.zero_add]
    show w1.cell? _ = _
    rw [cell_of_row _ _ k _ _ _ D0.out, List.getElem?_toArray]
    exact plC_tx _ _ hk
  have Y1 : YSl w1.drew w1.drew.heap.size (some ⟨B0 + 1, 0, none⟩) 32 tx' := YSl.of hx' l1 fun k hk => by
    rw [Nat.zero_add]
    show w1.cell? _ = _
    rw [cell_of_row _ _ k _ _ _ D1.out, List.getElem?_toArray]
    exact plC_tx _ _ hk
  have HBC := aside (bcmp_any tx tx' (some ⟨B0, 0, none⟩) (some ⟨B0 + 1, 0, none⟩) 32 32 32 32 w1.drew Y0 Y1)
  obtain ⟨r1, hr1⟩ : ∃ r, r = cmpY tx tx' := ⟨_, rfl⟩
  have HCI := aside (cmp_any at_ at')
  have HCE : Hid (orL [r1, cmpI at_ at'] = cmpP tx at_ tx' at') := aside (by rw [hr1]; rfl)
  rw [← hr1] at HBC
  obtain ⟨r2, hr2⟩ : ∃ r, r = cmpI at_ at' := ⟨_, rfl⟩
  rw [← hr2] at HCI HCE
  have HOR : Hid (Calls Tryd.prog 23 #[.slice (some ⟨w1.heap.size, 0, none⟩) 2 2] (w1.alloc (.cells #[.int .i64 r1, .int .i64 r2] 3)).drew (fun e w' => e = .returned (.int .i64 (orL [r1, r2])) ∧ w' = (w1.alloc (.cells #[.int .i64 r1, .int .i64 r2] 3)).drew)) := aside (or_any [r1, r2] (some ⟨w1.heap.size, 0, none⟩) 2 2 (by decide) _ ⟨rfl, fun _ => ⟨w1.heap.size, 0, rfl, by show w1.heap.size < (w1.alloc _).heap.size; simp, fun j u hu => by
    show (w1.alloc _).cell? _ = _
    rw [Nat.zero_add, cell_of_row _ _ j _ _ _ (heap_alloc_new w1 _), List.getElem?_toArray]
    exact hu⟩⟩)
  generalize orL [r1, r2] = R at HOR HCE
  have HS0 : w1.drew.cell? ⟨B0, 32, none⟩ = some (.int .i64 at_) ∧ w1.drew.cell? ⟨B0 + 1, 32, none⟩ = some (.int .i64 at') := ⟨p0, p1⟩
  have HS1 : (w1.alloc (.cells #[.int .i64 r1, .int .i64 r2] 3)).drew.cell? ⟨B0, 32, none⟩ = some (.int .i64 at_) ∧ (w1.alloc (.cells #[.int .i64 r1, .int .i64 r2] 3)).drew.cell? ⟨B0 + 1, 32, none⟩ = some (.int .i64 at') := ⟨(World.cell?_alloc_lt _ _ _ l0).trans p0, (World.cell?_alloc_lt _ _ _ l1).trans p1⟩
  clear Y0 Y1 hr1 hr2 p0 p1 D0 D1
  go_region_held3 (fun X => X.cell? ⟨B0, 32, none⟩ = some (.int .i64 at_) ∧ X.cell? ⟨B0 + 1, 32, none⟩ = some (.int .i64 at'))
    (first | exact HS0 | exact HS1)
    (first | (go_at_call 24; refine HBC.out.mono ?_; rintro e w' ⟨rfl, rfl⟩) | (go_at_call 25; refine (HCI.out _).mono ?_; rintro e w' ⟨rfl, rfl⟩) | (go_at_call 23; refine HOR.out.mono ?_; rintro e w' ⟨rfl, rfl⟩))
  all_goals go_wp2
  all_goals go_ret
  all_goals exact ⟨by rw [← HCE.out] <;> rfl, below_drawn (B1.out.alloc B1.out.size _) 1⟩
end Go.Proofs.YtiigggbghgfdoaaDoor
