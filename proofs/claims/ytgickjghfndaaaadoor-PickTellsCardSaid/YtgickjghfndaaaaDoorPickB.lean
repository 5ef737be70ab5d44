/- The comparison of pick.Great, and the places of all amounts. Conditions: named in each theorem. -/
import Derived.Test.YtgickjghfndaaaaDoorPickA
import Derived.Test.YtgickjghfndaaaaDoorRow
namespace Go.Proofs.YtgickjghfndaaaaDoor
open Go.RowKit Go.ChangeShapes Go.WideShapes Go.ChangeAt

/-- What lies at a place. -/
def atZ (ns : List Int) (x : Int) : Int := nth ns x.toNat
def OkZ (n : Nat) (x : Int) : Prop := 0 ≤ x ∧ x < n
set_option maxHeartbeats 4000000 in
set_option maxRecDepth 100000 in
theorem great1_any (ns : List Int) (A : Option Addr) (n c nb : Nat) (_hn : n ≤ 1000) (i j : Nat) (hi : i < n) (hj : j < n) (B : Nat) (W : World) (hB : B ≤ W.heap.size) (hnb : nb < W.heap.size) (hc : W.cell? ⟨nb, 0, none⟩ = some (.slice A n c)) (h : ISl W B A n ns) :
    Calls Tryd.prog 24 #[.int .i64 (i : Int), .int .i64 (j : Int), .pointer (some ⟨nb, 0, none⟩)] W (fun e w' => e = .returned (.int .i64 (cmpI (nth ns j) (nth ns i))) ∧ Below W.heap.size W w') := by
  obtain ⟨b, o, hAe, hbl, c1⟩ := ISl.at_ h hi
  obtain ⟨b', o', e, -, c2⟩ := ISl.at_ h hj
  rw [hAe] at e
  injection e with e
  injection e with e1 e2
  subst e1 e2
  generalize nth ns i = x at c1
  generalize nth ns j = y at c2
  have hbl2 : b < W.heap.size := Nat.lt_of_lt_of_le hbl hB
  subst hAe
  have hS : Hid (∀ X, Below W.heap.size W X → X.cell? ⟨nb, 0, none⟩ = some (.slice (some ⟨b, o, none⟩) n c) ∧ X.cell? ⟨b, o + i, none⟩ = some (.int .i64 x) ∧ X.cell? ⟨b, o + j, none⟩ = some (.int .i64 y)) := aside (fun X hX => ⟨(hX.cell (p := ⟨nb, 0, none⟩) hnb).trans hc, (hX.cell (p := ⟨b, o + i, none⟩) hbl2).trans c1, (hX.cell (p := ⟨b, o + j, none⟩) hbl2).trans c2⟩)
  have HD : Below W.heap.size W W.drew := ⟨rfl, rfl, rfl, Nat.le_refl _, fun _ _ => rfl⟩
  have HS0 := hS.out _ HD
  have HDD := aside HD
  have hiz : (i : Int) < (n : Int) := by omega
  have hjz : (j : Int) < (n : Int) := by omega
  have HC := aside (cmp_any y x)
  generalize cmpI y x = r at HC ⊢
  clear h hc c1 c2 hbl hbl2 hnb hB HD
  go_enter Tryd.func24, Tryd.ntmps24
  go_wp2_with fail
  go_region_held3 (fun X => X.cell? ⟨nb, 0, none⟩ = some (.slice (some ⟨b, o, none⟩) n c) ∧ X.cell? ⟨b, o + i, none⟩ = some (.int .i64 x) ∧ X.cell? ⟨b, o + j, none⟩ = some (.int .i64 y))
    (with_reducible exact HS0)
    (first | (go_at_call 25; refine (HC.out _).mono ?_; rintro e w1 ⟨rfl, rfl⟩))
  go_wp2
  go_ret
  exact ⟨rfl, HDD.out⟩
/-- The comparison, wherever the sort may stand. -/
theorem cmpC_of (ns : List Int) (A : Option Addr) (n c nb g : Nat) (hn : n ≤ 1000) (B : Nat) (W : World) (hB : B ≤ W.heap.size) (hBg : B ≤ g) (hnb : nb < W.heap.size) (hng : nb ≠ g) (hc : W.cell? ⟨nb, 0, none⟩ = some (.slice A n c)) (h : ISl W B A n ns) : CmpC g W nb (atZ ns) (OkZ n) := by
  intro W' x y hu hx hy
  obtain ⟨i, rfl⟩ : ∃ i : Nat, x = (i : Int) := ⟨x.toNat, by have := hx.1; omega⟩
  obtain ⟨j, rfl⟩ : ∃ j : Nat, y = (j : Int) := ⟨y.toNat, by have := hy.1; omega⟩
  unfold OkZ at hx hy
  have h' : ISl W' B A n ns := Sl.keep h fun p hp => hu.cell (by omega) (by omega)
  have := great1_any ns A n c nb hn i j (by omega) (by omega) B W' (Nat.le_trans hB hu.size) (Nat.lt_of_lt_of_le hnb hu.size) ((hu.cell (p := ⟨nb, 0, none⟩) hnb hng).trans hc) h'
  unfold atZ
  rwa [Int.toNat_natCast, Int.toNat_natCast]
theorem infoZ : (Tryd.prog.info? 3).map (fun i => (i.zero, i.size, i.bytes)) = some (some (.int .i64 0), 1, 8) := by kernel_rfl
abbrev OwnZ (w : World) (base : Nat) (v : Value) (n : Nat) (xs : List Int) : Prop := w.ownsRow base 3 1 v n (xs.map (Value.int .i64))
theorem ownZ_nil (w : World) (base : Nat) : OwnZ w base (.slice none 0 0) 0 [] := ⟨by simp, .inl ⟨rfl, rfl⟩⟩
theorem ownZ_row {w : World} {base n c : Nat} {A : Option Addr} {xs : List Int} (h : OwnZ w base (.slice A n c) n xs) (hn : 0 < n) : ∃ g, A = some ⟨g, 0, none⟩ ∧ base ≤ g ∧ RowAt w g xs := by
  obtain ⟨g, cur, e, hb, hg, hnc, hcm, hl, ht⟩ := own_open h (.inl hn)
  refine ⟨g, e, hb, cur.drop (n * 1), ?_⟩
  rw [hg, ← ht, List.take_append_drop]
theorem ownZ_isl {w : World} {base n c : Nat} {A : Option Addr} {xs : List Int} (h : OwnZ w base (.slice A n c) n xs) : ISl w w.heap.size A n xs := Sl.own h
theorem row_isl {w : World} {g n : Nat} {xs : List Int} (h : RowAt w g xs) (hn : xs.length = n) : ISl w w.heap.size (some ⟨g, 0, none⟩) n xs := by
  refine ⟨by simpa using hn, fun _ => ⟨g, 0, rfl, h.lt, fun j v hv => ?_⟩⟩
  rw [List.getElem?_map] at hv
  obtain ⟨x, hx, rfl⟩ := Option.map_eq_some_iff.1 hv
  have hj := (List.getElem?_eq_some_iff.1 hx).1
  have hc := (h.cell hj).1
  rw [nth_get hj] at hc
  rw [Nat.zero_add, hc, ← (List.getElem?_eq_some_iff.1 hx).2]
/-- All places of so many. -/
def rangeZ (n : Nat) : List Int := (List.range n).map Int.ofNat
theorem rangeZ_len (n : Nat) : (rangeZ n).length = n := by unfold rangeZ; simp
theorem rangeZ_succ (n : Nat) : rangeZ (n + 1) = rangeZ n ++ [(n : Int)] := by
  unfold rangeZ
  rw [List.range_succ, List.map_append]
  rfl
theorem rangeZ_mem {n : Nat} {x : Int} : x ∈ rangeZ n ↔ OkZ n x := by
  unfold rangeZ OkZ
  rw [List.mem_map]
  constructor
  · rintro ⟨k, hk, rfl⟩
    have := List.mem_range.1 hk
    simp only [Int.ofNat_eq_natCast]
    omega
  · rintro ⟨h1, h2⟩
    exact ⟨x.toNat, List.mem_range.2 (by omega), by simp only [Int.ofNat_eq_natCast]; omega⟩
theorem rangeZ_rise (n : Nat) : Rise (rangeZ n) := by
  induction n with
  | zero => exact List.Pairwise.nil
  | succ n ih =>
    rw [rangeZ_succ]
    unfold Rise at ih ⊢
    rw [List.pairwise_append]
    refine ⟨ih, by simp, fun x hx y hy => ?_⟩
    have := (rangeZ_mem.1 hx).2
    simp at hy
    omega
set_option maxHeartbeats 4000000 in
set_option maxRecDepth 100000 in
theorem places_any (A : Option Addr) (n c : Nat) (hn : n ≤ 1000) (w : World) :
    Calls Tryd.prog 22 #[.slice A n c] w (fun e w' => ∃ A' c', e = .returned (.slice A' n c') ∧ OwnZ w' w.heap.size (.slice A' n c') n (rangeZ n) ∧ Below w.heap.size w w') := by
  have HO : Hid (OwnZ w w.heap.size (.slice none 0 0) 0 (rangeZ 0)) := aside (ownZ_nil _ _)
  have HB := aside (Below.refl w.heap.size w)
  go_enter Tryd.func22, Tryd.ntmps22
  go_wp2
  go_loopw [3, 7] (fun v3 v7 wr => ∃ (i : Nat) (A1 : Option Addr) (c1 : Nat), i ≤ n ∧ v7 = .int .i64 i ∧ v3 = .slice A1 i c1 ∧ Hid (OwnZ wr w.heap.size (.slice A1 i c1) i (rangeZ i)) ∧ Hid (Below w.heap.size w wr)) (fun _ v7 _ => n - (Go.RowKit.intOf v7).toNat)
  case atStart => exact ⟨0, none, 0, Nat.zero_le _, rfl, rfl, HO, HB⟩
  case round =>
    clear HO HB
    obtain ⟨i, A1, c1, hi, rfl, rfl, HO, HB⟩ := hrel
    by_cases hin : i < n
    · have i0 : (i : Int) < (n : Int) := by omega
      have hbz := HB.out.size
      go_wp2_with (first
        | (at_builtin; refine wpList_push rfl (.tmp 10) (.tmp 12) 22 rfl w.heap.size _ 1 8 Tryd.underlying22 infoZ rfl (by decide) (.slice A1 i c1) i _ rfl rfl rfl rfl HO.out (by omega) (by unfold maxLen; omega) hbz ?_; intro A3 c3 w3 hc3 hc3' hown3 hb3 hz3' hg3)
        | fail)
      have HO3 : Hid (OwnZ w3 w.heap.size (.slice A3 (i + 1) c3) (i + 1) (rangeZ (i + 1))) := aside (by rw [rangeZ_succ]; show w3.ownsRow _ _ _ _ _ _; rw [List.map_append]; exact hown3)
      have H3 := aside (HB.out.trans hb3)
      clear hown3 hb3 hg3
      exact ⟨⟨i + 1, A3, c3, by omega, by go_num, rfl, HO3, H3⟩, by simp [Go.RowKit.intOf]; omega⟩
    · obtain rfl : n = i := by omega
      have i0 : ((n : Int) < (n : Int)) = False := by simp
      go_wp2
      go_ret
      exact ⟨A1, c1, rfl, HO.out, HB.out⟩
end Go.Proofs.YtgickjghfndaaaaDoor
