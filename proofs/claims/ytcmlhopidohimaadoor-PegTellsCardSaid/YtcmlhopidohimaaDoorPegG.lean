/- What rises: the walks. Conditions: named in each theorem. -/
import Derived.Test.YtcmlhopidohimaaDoorPegF
import Derived.Deep.RegionHeld3
namespace Go.Proofs.YtcmlhopidohimaaDoor
open Go.RowKit Go.ChangeShapes Go.WideShapes Go.ChangeAt

/-- The first of the faults. -/
def firstE (f : Nat → Int) : Nat → Int
  | 0 => 0
  | n + 1 => if firstE f n ≠ 0 then firstE f n else f n
theorem firstE_next {f : Nat → Int} {i : Nat} (h : firstE f i = 0) : firstE f (i + 1) = f i := by
  show (if firstE f i ≠ 0 then firstE f i else f i) = f i
  rw [h]
  rfl
theorem firstE_keep {f : Nat → Int} {i : Nat} (h : firstE f i ≠ 0) : ∀ m, firstE f (i + m) = firstE f i
  | 0 => rfl
  | m + 1 => by
    have ih := firstE_keep h m
    show (if firstE f (i + m) ≠ 0 then firstE f (i + m) else f (i + m)) = _
    rw [ih, if_pos h]
theorem firstE_at {f : Nat → Int} {i n : Nat} (hin : i < n) (h : firstE f i = 0) (hf : f i ≠ 0) : firstE f n = f i := by
  have h1 := firstE_next h
  have h2 := firstE_keep (f := f) (i := i + 1) (by rw [h1]; exact hf) (n - (i + 1))
  rw [show i + 1 + (n - (i + 1)) = n by omega, h1] at h2
  exact h2
theorem firstE_zero {f : Nat → Int} : ∀ {n : Nat}, firstE f n = 0 ↔ ∀ k, k < n → f k = 0
  | 0 => ⟨fun _ k hk => absurd hk (Nat.not_lt_zero _), fun _ => rfl⟩
  | n + 1 => by
    have ih := firstE_zero (f := f) (n := n)
    by_cases h : firstE f n = 0
    · rw [firstE_next h]
      constructor
      · intro h1 k hk
        rcases Nat.lt_or_ge k n with h2 | h2
        · exact ih.1 h k h2
        · rw [show k = n by omega]; exact h1
      · intro h1
        exact h1 n (by omega)
    · rw [firstE_keep (m := 1) h]
      exact ⟨fun e => absurd e h, fun h1 => ih.2 fun k hk => h1 k (by omega)⟩
/-- It does not rise there. -/
def risE {α : Type} (key : α → Int) (d : α) (xs : List α) (k : Nat) : Int := if 0 < k ∧ key (xs.getD k d) ≤ key (xs.getD (k - 1) d) then 6 else 0

theorem keyfP_any (x : (Int × Int)) (w : World) : Calls Tryd.prog 22 #[.agg #[.int .i64 x.1, .int .i64 x.2]] w (fun e w' => e = .returned (.int .i64 x.1) ∧ Below w.heap.size w w') := by
  obtain ⟨a, b⟩ := x
  have HB := aside ((Below.refl w.heap.size w).alloc (Nat.le_refl _) (.cells #[.int .i64 a, .int .i64 b] 46))
  go_enter Tryd.func22, Tryd.ntmps22
  go_wp2
  go_ret
  exact ⟨rfl, HB.out⟩

set_option maxHeartbeats 2000000 in
set_option maxRecDepth 100000 in
theorem risesP_any (xs : List (Int × Int)) (A : Option Addr) (n c : Nat) (w : World) (h : FSl encP 2 w w.heap.size A n xs) (hn : n ≤ 1000) :
    Calls Tryd.prog 21 #[.slice A n c, .func (.func 22) #[] #[]] w (fun e w' => e = .returned (.bool (decide (firstE (risE keyP (0, 0) xs) n = 0))) ∧ Below w.heap.size w w') := by
  have hln := FSl.len encP_len (by decide) h
  have HS := aside h
  have HB0 := aside (Below.refl w.heap.size w)
  clear h
  go_enter Tryd.func21, Tryd.ntmps21
  go_wp2
  go_loopw [8] (fun v8 wr => ∃ i : Nat, i ≤ n ∧ v8 = .int .i64 i ∧ Hid (Below w.heap.size w wr) ∧ Hid (firstE (risE keyP (0, 0) xs) i = 0)) (fun v8 _ => n - (Go.RowKit.intOf v8).toNat)
  case atStart => exact ⟨0, by omega, rfl, HB0, aside rfl⟩
  case round =>
    clear HB0
    obtain ⟨i, hi, rfl, HB, HE⟩ := hrel
    by_cases hin : i < n
    · by_cases h0 : i = 0
      · subst h0
        have hin' : (0 : Int) < (n : Int) := by omega
        have HB2 := aside (below_drawn HB.out 1)
        go_wp2
        go_region
        go_wp2
        exact ⟨⟨1, by omega, by go_num, HB2, aside rfl⟩, by simp [Go.RowKit.intOf]; omega⟩
      obtain ⟨j, rfl⟩ : ∃ j, i = j + 1 := ⟨i - 1, by omega⟩
      obtain ⟨b, off, rfl, hbl, hcl⟩ := FSl.at_ (k := j + 1) encP_len (by decide) (0, 0) (FSl.below HS.out HB.out) hin
      obtain ⟨b', off', e, -, hcl'⟩ := FSl.at_ (k := j) encP_len (by decide) (0, 0) (FSl.below HS.out HB.out) (by omega)
      injection e with e
      injection e with e1 e2
      subst e1 e2
      obtain ⟨y, hy⟩ : ∃ y, xs.getD (j + 1) (0, 0) = y := ⟨_, rfl⟩
      obtain ⟨z, hz⟩ : ∃ z, xs.getD j (0, 0) = z := ⟨_, rfl⟩
      have hE : risE keyP (0, 0) xs (j + 1) = if keyP y ≤ keyP z then 6 else 0 := by
        unfold risE
        rw [Nat.add_sub_cancel, hy, hz]
        simp
      rw [hy] at hcl
      rw [hz] at hcl'
      clear hy hz
      obtain ⟨ya, yb⟩ := y
      obtain ⟨za, zb⟩ := z
      have c0 := hcl 0 _ rfl
      have c1 := hcl 1 _ rfl
      rw [Nat.add_zero] at c0
      have d0 := hcl' 0 _ rfl
      have d1 := hcl' 1 _ rfl
      rw [Nat.add_zero] at d0
      clear hcl hcl'
      obtain ⟨i, hij⟩ : ∃ i, i = j + 1 := ⟨_, rfl⟩
      rw [← hij] at hE c0 hin hi HE c1 ⊢
      have hbl : b < wr.heap.size := Nat.lt_of_lt_of_le hbl HB.out.size
      have hS : ∀ X, Below wr.heap.size wr X → X.cell? ⟨b, off + i * 2, none⟩ = some (.int .i64 ya) ∧ X.cell? ⟨b, off + i * 2 + 1, none⟩ = some (.int .i64 yb) ∧ X.cell? ⟨b, off + j * 2, none⟩ = some (.int .i64 za) ∧ X.cell? ⟨b, off + j * 2 + 1, none⟩ = some (.int .i64 zb) := fun X hX => ⟨(hX.cell (p := ⟨b, off + i * 2, none⟩) hbl).trans c0, (hX.cell (p := ⟨b, off + i * 2 + 1, none⟩) hbl).trans c1, (hX.cell (p := ⟨b, off + j * 2, none⟩) hbl).trans d0, (hX.cell (p := ⟨b, off + j * 2 + 1, none⟩) hbl).trans d1⟩
      have HSS := aside hS
      have hB0 : Below wr.heap.size wr wr.drew := below_drawn (Below.refl _ _) 1
      have HX : Hid (∀ X, Below wr.heap.size wr X → Below w.heap.size w X) := aside (fun X hX => HB.out.trans (hX.mono HB.out.size))
      have hw1 : IntKind.i64.wrap ((i : Int) - 1) = (j : Int) := by rw [IntKind.wrap_i64]; omega
      have hjn : (j : Int) < (n : Int) := by omega
      have hin' : (i : Int) < (n : Int) := by omega
      have hi0 : (0 : Int) < (i : Int) := by omega
      have hi0n : 0 < i := by omega
      have hjn' : j < n := by omega
      have HIJ := aside hij
      have HEE := aside hE
      clear c0 d0 c1 d1 hS hE hij h0
      go_wp2
      go_region_held3 (fun X => X.cell? ⟨b, off + i * 2, none⟩ = some (.int .i64 ya) ∧ X.cell? ⟨b, off + i * 2 + 1, none⟩ = some (.int .i64 yb) ∧ X.cell? ⟨b, off + j * 2, none⟩ = some (.int .i64 za) ∧ X.cell? ⟨b, off + j * 2 + 1, none⟩ = some (.int .i64 zb))
        ((refine HSS.out _ ?_; first | with_reducible exact hB0 | with_reducible exact hBb | with_reducible exact hBa))
        (first
          | (go_at_call_of 22 (Value.agg #[.int .i64 ya, .int .i64 yb]); refine (keyfP_any (ya, yb) _).mono ?_; rintro e wa ⟨rfl, hBa0⟩; have hBa := hB0.trans (hBa0.mono hB0.size); clear hBa0)
          | (go_at_call_of 22 (Value.agg #[.int .i64 za, .int .i64 zb]); refine (keyfP_any (za, zb) _).mono ?_; rintro e wb ⟨rfl, hBb0⟩; have hBb := hBa.trans (hBb0.mono hBa.size); clear hBb0)
          | fail)
      have HBb := aside (HX.out _ hBb)
      clear hBb hBa hB0
      by_cases hyz : ya ≤ za
      · have hE2 := aside (HEE.out.trans (if_pos hyz))
        go_wp2
        go_ret
        have hF : decide (firstE (risE keyP (0, 0) xs) n = 0) = false := decide_eq_false (by rw [firstE_at (i := i) (by omega) HE.out (by rw [hE2.out]; decide), hE2.out]; decide)
        exact ⟨by rw [hF]; first | rfl | simp [*], HBb.out⟩
      · have hE2 := aside (HEE.out.trans (if_neg hyz))
        go_wp2
        exact ⟨⟨i + 1, by omega, by go_num, HBb, aside (by rw [firstE_next HE.out]; exact hE2.out)⟩, by simp [Go.RowKit.intOf]; omega⟩
    · obtain rfl : i = n := by omega
      go_wp2
      go_ret
      have hF : decide (firstE (risE keyP (0, 0) xs) i = 0) = true := decide_eq_true HE.out
      exact ⟨by rw [hF]; rfl, HB.out⟩

theorem keyfI_any (x : Int) (w : World) : Calls Tryd.prog 25 #[.int .i64 x] w (fun e w' => e = .returned (.int .i64 x) ∧ Below w.heap.size w w') := by
  have HB := aside (Below.refl w.heap.size w)
  go_enter Tryd.func25, Tryd.ntmps25
  go_wp2
  go_ret
  exact ⟨rfl, HB.out⟩

set_option maxHeartbeats 2000000 in
set_option maxRecDepth 100000 in
theorem risesI_any (xs : List Int) (A : Option Addr) (n c : Nat) (w : World) (h : FSl encI 1 w w.heap.size A n xs) (hn : n ≤ 1000) :
    Calls Tryd.prog 24 #[.slice A n c, .func (.func 25) #[] #[]] w (fun e w' => e = .returned (.bool (decide (firstE (risE keyI 0 xs) n = 0))) ∧ Below w.heap.size w w') := by
  have hln := FSl.len encI_len (by decide) h
  have HS := aside h
  have HB0 := aside (Below.refl w.heap.size w)
  clear h
  go_enter Tryd.func24, Tryd.ntmps24
  go_wp2
  go_loopw [8] (fun v8 wr => ∃ i : Nat, i ≤ n ∧ v8 = .int .i64 i ∧ Hid (Below w.heap.size w wr) ∧ Hid (firstE (risE keyI 0 xs) i = 0)) (fun v8 _ => n - (Go.RowKit.intOf v8).toNat)
  case atStart => exact ⟨0, by omega, rfl, HB0, aside rfl⟩
  case round =>
    clear HB0
    obtain ⟨i, hi, rfl, HB, HE⟩ := hrel
    by_cases hin : i < n
    · by_cases h0 : i = 0
      · subst h0
        have hin' : (0 : Int) < (n : Int) := by omega
        have HB2 := aside (below_drawn HB.out 1)
        go_wp2
        go_region
        go_wp2
        exact ⟨⟨1, by omega, by go_num, HB2, aside rfl⟩, by simp [Go.RowKit.intOf]; omega⟩
      obtain ⟨j, rfl⟩ : ∃ j, i = j + 1 := ⟨i - 1, by omega⟩
      obtain ⟨b, off, rfl, hbl, hcl⟩ := FSl.at_ (k := j + 1) encI_len (by decide) 0 (FSl.below HS.out HB.out) hin
      obtain ⟨b', off', e, -, hcl'⟩ := FSl.at_ (k := j) encI_len (by decide) 0 (FSl.below HS.out HB.out) (by omega)
      injection e with e
      injection e with e1 e2
      subst e1 e2
      obtain ⟨ya, hy⟩ : ∃ y, xs.getD (j + 1) 0 = y := ⟨_, rfl⟩
      obtain ⟨za, hz⟩ : ∃ z, xs.getD j 0 = z := ⟨_, rfl⟩
      have hE : risE keyI 0 xs (j + 1) = if keyI ya ≤ keyI za then 6 else 0 := by
        unfold risE
        rw [Nat.add_sub_cancel, hy, hz]
        simp
      rw [hy] at hcl
      rw [hz] at hcl'
      clear hy hz
      have c0 := hcl 0 _ rfl
      rw [Nat.mul_one, Nat.add_zero] at c0
      have d0 := hcl' 0 _ rfl
      rw [Nat.mul_one, Nat.add_zero] at d0
      clear hcl hcl'
      obtain ⟨i, hij⟩ : ∃ i, i = j + 1 := ⟨_, rfl⟩
      rw [← hij] at hE c0 hin hi HE ⊢
      have hbl : b < wr.heap.size := Nat.lt_of_lt_of_le hbl HB.out.size
      have hS : ∀ X, Below wr.heap.size wr X → X.cell? ⟨b, off + i, none⟩ = some (.int .i64 ya) ∧ X.cell? ⟨b, off + j, none⟩ = some (.int .i64 za) := fun X hX => ⟨(hX.cell (p := ⟨b, off + i, none⟩) hbl).trans c0, (hX.cell (p := ⟨b, off + j, none⟩) hbl).trans d0⟩
      have HSS := aside hS
      have hB0 : Below wr.heap.size wr wr.drew := below_drawn (Below.refl _ _) 1
      have HX : Hid (∀ X, Below wr.heap.size wr X → Below w.heap.size w X) := aside (fun X hX => HB.out.trans (hX.mono HB.out.size))
      have hw1 : IntKind.i64.wrap ((i : Int) - 1) = (j : Int) := by rw [IntKind.wrap_i64]; omega
      have hjn : (j : Int) < (n : Int) := by omega
      have hin' : (i : Int) < (n : Int) := by omega
      have hi0 : (0 : Int) < (i : Int) := by omega
      have hi0n : 0 < i := by omega
      have hjn' : j < n := by omega
      have HIJ := aside hij
      have HEE := aside hE
      clear c0 d0 hS hE hij h0
      go_wp2
      go_region_held3 (fun X => X.cell? ⟨b, off + i, none⟩ = some (.int .i64 ya) ∧ X.cell? ⟨b, off + j, none⟩ = some (.int .i64 za))
        ((refine HSS.out _ ?_; first | with_reducible exact hB0 | with_reducible exact hBb | with_reducible exact hBa))
        (first
          | (go_at_call_of 25 (Value.int .i64 ya); refine (keyfI_any ya _).mono ?_; rintro e wa ⟨rfl, hBa0⟩; have hBa := hB0.trans (hBa0.mono hB0.size); clear hBa0)
          | (go_at_call_of 25 (Value.int .i64 za); refine (keyfI_any za _).mono ?_; rintro e wb ⟨rfl, hBb0⟩; have hBb := hBa.trans (hBb0.mono hBa.size); clear hBb0)
          | fail)
      have HBb := aside (HX.out _ hBb)
      clear hBb hBa hB0
      by_cases hyz : ya ≤ za
      · have hE2 := aside (HEE.out.trans (if_pos hyz))
        go_wp2
        go_ret
        have hF : decide (firstE (risE keyI 0 xs) n = 0) = false := decide_eq_false (by rw [firstE_at (i := i) (by omega) HE.out (by rw [hE2.out]; decide), hE2.out]; decide)
        exact ⟨by rw [hF]; first | rfl | simp [*], HBb.out⟩
      · have hE2 := aside (HEE.out.trans (if_neg hyz))
        go_wp2
        exact ⟨⟨i + 1, by omega, by go_num, HBb, aside (by rw [firstE_next HE.out]; exact hE2.out)⟩, by simp [Go.RowKit.intOf]; omega⟩
    · obtain rfl : i = n := by omega
      go_wp2
      go_ret
      have hF : decide (firstE (risE keyI 0 xs) i = 0) = true := decide_eq_true HE.out
      exact ⟨by rw [hF]; rfl, HB.out⟩

theorem keyfR_any (x : (Int × Int × Bool)) (w : World) : Calls Tryd.prog 27 #[.agg #[.int .i64 x.1, .int .i64 x.2.1, .bool x.2.2]] w (fun e w' => e = .returned (.int .i64 x.1) ∧ Below w.heap.size w w') := by
  obtain ⟨a, b, c⟩ := x
  have HB := aside ((Below.refl w.heap.size w).alloc (Nat.le_refl _) (.cells #[.int .i64 a, .int .i64 b, .bool c] 49))
  go_enter Tryd.func27, Tryd.ntmps27
  go_wp2
  go_ret
  exact ⟨rfl, HB.out⟩

set_option maxHeartbeats 2000000 in
set_option maxRecDepth 100000 in
theorem risesR_any (xs : List (Int × Int × Bool)) (A : Option Addr) (n c : Nat) (w : World) (h : FSl encR 3 w w.heap.size A n xs) (hn : n ≤ 1000) :
    Calls Tryd.prog 26 #[.slice A n c, .func (.func 27) #[] #[]] w (fun e w' => e = .returned (.bool (decide (firstE (risE keyR (0, 0, false) xs) n = 0))) ∧ Below w.heap.size w w') := by
  have hln := FSl.len encR_len (by decide) h
  have HS := aside h
  have HB0 := aside (Below.refl w.heap.size w)
  clear h
  go_enter Tryd.func26, Tryd.ntmps26
  go_wp2
  go_loopw [8] (fun v8 wr => ∃ i : Nat, i ≤ n ∧ v8 = .int .i64 i ∧ Hid (Below w.heap.size w wr) ∧ Hid (firstE (risE keyR (0, 0, false) xs) i = 0)) (fun v8 _ => n - (Go.RowKit.intOf v8).toNat)
  case atStart => exact ⟨0, by omega, rfl, HB0, aside rfl⟩
  case round =>
    clear HB0
    obtain ⟨i, hi, rfl, HB, HE⟩ := hrel
    by_cases hin : i < n
    · by_cases h0 : i = 0
      · subst h0
        have hin' : (0 : Int) < (n : Int) := by omega
        have HB2 := aside (below_drawn HB.out 1)
        go_wp2
        go_region
        go_wp2
        exact ⟨⟨1, by omega, by go_num, HB2, aside rfl⟩, by simp [Go.RowKit.intOf]; omega⟩
      obtain ⟨j, rfl⟩ : ∃ j, i = j + 1 := ⟨i - 1, by omega⟩
      obtain ⟨b, off, rfl, hbl, hcl⟩ := FSl.at_ (k := j + 1) encR_len (by decide) (0, 0, false) (FSl.below HS.out HB.out) hin
      obtain ⟨b', off', e, -, hcl'⟩ := FSl.at_ (k := j) encR_len (by decide) (0, 0, false) (FSl.below HS.out HB.out) (by omega)
      injection e with e
      injection e with e1 e2
      subst e1 e2
      obtain ⟨y, hy⟩ : ∃ y, xs.getD (j + 1) (0, 0, false) = y := ⟨_, rfl⟩
      obtain ⟨z, hz⟩ : ∃ z, xs.getD j (0, 0, false) = z := ⟨_, rfl⟩
      have hE : risE keyR (0, 0, false) xs (j + 1) = if keyR y ≤ keyR z then 6 else 0 := by
        unfold risE
        rw [Nat.add_sub_cancel, hy, hz]
        simp
      rw [hy] at hcl
      rw [hz] at hcl'
      clear hy hz
      obtain ⟨ya, yb, yc⟩ := y
      obtain ⟨za, zb, zc⟩ := z
      have c0 := hcl 0 _ rfl
      have c1 := hcl 1 _ rfl
      have c2 := hcl 2 _ rfl
      rw [Nat.add_zero] at c0
      have d0 := hcl' 0 _ rfl
      have d1 := hcl' 1 _ rfl
      have d2 := hcl' 2 _ rfl
      rw [Nat.add_zero] at d0
      clear hcl hcl'
      obtain ⟨i, hij⟩ : ∃ i, i = j + 1 := ⟨_, rfl⟩
      rw [← hij] at hE c0 hin hi HE c1 c2 ⊢
      have hbl : b < wr.heap.size := Nat.lt_of_lt_of_le hbl HB.out.size
      have hS : ∀ X, Below wr.heap.size wr X → X.cell? ⟨b, off + i * 3, none⟩ = some (.int .i64 ya) ∧ X.cell? ⟨b, off + i * 3 + 1, none⟩ = some (.int .i64 yb) ∧ X.cell? ⟨b, off + i * 3 + 2, none⟩ = some (.bool yc) ∧ X.cell? ⟨b, off + j * 3, none⟩ = some (.int .i64 za) ∧ X.cell? ⟨b, off + j * 3 + 1, none⟩ = some (.int .i64 zb) ∧ X.cell? ⟨b, off + j * 3 + 2, none⟩ = some (.bool zc) := fun X hX => ⟨(hX.cell (p := ⟨b, off + i * 3, none⟩) hbl).trans c0, (hX.cell (p := ⟨b, off + i * 3 + 1, none⟩) hbl).trans c1, (hX.cell (p := ⟨b, off + i * 3 + 2, none⟩) hbl).trans c2, (hX.cell (p := ⟨b, off + j * 3, none⟩) hbl).trans d0, (hX.cell (p := ⟨b, off + j * 3 + 1, none⟩) hbl).trans d1, (hX.cell (p := ⟨b, off + j * 3 + 2, none⟩) hbl).trans d2⟩
      have HSS := aside hS
      have hB0 : Below wr.heap.size wr wr.drew := below_drawn (Below.refl _ _) 1
      have HX : Hid (∀ X, Below wr.heap.size wr X → Below w.heap.size w X) := aside (fun X hX => HB.out.trans (hX.mono HB.out.size))
      have hw1 : IntKind.i64.wrap ((i : Int) - 1) = (j : Int) := by rw [IntKind.wrap_i64]; omega
      have hjn : (j : Int) < (n : Int) := by omega
      have hin' : (i : Int) < (n : Int) := by omega
      have hi0 : (0 : Int) < (i : Int) := by omega
      have hi0n : 0 < i := by omega
      have hjn' : j < n := by omega
      have HIJ := aside hij
      have HEE := aside hE
      clear c0 d0 c1 d1 c2 d2 hS hE hij h0
      go_wp2
      go_region_held3 (fun X => X.cell? ⟨b, off + i * 3, none⟩ = some (.int .i64 ya) ∧ X.cell? ⟨b, off + i * 3 + 1, none⟩ = some (.int .i64 yb) ∧ X.cell? ⟨b, off + i * 3 + 2, none⟩ = some (.bool yc) ∧ X.cell? ⟨b, off + j * 3, none⟩ = some (.int .i64 za) ∧ X.cell? ⟨b, off + j * 3 + 1, none⟩ = some (.int .i64 zb) ∧ X.cell? ⟨b, off + j * 3 + 2, none⟩ = some (.bool zc))
        ((refine HSS.out _ ?_; first | with_reducible exact hB0 | with_reducible exact hBb | with_reducible exact hBa))
        (first
          | (go_at_call_of 27 (Value.agg #[.int .i64 ya, .int .i64 yb, .bool yc]); refine (keyfR_any (ya, yb, yc) _).mono ?_; rintro e wa ⟨rfl, hBa0⟩; have hBa := hB0.trans (hBa0.mono hB0.size); clear hBa0)
          | (go_at_call_of 27 (Value.agg #[.int .i64 za, .int .i64 zb, .bool zc]); refine (keyfR_any (za, zb, zc) _).mono ?_; rintro e wb ⟨rfl, hBb0⟩; have hBb := hBa.trans (hBb0.mono hBa.size); clear hBb0)
          | fail)
      have HBb := aside (HX.out _ hBb)
      clear hBb hBa hB0
      by_cases hyz : ya ≤ za
      · have hE2 := aside (HEE.out.trans (if_pos hyz))
        go_wp2
        go_ret
        have hF : decide (firstE (risE keyR (0, 0, false) xs) n = 0) = false := decide_eq_false (by rw [firstE_at (i := i) (by omega) HE.out (by rw [hE2.out]; decide), hE2.out]; decide)
        exact ⟨by rw [hF]; first | rfl | simp [*], HBb.out⟩
      · have hE2 := aside (HEE.out.trans (if_neg hyz))
        go_wp2
        exact ⟨⟨i + 1, by omega, by go_num, HBb, aside (by rw [firstE_next HE.out]; exact hE2.out)⟩, by simp [Go.RowKit.intOf]; omega⟩
    · obtain rfl : i = n := by omega
      go_wp2
      go_ret
      have hF : decide (firstE (risE keyR (0, 0, false) xs) i = 0) = true := decide_eq_true HE.out
      exact ⟨by rw [hF]; rfl, HB.out⟩

end Go.Proofs.YtcmlhopidohimaaDoor
