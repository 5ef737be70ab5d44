/- A peg's piles and returns: searched: the walks. Conditions: named in each theorem. -/
import Derived.Test.YtcmlhopidohimaaDoorPegC
namespace Go.Proofs.YtcmlhopidohimaaDoor
open Go.RowKit Go.ChangeShapes Go.WideShapes Go.ChangeAt

/-- A peg, as a value. -/
def pegV (k : Int) (A1 : Option Addr) (n1 c1 : Nat) (A2 : Option Addr) (n2 c2 : Nat) (A3 : Option Addr) (n3 c3 : Nat) : Value :=
  .agg #[.int .i64 k, .slice A1 n1 c1, .slice A2 n2 c2, .slice A3 n3 c3]
/-- What one has. -/
def amtP (t : Int) (ps : List (Int × Int)) : Int := if hasB keyP t ps then (ps.getD (lbN keyP t ps) (0, 0)).2 else 0

set_option maxHeartbeats 1000000 in
set_option maxRecDepth 100000 in
theorem pile_any (ps : List (Int × Int)) (hs : Asc keyP ps) (k : Int) (A1 : Option Addr) (n1 c1 : Nat) (A2 : Option Addr) (n2 c2 : Nat) (A3 : Option Addr) (n3 c3 : Nat) (t : Int) (w : World) (h : FSl encP 2 w w.heap.size A1 n1 ps) (hn : n1 ≤ 1000) :
    Calls Tryd.prog 39 #[pegV k A1 n1 c1 A2 n2 c2 A3 n3 c3, .int .i64 t] w (fun e w' => e = .returned (.tuple #[.int .i64 (lbN keyP t ps), .bool (hasB keyP t ps)]) ∧ Below w.heap.size w w') := by
  have hb : ∀ o, Below w.heap.size w (w.alloc o) := fun o => (Below.refl _ _).alloc (Nat.le_refl _) o
  have HC : ∀ o, Hid (Calls Tryd.prog 58 #[.slice A1 n1 c1, .int .i64 t, .func (.func 59) #[] #[]] (w.alloc o) (fun e w' => e = .returned (.tuple #[.int .i64 (lbN keyP t ps), .bool (hasB keyP t ps)]) ∧ Below w.heap.size w w')) := fun o =>
    aside ((findP_any ps hs A1 n1 c1 t (w.alloc o) ((FSl.below h (hb o)).more (by simp)) hn).mono (fun e w' ⟨h1, h2⟩ => ⟨h1, (hb o).trans (h2.mono (by simp))⟩))
  clear h hs hb
  generalize lbN keyP t ps = L at HC ⊢
  generalize hasB keyP t ps = H at HC ⊢
  unfold pegV
  go_enter Tryd.func39, Tryd.ntmps39
  go_wp2_with (go_at_call 58; refine (HC _).out.mono ?_; rintro e w2 ⟨rfl, hb2⟩; have HB2 := aside hb2; clear hb2)
  go_ret2
  exact ⟨rfl, HB2.out⟩

set_option maxHeartbeats 1000000 in
set_option maxRecDepth 100000 in
theorem ret_any (rs : List (Int × Int × Bool)) (hs : Asc keyR rs) (k : Int) (A1 : Option Addr) (n1 c1 : Nat) (A2 : Option Addr) (n2 c2 : Nat) (A3 : Option Addr) (n3 c3 : Nat) (t : Int) (w : World) (h : FSl encR 3 w w.heap.size A3 n3 rs) (hn : n3 ≤ 1000) :
    Calls Tryd.prog 36 #[pegV k A1 n1 c1 A2 n2 c2 A3 n3 c3, .int .i64 t] w (fun e w' => e = .returned (.tuple #[.int .i64 (lbN keyR t rs), .bool (hasB keyR t rs)]) ∧ Below w.heap.size w w') := by
  have hb : ∀ o, Below w.heap.size w (w.alloc o) := fun o => (Below.refl _ _).alloc (Nat.le_refl _) o
  have HC : ∀ o, Hid (Calls Tryd.prog 49 #[.slice A3 n3 c3, .int .i64 t, .func (.func 50) #[] #[]] (w.alloc o) (fun e w' => e = .returned (.tuple #[.int .i64 (lbN keyR t rs), .bool (hasB keyR t rs)]) ∧ Below w.heap.size w w')) := fun o =>
    aside ((findR_any rs hs A3 n3 c3 t (w.alloc o) ((FSl.below h (hb o)).more (by simp)) hn).mono (fun e w' ⟨h1, h2⟩ => ⟨h1, (hb o).trans (h2.mono (by simp))⟩))
  clear h hs hb
  generalize lbN keyR t rs = L at HC ⊢
  generalize hasB keyR t rs = H at HC ⊢
  unfold pegV
  go_enter Tryd.func36, Tryd.ntmps36
  go_wp2_with (go_at_call 49; refine (HC _).out.mono ?_; rintro e w2 ⟨rfl, hb2⟩; have HB2 := aside hb2; clear hb2)
  go_ret2
  exact ⟨rfl, HB2.out⟩

theorem has_lt {α : Type} {key : α → Int} {t : Int} {xs : List α} (h : hasB key t xs = true) : lbN key t xs < xs.length := by
  refine Nat.lt_of_not_le fun hn => ?_
  rw [has_none rfl hn] at h
  cases h
set_option maxHeartbeats 1000000 in
set_option maxRecDepth 100000 in
theorem amount_any (ps : List (Int × Int)) (hs : Asc keyP ps) (k : Int) (A1 : Option Addr) (n1 c1 : Nat) (A2 : Option Addr) (n2 c2 : Nat) (A3 : Option Addr) (n3 c3 : Nat) (t : Int) (w : World) (h : FSl encP 2 w w.heap.size A1 n1 ps) (hn : n1 ≤ 1000) :
    Calls Tryd.prog 28 #[pegV k A1 n1 c1 A2 n2 c2 A3 n3 c3, .int .i64 t] w (fun e w' => e = .returned (.int .i64 (amtP t ps)) ∧ Below w.heap.size w w') := by
  have hln := FSl.len encP_len (by decide) h
  obtain ⟨o1, ho1⟩ : ∃ o : Obj, o = .cells #[.int .i64 k, .slice A1 n1 c1, .slice A2 n2 c2, .slice A3 n3 c3] 26 := ⟨_, rfl⟩
  have hb : Below w.heap.size w (w.alloc o1) := (Below.refl _ _).alloc (Nat.le_refl _) o1
  have hp : (w.alloc o1).cell? ⟨w.heap.size, 1, none⟩ = some (.slice A1 n1 c1) := by rw [ho1]; exact World.cell?_alloc_at _ _ _ _ (by simp)
  have hsl : FSl encP 2 (w.alloc o1) (w.alloc o1).heap.size A1 n1 ps := (FSl.below h hb).more (by simp)
  have hC : Calls Tryd.prog 39 #[pegV k A1 n1 c1 A2 n2 c2 A3 n3 c3, .int .i64 t] (w.alloc o1) (fun e w' => e = .returned (.tuple #[.int .i64 (lbN keyP t ps), .bool (hasB keyP t ps)]) ∧ Below w.heap.size w w' ∧ w'.cell? ⟨w.heap.size, 1, none⟩ = some (.slice A1 n1 c1) ∧ FSl encP 2 w' (w.alloc o1).heap.size A1 n1 ps) :=
    (pile_any ps hs k A1 n1 c1 A2 n2 c2 A3 n3 c3 t (w.alloc o1) hsl hn).mono (fun e w' ⟨h1, h2⟩ => ⟨h1, hb.trans (h2.mono (by simp)), (h2.cell (p := ⟨w.heap.size, 1, none⟩) (by simp)).trans hp, FSl.below hsl h2⟩)
  have HC := aside hC
  unfold amtP
  cases hh : hasB keyP t ps with
  | true =>
    have hlt := has_lt hh
    rw [hh] at HC
    rw [if_pos rfl]
    obtain ⟨L, hL⟩ : ∃ L, L = lbN keyP t ps := ⟨_, rfl⟩
    rw [← hL] at HC hlt ⊢
    rw [hln] at hlt
    obtain ⟨y, hy⟩ : ∃ y, y = ps.getD L (0, 0) := ⟨_, rfl⟩
    rw [← hy]
    have HY := aside hy
    clear hy
    clear h hs hb hC hp hsl hh hL
    rw [ho1] at HC
    clear ho1
    unfold pegV at HC ⊢
    go_enter Tryd.func28, Tryd.ntmps28
    go_wp2_with (go_at_call 39; refine HC.out.mono ?_; rintro e w2 ⟨rfl, hb2, k1, hsl2⟩; have HB2 := aside hb2; clear hb2; (obtain ⟨b, off, rfl, hbl, hcl⟩ := FSl.at_ (k := L) encP_len (by decide) (0, 0) hsl2 hlt); rw [← HY.out] at hcl; have cc := hcl 1 _ rfl; clear hcl hbl hsl2)
    go_ret
    exact ⟨rfl, HB2.out⟩
  | false =>
    rw [hh] at HC
    rw [if_neg (by decide)]
    generalize lbN keyP t ps = L at HC
    clear h hs hb hC hp hsl hh
    rw [ho1] at HC
    clear ho1
    unfold pegV at HC ⊢
    go_enter Tryd.func28, Tryd.ntmps28
    go_wp2_with (go_at_call 39; refine HC.out.mono ?_; rintro e w2 ⟨rfl, hb2, -, -⟩; have HB2 := aside hb2; clear hb2)
    go_ret
    exact ⟨rfl, HB2.out⟩
end Go.Proofs.YtcmlhopidohimaaDoor
