/- The reference's acts on pegs: words; begun; PegMove. Conditions: named in each theorem. -/
import Derived.Test.YtcmlhopidohimaaDoorPegRb
namespace Go.Proofs.YtcmlhopidohimaaDoor
open Go.RowKit Go.ChangeShapes Go.WideShapes Go.ChangeAt

theorem below_drew0 {wr w2 : World} (h : Below wr.drew.heap.size wr.drew w2) : Below wr.heap.size wr w2 := ⟨h.os, h.tape, h.output, h.size, h.block⟩
/-- A peg's value reads as s. -/
def ReadAt (W : World) (v : Value) (s : PegS) : Prop := ∃ (l : Int) (A1 : Option Addr) (n1 c1 : Nat) (A2 : Option Addr) (n2 c2 : Nat) (A3 : Option Addr) (n3 c3 : Nat), v = .agg #[.int .i64 l, .slice A1 n1 c1, .slice A2 n2 c2, .slice A3 n3 c3] ∧ l = s.1 ∧ n1 = s.2.1.length ∧ n2 = s.2.2.1.length ∧ n3 = s.2.2.2.length ∧
    FSl encP 2 W W.heap.size A1 n1 s.2.1 ∧ FSl encI 1 W W.heap.size A2 n2 s.2.2.1 ∧ FSl encR 3 W W.heap.size A3 n3 s.2.2.2
theorem PegAt.read {N : Nat} {W : World} {v : Value} {s : PegS} (h : PegAt N W v s) : ReadAt W v s := peg_open h
theorem ReadAt.below {W W' : World} {v : Value} {s : PegS} (h : ReadAt W v s) (hb : Below W.heap.size W W') : ReadAt W' v s := by
  obtain ⟨l, A1, n1, c1, A2, n2, c2, A3, n3, c3, e, e1, e2, e3, e4, h1, h2, h3⟩ := h
  exact ⟨l, A1, n1, c1, A2, n2, c2, A3, n3, c3, e, e1, e2, e3, e4, (FSl.below h1 hb).more hb.size, (FSl.below h2 hb).more hb.size, (FSl.below h3 hb).more hb.size⟩
theorem read_zero (W : World) : ReadAt W (.agg #[.int .i64 0, .slice none 0 0, .slice none 0 0, .slice none 0 0]) emptyS := (zero_at 0 W).read
/-- The box of a peg, and that of what is told, the first two blocks of a call. -/
structure TwoAt (w W : World) (v0 v1 v2 v3 : Value) : Prop where
  below : Below w.heap.size w W
  box : W.heap[w.heap.size]? = some (.cells #[v0, v1, v2, v3] 26 (0, 0))
  res : W.heap[w.heap.size + 1]? = some (.cells #[.int .i64 0, .slice none 0 0, .slice none 0 0, .slice none 0 0] 26 (0, 0))
  size : w.heap.size + 2 ≤ W.heap.size
section
variable {w W W' : World} {v0 v1 v2 v3 : Value}
theorem two_first (w : World) (v0 v1 v2 v3 : Value) : TwoAt w ((w.alloc (.cells #[v0, v1, v2, v3] 26)).alloc (.cells #[.int .i64 0, .slice none 0 0, .slice none 0 0, .slice none 0 0] 26)) v0 v1 v2 v3 := by
  obtain ⟨q1, q2, q3, q4⟩ := two_new w #[v0, v1, v2, v3] #[.int .i64 0, .slice none 0 0, .slice none 0 0, .slice none 0 0] 26 26
  exact ⟨q3, q1, q2, Nat.le_of_eq q4.symm⟩
theorem TwoAt.step (h : TwoAt w W v0 v1 v2 v3) (hb : Below W.heap.size W W') : TwoAt w W' v0 v1 v2 v3 :=
  have hs := h.size
  ⟨h.below.trans (hb.mono (by omega)), (hb.block _ (by omega)).trans h.box, (hb.block _ (by omega)).trans h.res, Nat.le_trans hs hb.size⟩
theorem TwoAt.ahead (h : TwoAt w W v0 v1 v2 v3) (hb : Below (w.heap.size + 2) W W') : TwoAt w W' v0 v1 v2 v3 :=
  ⟨h.below.trans (hb.mono (by omega)), (hb.block _ (by omega)).trans h.box, (hb.block _ (by omega)).trans h.res, Nat.le_trans h.size hb.size⟩
theorem TwoAt.drew (h : TwoAt w W v0 v1 v2 v3) : TwoAt w W.drew v0 v1 v2 v3 := ⟨below_drew1 h.below, h.box, h.res, h.size⟩
theorem TwoAt.cells (h : TwoAt w W v0 v1 v2 v3) : (W.cell? ⟨w.heap.size, 0, none⟩ = some v0 ∧ W.cell? ⟨w.heap.size, 1, none⟩ = some v1 ∧ W.cell? ⟨w.heap.size, 2, none⟩ = some v2 ∧ W.cell? ⟨w.heap.size, 3, none⟩ = some v3) ∧
    (W.frozen? ⟨w.heap.size, 0, none⟩ = false ∧ W.frozen? ⟨w.heap.size, 1, none⟩ = false ∧ W.frozen? ⟨w.heap.size, 2, none⟩ = false ∧ W.frozen? ⟨w.heap.size, 3, none⟩ = false) := box_cells h.box
theorem TwoAt.rescells (h : TwoAt w W v0 v1 v2 v3) : (W.cell? ⟨w.heap.size + 1, 0, none⟩ = some (.int .i64 0) ∧ W.cell? ⟨w.heap.size + 1, 1, none⟩ = some (.slice none 0 0) ∧ W.cell? ⟨w.heap.size + 1, 2, none⟩ = some (.slice none 0 0) ∧ W.cell? ⟨w.heap.size + 1, 3, none⟩ = some (.slice none 0 0)) ∧
    (W.frozen? ⟨w.heap.size + 1, 0, none⟩ = false ∧ W.frozen? ⟨w.heap.size + 1, 1, none⟩ = false ∧ W.frozen? ⟨w.heap.size + 1, 2, none⟩ = false ∧ W.frozen? ⟨w.heap.size + 1, 3, none⟩ = false) := box_cells h.res
theorem TwoAt.lt (h : TwoAt w W v0 v1 v2 v3) : w.heap.size < W.heap.size ∧ w.heap.size + 1 < W.heap.size := by have := h.size; omega
theorem heap_other {w : World} {b k o : Nat} (u : Value) (h : k ≠ b) : (w.setCell ⟨b, o, none⟩ u).heap[k]? = w.heap[k]? := Below.heap_setCell _ _ _ _ h
theorem TwoAt.set0 (h : TwoAt w W v0 v1 v2 v3) (u : Value) : TwoAt w (W.setCell ⟨w.heap.size, 0, none⟩ u) u v1 v2 v3 :=
  ⟨h.below.setCell (Nat.le_refl _) _, heap_set h.box, (heap_other u (by omega)).trans h.res, by simpa using h.size⟩
theorem TwoAt.set1 (h : TwoAt w W v0 v1 v2 v3) (u : Value) : TwoAt w (W.setCell ⟨w.heap.size, 1, none⟩ u) v0 u v2 v3 :=
  ⟨h.below.setCell (Nat.le_refl _) _, heap_set h.box, (heap_other u (by omega)).trans h.res, by simpa using h.size⟩
theorem TwoAt.set2 (h : TwoAt w W v0 v1 v2 v3) (u : Value) : TwoAt w (W.setCell ⟨w.heap.size, 2, none⟩ u) v0 v1 u v3 :=
  ⟨h.below.setCell (Nat.le_refl _) _, heap_set h.box, (heap_other u (by omega)).trans h.res, by simpa using h.size⟩
theorem TwoAt.set3 (h : TwoAt w W v0 v1 v2 v3) (u : Value) : TwoAt w (W.setCell ⟨w.heap.size, 3, none⟩ u) v0 v1 v2 u :=
  ⟨h.below.setCell (Nat.le_refl _) _, heap_set h.box, (heap_other u (by omega)).trans h.res, by simpa using h.size⟩
theorem TwoAt.fin (h : TwoAt w W v0 v1 v2 v3) (u0 u1 u2 u3 : Value) : Below w.heap.size w ((((W.setCell ⟨w.heap.size + 1, 0, none⟩ u0).setCell ⟨w.heap.size + 1, 1, none⟩ u1).setCell ⟨w.heap.size + 1, 2, none⟩ u2).setCell ⟨w.heap.size + 1, 3, none⟩ u3) :=
  (((h.below.setCell (by exact Nat.le_succ _) _).setCell (by exact Nat.le_succ _) _).setCell (by exact Nat.le_succ _) _).setCell (by exact Nat.le_succ _) _
end
/-- A row of the call's own is kept by a store to the boxes. -/
theorem own_box {W : World} {base : Nat} {e : TypeId} {sz n : Nat} {v : Value} {xs : List Value} (h : W.ownsRow base e sz v n xs) {b o : Nat} (hb : b < base) (u : Value) : (W.setCell ⟨b, o, none⟩ u).ownsRow base e sz v n xs :=
  own_keep h fun k hk _ => Below.heap_setCell _ _ _ _ (by show k ≠ b; omega)
theorem own_box4 {W : World} {base : Nat} {e : TypeId} {sz n : Nat} {v : Value} {xs : List Value} (h : W.ownsRow base e sz v n xs) {b : Nat} (hb : b < base) (u0 u1 u2 u3 : Value) : ((((W.setCell ⟨b, 0, none⟩ u0).setCell ⟨b, 1, none⟩ u1).setCell ⟨b, 2, none⟩ u2).setCell ⟨b, 3, none⟩ u3).ownsRow base e sz v n xs :=
  own_box (own_box (own_box (own_box h hb u0) hb u1) hb u2) hb u3
/-- The rows of what is told are those of the peg, or lie at or behind block N. -/
def Kin (N : Nat) (v v' : Value) : Prop := ∃ (l : Int) (A1 : Option Addr) (n1 c1 : Nat) (A2 : Option Addr) (n2 c2 : Nat) (A3 : Option Addr) (n3 c3 : Nat) (l' : Int) (B1 : Option Addr) (m1 d1 : Nat) (B2 : Option Addr) (m2 d2 : Nat) (B3 : Option Addr) (m3 d3 : Nat),
  v = .agg #[.int .i64 l, .slice A1 n1 c1, .slice A2 n2 c2, .slice A3 n3 c3] ∧ v' = .agg #[.int .i64 l', .slice B1 m1 d1, .slice B2 m2 d2, .slice B3 m3 d3] ∧ ((B1 = A1 ∧ m1 = n1) ∨ Far N B1) ∧ ((B2 = A2 ∧ m2 = n2) ∨ Far N B2) ∧ ((B3 = A3 ∧ m3 = n3) ∨ Far N B3)
theorem kin_make {N : Nat} {l : Int} {A1 : Option Addr} {n1 c1 : Nat} {A2 : Option Addr} {n2 c2 : Nat} {A3 : Option Addr} {n3 c3 : Nat} {l' : Int} {B1 : Option Addr} {m1 d1 : Nat} {B2 : Option Addr} {m2 d2 : Nat} {B3 : Option Addr} {m3 d3 : Nat}
    (h1 : (B1 = A1 ∧ m1 = n1) ∨ Far N B1) (h2 : (B2 = A2 ∧ m2 = n2) ∨ Far N B2) (h3 : (B3 = A3 ∧ m3 = n3) ∨ Far N B3) : Kin N (.agg #[.int .i64 l, .slice A1 n1 c1, .slice A2 n2 c2, .slice A3 n3 c3]) (.agg #[.int .i64 l', .slice B1 m1 d1, .slice B2 m2 d2, .slice B3 m3 d3]) :=
  ⟨l, A1, n1, c1, A2, n2, c2, A3, n3, c3, l', B1, m1, d1, B2, m2, d2, B3, m3, d3, rfl, rfl, h1, h2, h3⟩
theorem far_row {w W : World} {e : TypeId} {sz : Nat} {A : Option Addr} {n c m : Nat} {xs : List Value} (h : W.ownsRow (w.heap.size + 2) e sz (.slice A n c) m xs) : Far w.heap.size A := (far_own h).mono (by omega)
/-- What an act of the reference tells. -/
def RefOut (w : World) (v : Value) (q : Int) (s : PegS) (e : Ending) (w' : World) : Prop := ∃ v', e = .returned (.tuple #[v', .int .i64 q]) ∧ ReadAt w' v' (actOut q s) ∧ Kin w.heap.size v v' ∧ Below w.heap.size w w'
theorem ref_no {w W : World} {v0 v1 v2 v3 : Value} (h : TwoAt w W v0 v1 v2 v3) {q : Int} (hq : q ≠ 0) (s : PegS) (u0 u1 u2 u3 : Value) {e : Ending} (he : e = .returned (.tuple #[.agg #[.int .i64 0, .slice none 0 0, .slice none 0 0, .slice none 0 0], .int .i64 q])) {l : Int} {A1 : Option Addr} {n1 c1 : Nat} {A2 : Option Addr} {n2 c2 : Nat} {A3 : Option Addr} {n3 c3 : Nat} : RefOut w (.agg #[.int .i64 l, .slice A1 n1 c1, .slice A2 n2 c2, .slice A3 n3 c3]) q s e ((((W.setCell ⟨w.heap.size + 1, 0, none⟩ u0).setCell ⟨w.heap.size + 1, 1, none⟩ u1).setCell ⟨w.heap.size + 1, 2, none⟩ u2).setCell ⟨w.heap.size + 1, 3, none⟩ u3) :=
  ⟨_, he, by rw [actOut_no hq]; exact read_zero _, kin_make (.inr (far_none _)) (.inr (far_none _)) (.inr (far_none _)), h.fin u0 u1 u2 u3⟩

theorem len_two {α : Type} (p q : α → Bool) (hpq : ∀ x, p x = true → q x = false) : ∀ xs : List α, (xs.filter p).length + (xs.filter q).length ≤ xs.length
  | [] => Nat.le_refl _
  | x :: r => by
    have ih := len_two p q hpq r
    cases hp : p x with
    | true =>
      rw [List.filter_cons_of_pos hp, List.filter_cons_of_neg (by rw [hpq x hp]; decide), List.length_cons, List.length_cons]
      omega
    | false =>
      rw [List.filter_cons_of_neg (by rw [hp]; decide)]
      cases hq : q x with
      | true => rw [List.filter_cons_of_pos hq, List.length_cons, List.length_cons]; omega
      | false => rw [List.filter_cons_of_neg (by rw [hq]; decide), List.length_cons]; omega
section
variable {N : Nat} {W : World} {s : PegS} {l : Int} {A1 : Option Addr} {n1 c1 : Nat} {A2 : Option Addr} {n2 c2 : Nat} {A3 : Option Addr} {n3 c3 : Nat}
theorem peg_caps (h : PegAt N W (.agg #[.int .i64 l, .slice A1 n1 c1, .slice A2 n2 c2, .slice A3 n3 c3]) s) : n1 ≤ c1 ∧ n2 ≤ c2 ∧ n3 ≤ c3 ∧ c1 ≤ maxLen ∧ c3 ≤ maxLen := by
  obtain ⟨A1', n1', c1', A2', n2', c2', A3', n3', c3', e, h1, h2, h3, k1, k2, k3, m1, m3, -⟩ := h
  unfold pegV at e
  simp at e
  obtain ⟨rfl, ⟨rfl, rfl, rfl⟩, ⟨rfl, rfl, rfl⟩, ⟨rfl, rfl, rfl⟩⟩ := e
  exact ⟨k1, k2, k3, m1, m3⟩
theorem peg_make (hl : l = s.1) (h1 : FSl encP 2 W W.heap.size A1 n1 s.2.1) (h2 : FSl encI 1 W W.heap.size A2 n2 s.2.2.1) (h3 : FSl encR 3 W W.heap.size A3 n3 s.2.2.2) (hc : n1 ≤ c1 ∧ n2 ≤ c2 ∧ n3 ≤ c3 ∧ c1 ≤ maxLen ∧ c3 ≤ maxLen) : PegAt 0 W (.agg #[.int .i64 l, .slice A1 n1 c1, .slice A2 n2 c2, .slice A3 n3 c3]) s := by
  subst hl
  exact ⟨A1, n1, c1, A2, n2, c2, A3, n3, c3, rfl, h1, h2, h3, hc.1, hc.2.1, hc.2.2.1, hc.2.2.2.1, hc.2.2.2.2, fun _ _ _ _ => Nat.zero_le _, fun _ _ _ _ => Nat.zero_le _, fun _ _ _ _ => Nat.zero_le _⟩
theorem read_make (hl : l = s.1) (h1 : FSl encP 2 W W.heap.size A1 n1 s.2.1) (h2 : FSl encI 1 W W.heap.size A2 n2 s.2.2.1) (h3 : FSl encR 3 W W.heap.size A3 n3 s.2.2.2) : ReadAt W (.agg #[.int .i64 l, .slice A1 n1 c1, .slice A2 n2 c2, .slice A3 n3 c3]) s :=
  ⟨l, A1, n1, c1, A2, n2, c2, A3, n3, c3, rfl, hl, (FSl.len encP_len (by decide) h1).symm, (FSl.len encI_len (by decide) h2).symm, (FSl.len encR_len (by decide) h3).symm, h1, h2, h3⟩
end

set_option maxHeartbeats 4000000 in
set_option maxRecDepth 100000 in
theorem begun_any (s : PegS) (v : Value) (n : Int) {N : Nat} (w : World) (h : PegAt N w v s) :
    Calls Tryd.prog 29 #[v, .int .i64 n] w (fun e w' => e = .returned (.int .i64 (startS s n)) ∧ Below w.heap.size w w') := by
  obtain ⟨l, A1, n1, c1, A2, n2, c2, A3, n3, c3, rfl, -⟩ := peg_open h
  have HP := aside h
  have AT0 := aside (AtP.first w (.int .i64 l) (.slice A1 n1 c1) (.slice A2 n2 c2) (.slice A3 n3 c3))
  have HPB : Hid (∀ W, Below w.heap.size w W → Calls Tryd.prog 5 #[.agg #[.int .i64 l, .slice A1 n1 c1, .slice A2 n2 c2, .slice A3 n3 c3]] W (fun e w' => e = .returned (.int .i64 (checkS s)) ∧ Below W.heap.size W w')) := aside (fun W hW => fault_any s _ W (HP.out.below hW))
  have hst : startS s n = if checkS s = 0 then moneyE n else checkS s := by
    unfold startS
    by_cases h0 : checkS s = 0
    · rw [if_neg (by simpa using h0), if_pos h0]
    · rw [if_pos h0, if_neg h0]
  have HST := aside hst
  clear h hst
  by_cases h0 : checkS s = 0
  · have HS2 : Hid (startS s n = moneyE n) := aside (by rw [HST.out, if_pos h0])
    rw [h0] at HPB
    by_cases hm : moneyE n = 0
    · have hd : decide (moneyE n = 0) = true := decide_eq_true hm
      have HS3 : Hid (startS s n = 0) := aside (by rw [HS2.out, hm])
      clear h0 hm
      go_enter Tryd.func29, Tryd.ntmps29
      go_wp2_with (first
        | (go_at_call 5; refine (HPB.out _ AT0.out.below).mono ?_; rintro e w1 ⟨rfl, hb⟩; have AT1 := aside (AT0.out.step hb))
        | (go_at_call 19; refine (rmoney_any n _).mono ?_; rintro e w' ⟨rfl, rfl⟩; rw [hd])
        | fail)
      go_ret
      exact ⟨by rw [HS3.out] <;> rfl, AT1.out.below⟩
    · have hd : decide (moneyE n = 0) = false := decide_eq_false hm
      have HS3 : Hid (startS s n = 2) := aside (by rw [HS2.out, moneyE_two hm])
      clear h0 hm
      go_enter Tryd.func29, Tryd.ntmps29
      go_wp2_with (first
        | (go_at_call 5; refine (HPB.out _ AT0.out.below).mono ?_; rintro e w1 ⟨rfl, hb⟩; have AT1 := aside (AT0.out.step hb))
        | (go_at_call 19; refine (rmoney_any n _).mono ?_; rintro e w' ⟨rfl, rfl⟩; rw [hd])
        | fail)
      go_ret
      exact ⟨by rw [HS3.out] <;> rfl, AT1.out.below⟩
  · have HS2 : Hid (startS s n = checkS s) := aside (by rw [HST.out, if_neg h0])
    generalize checkS s = q at HPB HS2 h0
    have h0' : (q == 0) = false := by simpa using h0
    clear h0 HST
    go_enter Tryd.func29, Tryd.ntmps29
    go_wp2_with (first
      | (go_at_call 5; refine (HPB.out _ AT0.out.below).mono ?_; rintro e w1 ⟨rfl, hb⟩; have AT1 := aside (AT0.out.step hb))
      | fail)
    go_ret
    exact ⟨by rw [HS2.out] <;> rfl, AT1.out.below⟩

set_option maxHeartbeats 40000000 in
set_option maxRecDepth 100000 in
theorem rmove_any (s : PegS) (v : Value) (f t n : Int) {N : Nat} (w : World) (h : PegAt N w v s) :
    Calls Tryd.prog 13 #[v, .int .i64 f, .int .i64 t, .int .i64 n] w (RefOut w v (moveQ s f t n) (moveR s f t n)) := by
  obtain ⟨l, A1, n1, c1, A2, n2, c2, A3, n3, c3, rfl, hl, hl1, hl2, hl3, h1, h2, h3⟩ := peg_open h
  have HP := aside h
  have TA0 := aside (two_first w (.int .i64 l) (.slice A1 n1 c1) (.slice A2 n2 c2) (.slice A3 n3 c3))
  have HBg : Hid (∀ W, Below w.heap.size w W → Calls Tryd.prog 29 #[.agg #[.int .i64 l, .slice A1 n1 c1, .slice A2 n2 c2, .slice A3 n3 c3], .int .i64 n] W (fun e w' => e = .returned (.int .i64 (startS s n)) ∧ Below W.heap.size W w')) := aside (fun W hW => begun_any s _ n W (HP.out.below hW))
  clear h
  by_cases h0 : startS s n = 0
  · obtain ⟨hf, hn0, hn1⟩ := start_zero h0
    have hpo : Hid (∀ W, Below w.heap.size w W → Calls Tryd.prog 8 #[.agg #[.int .i64 l, .slice A1 n1 c1, .slice A2 n2 c2, .slice A3 n3 c3], .int .i64 f] W (fun e w' => e = .returned (.int .i64 (amtS f s.2.1)) ∧ Below W.heap.size W w')) := aside (fun W hW => pileOf_any s _ hf.ap (Nat.le_trans hf.lp (by decide)) f W (HP.out.below hW))
    rw [h0] at HBg
    by_cases ha : amtS f s.2.1 < n
    · have hq : moveQ s f t n = 9 := by unfold moveQ; rw [if_neg (by rw [h0]; decide), if_pos ha]
      rw [hq]
      generalize amtS f s.2.1 = am at hpo ha
      clear hq h0 hf hn0 hn1 hl hl1 hl2 hl3 h1 h2 h3
      go_enter Tryd.func13, Tryd.ntmps13
      go_wp2_with (first
        | (go_at_call 29; refine (HBg.out _ TA0.out.below).mono ?_; rintro e w1 ⟨rfl, hb⟩; have TA1 := aside (TA0.out.step hb); have pc := TA1.out.cells; obtain ⟨⟨e0, e1, e2, e3⟩, -⟩ := pc; clear hb)
        | (go_at_call 8; refine (hpo.out _ TA1.out.below).mono ?_; rintro e w2 ⟨rfl, hb⟩; have TA2 := aside (TA1.out.step hb); have pr := TA2.out.rescells; obtain ⟨⟨r0, r1, r2, r3⟩, rf0, rf1, rf2, rf3⟩ := pr; clear hb)
        | fail)
      (try simp only [Exit.inBlock, Exit.then])
      refine bodyPost_ret (v := .tuple #[.agg #[.int .i64 0, .slice none 0 0, .slice none 0 0, .slice none 0 0], .int .i64 9]) (by simp only [results, Tryd.results13]; go_simp) rfl ?_
      exact ref_no TA2.out (by decide) _ _ _ _ _ rfl
    · have hq : moveQ s f t n = if 60 < (movedP s.2.1 f t n).length then 4 else 0 := by unfold moveQ; rw [if_neg (by rw [h0]; decide), if_neg ha]
      rw [hq]
      have hcaps := peg_caps HP.out
      have hpf := Fit.piles hf
      have hal := Fit.amt_le hf f
      obtain ⟨p1, hp1⟩ : ∃ p1, p1 = setP f (amtS f s.2.1 - n) s.2.1 := ⟨_, rfl⟩
      have hpf1 : PFit p1 := by rw [hp1]; exact hpf.set f (by omega) (by omega)
      have hl1' : p1.length ≤ 61 := by rw [hp1]; have := len_setP f (amtS f s.2.1 - n) s.2.1; have := hf.lp; omega
      have hal2 := hpf1.amt t
      obtain ⟨p2, hp2⟩ : ∃ p2, p2 = setP t (amtS t p1 + n) p1 := ⟨_, rfl⟩
      have hmv : movedP s.2.1 f t n = p2 := by rw [hp2, hp1]; rfl
      have HMv : Hid (moveR s f t n = (s.1, p2, s.2.2.1, s.2.2.2)) := aside (by unfold moveR; rw [hmv])
      rw [hmv]
      obtain ⟨Q, hQ⟩ : ∃ Q : Int, Q = if 60 < p2.length then 4 else 0 := ⟨_, rfl⟩
      rw [← hQ]
      have HQ0 := aside hQ
      have HPd : Hid (∀ W, Below w.heap.size w W → Calls Tryd.prog 30 #[.slice A1 n1 c1, .int .i64 f, .int .i64 (amtS f s.2.1 - n)] W (fun e w' => ∃ A' c', e = .returned (.slice A' p1.length c') ∧ OwnP w' W.heap.size (.slice A' p1.length c') p1.length p1 ∧ p1.length ≤ c' ∧ c' ≤ maxLen ∧ Below W.heap.size W w')) := aside (fun W hW => by
        rw [hp1]
        exact piled_any s.2.1 A1 n1 c1 f (amtS f s.2.1 - n) W ((FSl.below h1 hW).more hW.size) (by have := hf.lp; omega) (by omega))
      have HPo2 : Hid (∀ W A' c', FSl encP 2 W W.heap.size A' p1.length p1 → p1.length ≤ c' → c' ≤ maxLen → Below w.heap.size w W → Calls Tryd.prog 8 #[.agg #[.int .i64 l, .slice A' p1.length c', .slice A2 n2 c2, .slice A3 n3 c3], .int .i64 t] W (fun e w' => e = .returned (.int .i64 (amtS t p1)) ∧ Below W.heap.size W w')) := aside (fun W A' c' hF hc1 hc2 hW => pileOf_any (s.1, p1, s.2.2) _ hpf1.1 (by show p1.length ≤ 1000; omega) t W (peg_make hl hF ((FSl.below h2 hW).more hW.size) ((FSl.below h3 hW).more hW.size) ⟨hc1, hcaps.2.1, hcaps.2.2.1, hc2, hcaps.2.2.2.2⟩))
      have HPd2 : Hid (∀ W A' c', FSl encP 2 W W.heap.size A' p1.length p1 → Calls Tryd.prog 30 #[.slice A' p1.length c', .int .i64 t, .int .i64 (amtS t p1 + n)] W (fun e w' => ∃ A' c', e = .returned (.slice A' p2.length c') ∧ OwnP w' W.heap.size (.slice A' p2.length c') p2.length p2 ∧ p2.length ≤ c' ∧ c' ≤ maxLen ∧ Below W.heap.size W w')) := aside (fun W A' c' hF => by
        rw [hp2]
        exact piled_any p1 A' p1.length c' t (amtS t p1 + n) W hF (by omega) (by omega))
      have hw1 : IntKind.i64.wrap (amtS f s.2.1 - n) = amtS f s.2.1 - n := by rw [IntKind.wrap_i64]; omega
      have hw2 : IntKind.i64.wrap (amtS t p1 + n) = amtS t p1 + n := by rw [IntKind.wrap_i64]; omega
      have HL : Hid (l = s.1) := aside hl
      have H2 := aside h2
      have H3 := aside h3
      have ha' : (amtS f s.2.1 < n) = False := by simp only [eq_iff_iff, iff_false]; exact ha
      generalize amtS f s.2.1 = am at hpo ha' HPd hw1
      generalize amtS t p1 = am2 at HPo2 HPd2 hw2
      clear hQ hq h0 ha hf hn0 hn1 hl hl1 hl2 hl3 h1 h2 h3 hpf hal hp1 hpf1 hl1' hal2 hp2 hmv hcaps
      go_enter Tryd.func13, Tryd.ntmps13
      go_upto_region 6 with (first
        | (go_at_call 29; refine (HBg.out _ TA0.out.below).mono ?_; rintro e w1 ⟨rfl, hb⟩; have TA1 := aside (TA0.out.step hb); have pc := TA1.out.cells; obtain ⟨⟨e0, e1, e2, e3⟩, -⟩ := pc; clear hb)
        | (go_at_call 8; refine (hpo.out _ TA1.out.below).mono ?_; rintro e w2 ⟨rfl, hb⟩; have TA2 := aside (TA1.out.step hb); clear hb)
        | fail)
      go_cut [10] from 11 (fun v10 wx => v10 = .int .i64 0 ∧ ∃ A4 c4, Hid (TwoAt w wx (.int .i64 l) (.slice A4 p1.length c4) (.slice A2 n2 c2) (.slice A3 n3 c3)) ∧ Hid (OwnP wx (w.heap.size + 2) (.slice A4 p1.length c4) p1.length p1) ∧ Hid (p1.length ≤ c4 ∧ c4 ≤ maxLen))
      case first =>
        have TD := aside TA2.out.drew
        clear e0 e1 e2 e3
        have hs0 := TD.out.cells
        obtain ⟨⟨e0, e1, e2, e3⟩, -⟩ := hs0
        go_region_law
          (first
            | ((try go_simp); go_at_call 8; refine (hpo.out _ TD.out.below).mono ?_; rintro e w3 ⟨rfl, hb⟩; have TA3 := aside (TD.out.step hb); have hs1 := TA3.out.cells; obtain ⟨⟨g0, g1, g2, g3⟩, -⟩ := hs1; clear hb)
            | ((try go_simp); go_at_call 30; refine (HPd.out _ TA3.out.below).mono ?_; rintro e w4 ⟨A4, c4, rfl, ho, hc1, hc2, hb⟩; have TA4 := aside (TA3.out.step hb); have HO := aside ho; have HC := aside (⟨hc1, hc2⟩ : p1.length ≤ c4 ∧ c4 ≤ maxLen); have hs2 := TA4.out.cells; obtain ⟨⟨q0, q1, q2, q3⟩, q4, q5, q6, q7⟩ := hs2; clear hb ho hc1 hc2))
        all_goals go_wp2_with fail
        all_goals go_meet
        all_goals exact ⟨rfl, _, _, aside (TA4.out.set1 _), aside (own_box (own_lower HO.out TA3.out.size) (Nat.lt_add_of_pos_right (by decide)) _), HC⟩
      case rest =>
        obtain ⟨rfl, A4, c4, TB, HO, HC⟩ := hcut
        have hdw := TB.out.drew
        have TD := aside hdw
        have hs0 := hdw.cells
        obtain ⟨⟨e0', e1', e2', e3'⟩, -⟩ := hs0
        have hFA : Hid (∀ W, Below wc.heap.size wc W → FSl encP 2 W W.heap.size A4 p1.length p1) := aside (fun W hW => (FSl.below (Sl.own HO.out) hW).more hW.size)
        clear hdw e0 e1 e2 e3
        go_wp2_with fail
        go_cut [10] from 11 (fun v10 wx => v10 = .int .i64 0 ∧ ∃ A5 c5, Hid (TwoAt w wx (.int .i64 l) (.slice A5 p2.length c5) (.slice A2 n2 c2) (.slice A3 n3 c3)) ∧ Hid (OwnP wx (w.heap.size + 2) (.slice A5 p2.length c5) p2.length p2))
        case first =>
          go_region_law
            (first
              | ((try go_simp); go_at_call 8; refine (HPo2.out _ A4 c4 (hFA.out _ (below_drew1 (Below.refl _ _))) HC.out.1 HC.out.2 TD.out.below).mono ?_; rintro e w3 ⟨rfl, hb⟩; have hb0 := below_drew0 hb; have HFB := aside (hFA.out _ hb0); have TA3 := aside (TD.out.step hb); have hs1 := TA3.out.cells; obtain ⟨⟨g0, g1, g2, g3⟩, -⟩ := hs1; clear hb hb0)
              | ((try go_simp); go_at_call 30; refine (HPd2.out _ A4 c4 HFB.out).mono ?_; rintro e w4 ⟨A5, c5, rfl, ho, hc1, hc2, hb⟩; have TA4 := aside (TA3.out.step hb); have HO5 := aside ho; have hs2 := TA4.out.cells; obtain ⟨⟨q0, q1, q2, q3⟩, q4, q5, q6, q7⟩ := hs2; clear hb ho hc1 hc2))
          all_goals go_wp2_with fail
          all_goals go_meet
          all_goals exact ⟨rfl, _, _, aside (TA4.out.set1 _), aside (own_box (own_lower HO5.out TA3.out.size) (Nat.lt_add_of_pos_right (by decide)) _)⟩
        case rest =>
          obtain ⟨rfl, A5, c5, TC, HO5⟩ := hcut
          have pc := TC.out.cells
          obtain ⟨⟨t0, t1, t2, t3⟩, -⟩ := pc
          have pr := TC.out.rescells
          obtain ⟨⟨r0, r1, r2, r3⟩, rf0, rf1, rf2, rf3⟩ := pr
          clear e0' e1' e2' e3' TD TB
          by_cases h6 : 60 < p2.length
          · have h6' : (60 : Int) < (p2.length : Int) := by omega
            have HQ : Hid (Q = 4) := aside (HQ0.out.trans (if_pos h6))
            clear h6
            go_wp2
            (try simp only [Exit.inBlock, Exit.then])
            refine bodyPost_ret (v := .tuple #[.agg #[.int .i64 0, .slice none 0 0, .slice none 0 0, .slice none 0 0], .int .i64 4]) (by simp only [results, Tryd.results13]; go_simp) rfl ?_
            rw [HQ.out]
            exact ref_no TC.out (by decide) _ _ _ _ _ rfl
          · have h6' : ((60 : Int) < (p2.length : Int)) = False := by simp only [eq_iff_iff, iff_false]; omega
            have HQ : Hid (Q = 0) := aside (HQ0.out.trans (if_neg h6))
            clear h6
            go_wp2
            (try simp only [Exit.inBlock, Exit.then])
            refine bodyPost_ret (v := .tuple #[.agg #[.int .i64 l, .slice A5 p2.length c5, .slice A2 n2 c2, .slice A3 n3 c3], .int .i64 0]) (by simp only [results, Tryd.results13]; go_simp) rfl ?_
            rw [HQ.out, HMv.out]
            refine ⟨_, rfl, ?_, kin_make (.inr (far_row HO5.out)) (.inl ⟨rfl, rfl⟩) (.inl ⟨rfl, rfl⟩), TC.out.fin _ _ _ _⟩
            rw [actOut_ok]
            exact read_make (s := (s.1, p2, s.2.2.1, s.2.2.2)) HL.out (Sl.own (own_box4 HO5.out (Nat.lt_succ_self _) _ _ _ _)) ((FSl.below H2.out (TC.out.fin _ _ _ _)).more (TC.out.fin _ _ _ _).size) ((FSl.below H3.out (TC.out.fin _ _ _ _)).more (TC.out.fin _ _ _ _).size)
  · have hq : moveQ s f t n = startS s n := by unfold moveQ; rw [if_pos h0]
    rw [hq]
    generalize startS s n = q at HBg h0
    have h0' : (q == 0) = false := by simpa using h0
    have H0 := aside h0
    clear hq h0 hl hl1 hl2 hl3 h1 h2 h3
    go_enter Tryd.func13, Tryd.ntmps13
    go_wp2_with (first
      | (go_at_call 29; refine (HBg.out _ TA0.out.below).mono ?_; rintro e w1 ⟨rfl, hb⟩; have TA1 := aside (TA0.out.step hb); have pr := TA1.out.rescells; obtain ⟨⟨r0, r1, r2, r3⟩, rf0, rf1, rf2, rf3⟩ := pr; clear hb)
      | fail)
    (try simp only [Exit.inBlock, Exit.then])
    refine bodyPost_ret (v := .tuple #[.agg #[.int .i64 0, .slice none 0 0, .slice none 0 0, .slice none 0 0], .int .i64 q]) (by simp only [results, Tryd.results13]; go_simp) rfl ?_
    exact ref_no TA1.out H0.out _ _ _ _ _ rfl
end Go.Proofs.YtcmlhopidohimaaDoor

