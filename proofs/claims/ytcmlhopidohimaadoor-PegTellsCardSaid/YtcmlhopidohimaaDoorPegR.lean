/- pegged is true; PegRound: its plain law and its walk. Conditions: named in each theorem. -/
import Derived.Test.YtcmlhopidohimaaDoorPegN
import Derived.Test.YtcmlhopidohimaaDoorPegP
import Derived.Test.YtcmlhopidohimaaDoorPegQ
namespace Go.Proofs.YtcmlhopidohimaaDoor
open Go.RowKit Go.ChangeShapes Go.WideShapes Go.ChangeAt

theorem PegAt.agg {N : Nat} {W : World} {v : Value} {s : PegS} (h : PegAt N W v s) : ∃ (A1 : Option Addr) (n1 c1 : Nat) (A2 : Option Addr) (n2 c2 : Nat) (A3 : Option Addr) (n3 c3 : Nat), v = .agg #[.int .i64 s.1, .slice A1 n1 c1, .slice A2 n2 c2, .slice A3 n3 c3] := by
  obtain ⟨A1, n1, c1, A2, n2, c2, A3, n3, c3, e, -⟩ := h
  exact ⟨A1, n1, c1, A2, n2, c2, A3, n3, c3, e⟩
theorem PegAt.lens {N : Nat} {W : World} {l : Int} {s : PegS} {A1 : Option Addr} {n1 c1 : Nat} {A2 : Option Addr} {n2 c2 : Nat} {A3 : Option Addr} {n3 c3 : Nat} (h : PegAt N W (.agg #[.int .i64 l, .slice A1 n1 c1, .slice A2 n2 c2, .slice A3 n3 c3]) s) : l = s.1 ∧ n1 = s.2.1.length ∧ n2 = s.2.2.1.length ∧ n3 = s.2.2.2.length := by
  obtain ⟨A1', n1', c1', A2', n2', c2', A3', n3', c3', e, h1, h2, h3, -⟩ := h
  unfold pegV at e
  simp at e
  obtain ⟨rfl, ⟨rfl, rfl, rfl⟩, ⟨rfl, rfl, rfl⟩, ⟨rfl, rfl, rfl⟩⟩ := e
  exact ⟨rfl, (FSl.len encP_len (by decide) h1).symm, (FSl.len encI_len (by decide) h2).symm, (FSl.len encR_len (by decide) h3).symm⟩
theorem PegAt.alloc {N : Nat} {W : World} {v : Value} {s : PegS} (h : PegAt N W v s) (o : Obj) : PegAt N (W.alloc o) v s := h.below ((Below.refl _ _).alloc (Nat.le_refl _) o)
/-- A peg's box, the first block of a call. -/
structure AtP (w W : World) (v0 v1 v2 v3 : Value) : Prop where
  below : Below w.heap.size w W
  box : W.heap[w.heap.size]? = some (.cells #[v0, v1, v2, v3] 26 (0, 0))
theorem AtP.first (w : World) (v0 v1 v2 v3 : Value) : AtP w (w.alloc (.cells #[v0, v1, v2, v3] 26)) v0 v1 v2 v3 := ⟨(Below.refl _ _).alloc (Nat.le_refl _) _, heap_alloc_new _ _⟩
section
variable {w W W' : World} {v0 v1 v2 v3 : Value}
theorem AtP.lt (h : AtP w W v0 v1 v2 v3) : w.heap.size < W.heap.size := (Array.getElem?_eq_some_iff.1 h.box).1
theorem AtP.step (h : AtP w W v0 v1 v2 v3) (hb : Below W.heap.size W W') : AtP w W' v0 v1 v2 v3 := ⟨h.below.trans (hb.mono h.below.size), (hb.block _ h.lt).trans h.box⟩
theorem AtP.alloc (h : AtP w W v0 v1 v2 v3) (o : Obj) : AtP w (W.alloc o) v0 v1 v2 v3 := h.step ((Below.refl _ _).alloc (Nat.le_refl _) o)
theorem AtP.cells (h : AtP w W v0 v1 v2 v3) : (W.cell? ⟨w.heap.size, 0, none⟩ = some v0 ∧ W.cell? ⟨w.heap.size, 1, none⟩ = some v1 ∧ W.cell? ⟨w.heap.size, 2, none⟩ = some v2 ∧ W.cell? ⟨w.heap.size, 3, none⟩ = some v3) ∧
    (W.frozen? ⟨w.heap.size, 0, none⟩ = false ∧ W.frozen? ⟨w.heap.size, 1, none⟩ = false ∧ W.frozen? ⟨w.heap.size, 2, none⟩ = false ∧ W.frozen? ⟨w.heap.size, 3, none⟩ = false) := box_cells h.box
end

set_option maxHeartbeats 8000000 in
set_option maxRecDepth 100000 in
theorem pegged_any (w : World) : Calls Tryd.prog 4 #[] w (fun e w' => e = .returned (.bool true) ∧ Below w.heap.size w w') := by
  have q1 : inQ emptyS 1 7 5 = 0 := by decide
  have q2 : inR emptyS 1 7 5 = (5, [(7, 5)], [1], []) := by decide
  have HI : Hid (∀ W, Calls Tryd.prog 11 #[.agg #[.int .i64 0, .slice none 0 0, .slice none 0 0, .slice none 0 0], .int .i64 1, .int .i64 7, .int .i64 5] W (fun e w' => ∃ A1 n1 c1 A2 n2 c2 A3 n3 c3, e = .returned (.tuple #[.agg #[.int .i64 5, .slice A1 n1 c1, .slice A2 n2 c2, .slice A3 n3 c3], .nilIface]) ∧ PegAt W.heap.size w' (.agg #[.int .i64 5, .slice A1 n1 c1, .slice A2 n2 c2, .slice A3 n3 c3]) (5, [(7, 5)], [1], []) ∧ Below W.heap.size W w')) := aside (fun W => by
    refine (in_any emptyS zeroPeg 1 7 5 W (zero_at 0 W)).mono ?_
    rintro e w' ⟨v', rfl, hp, hb⟩
    rw [q1, actOut_ok, q2] at hp
    obtain ⟨A1, n1, c1, A2, n2, c2, A3, n3, c3, rfl⟩ := hp.agg
    exact ⟨A1, n1, c1, A2, n2, c2, A3, n3, c3, by rw [q1]; rfl, hp, hb⟩)
  have q3 : checkS (5, [(7, 5)], [1], []) = 0 := by decide
  have q4 : hasV (5, [(7, 5)], [1], []) 7 = 5 := by decide
  have HH : Hid (∀ N v W, PegAt N W v (5, [(7, 5)], [1], []) → Calls Tryd.prog 9 #[v, .int .i64 7] W (fun e w' => e = .returned (.tuple #[.int .i64 5, .nilIface]) ∧ Below W.heap.size W w')) := aside (fun N v W hp => by
    have h := has_any (5, [(7, 5)], [1], []) v 7 W hp
    rw [q3, q4] at h
    exact h)
  clear q1 q2 q3 q4
  go_enter Tryd.func4, Tryd.ntmps4
  go_wp2_with (first
    | (go_at_call 11; refine (HI.out w).mono ?_; rintro e w1 ⟨A1, n1, c1, A2, n2, c2, A3, n3, c3, rfl, hp, hb⟩; have AT := aside ((hb.trans ((Below.refl _ _).alloc hb.size (.cells #[.int .i64 5, .slice A1 n1 c1, .slice A2 n2 c2, .slice A3 n3 c3] 26)))); have HS := aside hb.size; have PA := aside (hp.alloc (.cells #[.int .i64 5, .slice A1 n1 c1, .slice A2 n2 c2, .slice A3 n3 c3] 26)); clear hp hb)
    | (go_at_call 9; refine (HH.out _ _ _ PA.out).mono ?_; rintro e w2 ⟨rfl, hb⟩; have p3 := (keep4 hb (by simp) (heap_alloc_new w1 (.cells #[.int .i64 5, .slice A1 n1 c1, .slice A2 n2 c2, .slice A3 n3 c3] 26))).2.1; obtain ⟨e0, e1, e2, e3⟩ := p3; have HB := aside (AT.out.trans (hb.mono AT.out.size)); clear hb))
  go_ret
  exact ⟨rfl, HB.out⟩

/-- There and back: the plain law. -/
theorem insK_got {α : Type} {key : α → Int} {xs : List α} (h : Asc key xs) (y d : α) : hasB key (key y) (insK key y xs) = true ∧ (insK key y xs).getD (lbN key (key y) (insK key y xs)) d = y := by
  have hy : y ∈ insK key y xs := by unfold insK; simp
  rcases asc_part (key y) (asc_insK h y) with ⟨a, b, he, -, -, q3, q4⟩ | ⟨a, z, b, he, q1, q2, q0, q3, q4⟩
  · rw [he] at hy
    rcases List.mem_append.1 hy with hy | hy
    · have := q3 y hy; omega
    · have := q4 y hy; omega
  · refine ⟨q2, ?_⟩
    have hz : y = z := by
      rw [he] at hy
      rcases List.mem_append.1 hy with hy | hy
      · have := q3 y hy; omega
      · rcases List.mem_cons.1 hy with hy | hy
        · exact hy
        · have := q4 y hy; omega
    rw [q1, he, hz]
    simp [List.getD_eq_getElem?_getD]
theorem round_law {s : PegS} {i o t n : Int} (h1 : inQ s i t n = 0) (h2 : outQ (inR s i t n) o t n = 0) :
    payQ (outR (inR s i t n) o t n) o = 0 ∧ (payR (outR (inR s i t n) o t n) o).1 = s.1 ∧ (payR (outR (inR s i t n) o t n) o).2.1 = s.2.1 ∧ checkS s = 0 ∧ checkS (payR (outR (inR s i t n) o t n) o) = 0 := by
  obtain ⟨f1, f2, -, -, -⟩ := in_fit h1
  obtain ⟨-, f3, h0, -, -, hh, -⟩ := out_fit h2
  have hr : (outR (inR s i t n) o t n).2.2.2 = insK keyR (o, n, false) s.2.2.2 := rfl
  have hg := insK_got (key := keyR) f1.ar (o, n, false) (0, 0, false)
  have hq : payQ (outR (inR s i t n) o t n) o = 0 := by
    unfold payQ
    rw [if_neg (by rw [zero_start f3 ⟨Int.le_refl _, by decide⟩]; decide), hr, if_neg (by rw [show hasB keyR o (insK keyR (o, n, false) s.2.2.2) = true from hg.1]; decide), if_neg]
    unfold gotR
    rw [show (insK keyR (o, n, false) s.2.2.2).getD (lbN keyR o (insK keyR (o, n, false) s.2.2.2)) (0, 0, false) = (o, n, false) from hg.2]
    exact Bool.false_ne_true
  obtain ⟨-, f4, -⟩ := pay_fit hq
  refine ⟨hq, ?_, ?_, pegQ_zero.2 f1, pegQ_zero.2 f4⟩
  · show s.1 + n - (gotR o (insK keyR (o, n, false) s.2.2.2)).2.1 = s.1
    unfold gotR
    rw [show (insK keyR (o, n, false) s.2.2.2).getD (lbN keyR o (insK keyR (o, n, false) s.2.2.2)) (0, 0, false) = (o, n, false) from hg.2]
    dsimp only
    omega
  · show setP t (amtS t (setP t (amtS t s.2.1 + n) s.2.1) - n) (setP t (amtS t s.2.1 + n) s.2.1) = s.2.1
    rw [amtS_same, setP_setP, show amtS t s.2.1 + n - n = amtS t s.2.1 by omega]
    exact setP_amt f1.ap (fun x hx => by have := f1.pos x hx; omega) t
end Go.Proofs.YtcmlhopidohimaaDoor
