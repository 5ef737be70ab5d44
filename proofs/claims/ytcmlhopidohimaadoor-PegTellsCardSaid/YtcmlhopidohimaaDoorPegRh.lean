/- PegTells: the walk. Condition: errors.errorType reads as the program's text lays it. -/
import Derived.Test.YtcmlhopidohimaaDoorPegRd
import Derived.Test.YtcmlhopidohimaaDoorPegRe
import Derived.Test.YtcmlhopidohimaaDoorPegRf
import Derived.Test.YtcmlhopidohimaaDoorPegRg
namespace Go.Proofs.YtcmlhopidohimaaDoor
open Go.RowKit Go.ChangeShapes Go.WideShapes Go.ChangeAt

/-- Rows short enough to be told. -/
def Small (s : PegS) : Prop := s.2.1.length ≤ 1000 ∧ s.2.2.1.length ≤ 1000 ∧ s.2.2.2.length ≤ 1000
theorem small_fit {s : PegS} (h : FitS s) : Small s := ⟨by have := h.lp; omega, by have := h.li; omega, by have := h.lr; omega⟩
theorem small_out {q : Int} {s : PegS} (h : q = 0 → Small s) : Small (actOut q s) := by
  unfold actOut
  by_cases c : q = 0
  · rw [if_pos c]; exact h c
  · rw [if_neg c]; exact ⟨by decide, by decide, by decide⟩
/-- A row that is not met by a store. -/
theorem fsl_set {α : Type} {enc : α → List Value} {sz n : Nat} {W : World} {A : Option Addr} {xs : List α} (h : FSl enc sz W W.heap.size A n xs) {p : Addr} (u : Value)
    (hb : ∀ b o, 0 < n → A = some ⟨b, o, none⟩ → b ≠ p.block) : FSl enc sz (W.setCell p u) (W.setCell p u).heap.size A n xs := by
  refine Sl.more (B := W.heap.size) ⟨Sl.len h, fun hn => ?_⟩ (by simp)
  obtain ⟨b, off, e, hlt, hc⟩ := Sl.cells h hn
  exact ⟨b, off, e, hlt, fun j v hv => (World.cell?_setCell_other W p _ u (fun e' => hb b off hn e (by rw [e']))).trans (hc j v hv)⟩
theorem read_set {w0 W : World} {N : Nat} {v v' : Value} {s0 s : PegS} (h : ReadAt W v' s) (hk : Kin N v v') (h0 : ReadAt w0 v s0) {p : Addr} (h1 : w0.heap.size ≤ p.block) (h2 : p.block < N) (u : Value) : ReadAt (W.setCell p u) v' s := by
  obtain ⟨l, A1, n1, c1, A2, n2, c2, A3, n3, c3, l', B1, m1, d1, B2, m2, d2, B3, m3, d3, rfl, rfl, k1, k2, k3⟩ := hk
  obtain ⟨l0, A1', n1', c1', A2', n2', c2', A3', n3', c3', e, -, -, -, -, g1, g2, g3⟩ := h0
  obtain ⟨l1, B1', m1', d1', B2', m2', d2', B3', m3', d3', e', f0, f1, f2, f3, j1, j2, j3⟩ := h
  simp at e e'
  obtain ⟨rfl, ⟨rfl, rfl, rfl⟩, ⟨rfl, rfl, rfl⟩, ⟨rfl, rfl, rfl⟩⟩ := e
  obtain ⟨rfl, ⟨rfl, rfl, rfl⟩, ⟨rfl, rfl, rfl⟩, ⟨rfl, rfl, rfl⟩⟩ := e'
  refine ⟨_, _, _, _, _, _, _, _, _, _, rfl, f0, f1, f2, f3, fsl_set j1 u ?_, fsl_set j2 u ?_, fsl_set j3 u ?_⟩
  · intro b o hn e
    rcases k1 with ⟨ka, kb⟩ | kf
    · obtain ⟨b', o', e2, hlt, -⟩ := Sl.cells g1 (by omega)
      rw [ka, e2] at e
      injection e with e
      injection e with e _
      omega
    · have := kf b o none e
      omega
  · intro b o hn e
    rcases k2 with ⟨ka, kb⟩ | kf
    · obtain ⟨b', o', e2, hlt, -⟩ := Sl.cells g2 (by omega)
      rw [ka, e2] at e
      injection e with e
      injection e with e _
      omega
    · have := kf b o none e
      omega
  · intro b o hn e
    rcases k3 with ⟨ka, kb⟩ | kf
    · obtain ⟨b', o', e2, hlt, -⟩ := Sl.cells g3 (by omega)
      rw [ka, e2] at e
      injection e with e
      injection e with e _
      omega
    · have := kf b o none e
      omega
theorem read_set4 {w0 W : World} {N : Nat} {v v' : Value} {s0 s : PegS} (h : ReadAt W v' s) (hk : Kin N v v') (h0 : ReadAt w0 v s0) {b : Nat} (h1 : w0.heap.size ≤ b) (h2 : b < N) (p0 p1 p2 p3 : Value) : ReadAt ((((W.setCell ⟨b, 0, none⟩ p0).setCell ⟨b, 1, none⟩ p1).setCell ⟨b, 2, none⟩ p2).setCell ⟨b, 3, none⟩ p3) v' s :=
  read_set (read_set (read_set (read_set h hk h0 h1 h2 p0) hk h0 h1 h2 p1) hk h0 h1 h2 p2) hk h0 h1 h2 p3
/-- The boxes of the peg, of what the reference tells, of what the program tells. -/
structure Tri (w W : World) (v0 v1 v2 v3 : Value) (b1 : Nat) (p0 p1 p2 p3 : Value) (b2 : Nat) (r0 r1 r2 r3 : Value) : Prop where
  at_ : AtP w W v0 v1 v2 v3
  lo : w.heap.size < b1
  mid : b1 < b2
  hi : b2 < W.heap.size
  bx1 : W.heap[b1]? = some (.cells #[p0, p1, p2, p3] 26 (0, 0))
  bx2 : W.heap[b2]? = some (.cells #[r0, r1, r2, r3] 26 (0, 0))
section
variable {w W W' : World} {v0 v1 v2 v3 p0 p1 p2 p3 r0 r1 r2 r3 : Value} {b1 b2 : Nat}
theorem Tri.step (h : Tri w W v0 v1 v2 v3 b1 p0 p1 p2 p3 b2 r0 r1 r2 r3) (hb : Below W.heap.size W W') : Tri w W' v0 v1 v2 v3 b1 p0 p1 p2 p3 b2 r0 r1 r2 r3 :=
  have h1 := h.mid
  have h2 := h.hi
  ⟨h.at_.step hb, h.lo, h.mid, Nat.lt_of_lt_of_le h.hi hb.size, (hb.block _ (by omega)).trans h.bx1, (hb.block _ (by omega)).trans h.bx2⟩
theorem Tri.put1 (h : Tri w W v0 v1 v2 v3 b1 p0 p1 p2 p3 b2 r0 r1 r2 r3) (u0 u1 u2 u3 : Value) : Tri w ((((W.setCell ⟨b1, 0, none⟩ u0).setCell ⟨b1, 1, none⟩ u1).setCell ⟨b1, 2, none⟩ u2).setCell ⟨b1, 3, none⟩ u3) v0 v1 v2 v3 b1 u0 u1 u2 u3 b2 r0 r1 r2 r3 := by
  have h1 := h.lo
  have h2 := h.mid
  refine ⟨⟨(((h.at_.below.setCell (by exact Nat.le_of_lt h1) _).setCell (by exact Nat.le_of_lt h1) _).setCell (by exact Nat.le_of_lt h1) _).setCell (by exact Nat.le_of_lt h1) _, ?_⟩, h1, h2, by simpa using h.hi, heap_set (heap_set (heap_set (heap_set h.bx1))), ?_⟩
  · exact (heap_other u3 (by omega)).trans ((heap_other u2 (by omega)).trans ((heap_other u1 (by omega)).trans ((heap_other u0 (by omega)).trans h.at_.box)))
  · exact (heap_other u3 (by omega)).trans ((heap_other u2 (by omega)).trans ((heap_other u1 (by omega)).trans ((heap_other u0 (by omega)).trans h.bx2)))
theorem Tri.put2 (h : Tri w W v0 v1 v2 v3 b1 p0 p1 p2 p3 b2 r0 r1 r2 r3) (u0 u1 u2 u3 : Value) : Tri w ((((W.setCell ⟨b2, 0, none⟩ u0).setCell ⟨b2, 1, none⟩ u1).setCell ⟨b2, 2, none⟩ u2).setCell ⟨b2, 3, none⟩ u3) v0 v1 v2 v3 b1 p0 p1 p2 p3 b2 u0 u1 u2 u3 := by
  have h1 := h.lo
  have h2 := h.mid
  have h3 : w.heap.size ≤ b2 := by omega
  refine ⟨⟨(((h.at_.below.setCell (by exact h3) _).setCell (by exact h3) _).setCell (by exact h3) _).setCell (by exact h3) _, ?_⟩, h1, h2, by simpa using h.hi, ?_, heap_set (heap_set (heap_set (heap_set h.bx2)))⟩
  · exact (heap_other u3 (by omega)).trans ((heap_other u2 (by omega)).trans ((heap_other u1 (by omega)).trans ((heap_other u0 (by omega)).trans h.at_.box)))
  · exact (heap_other u3 (by omega)).trans ((heap_other u2 (by omega)).trans ((heap_other u1 (by omega)).trans ((heap_other u0 (by omega)).trans h.bx1)))
end

set_option maxHeartbeats 40000000 in
set_option maxRecDepth 100000 in
theorem pegTells_any (s : PegS) (v : Value) (id who other n : Int) (w : World) (hg : ErrVar w) (h : PegAt 0 w v s) :
    Calls Tryd.prog 3 #[v, .int .i64 id, .int .i64 who, .int .i64 other, .int .i64 n] w (LawPost w) := by
  obtain ⟨l, A1, n1, c1, A2, n2, c2, A3, n3, c3, rfl, -⟩ := peg_open h
  have HG : Hid (∀ W, Below w.heap.size w W → ErrVar W) := aside (fun W hW => hg.below (errVar_lt hg) hW)
  have HP := aside h
  have HR0 : Hid (ReadAt w (.agg #[.int .i64 l, .slice A1 n1 c1, .slice A2 n2 c2, .slice A3 n3 c3]) s) := aside h.read
  have AT0 := aside (AtP.first w (.int .i64 l) (.slice A1 n1 c1) (.slice A2 n2 c2) (.slice A3 n3 c3))
  have Hft : Hid (∀ W, Below w.heap.size w W → Calls Tryd.prog 5 #[.agg #[.int .i64 l, .slice A1 n1 c1, .slice A2 n2 c2, .slice A3 n3 c3]] W (fun e w' => e = .returned (.int .i64 (checkS s)) ∧ Below W.heap.size W w')) := aside (fun W hW => fault_any s _ W (HP.out.below hW))
  have Hck : Hid (∀ W, Below w.heap.size w W → Calls Tryd.prog 7 #[.agg #[.int .i64 l, .slice A1 n1 c1, .slice A2 n2 c2, .slice A3 n3 c3]] W (fun e w' => e = .returned (errP (checkS s)) ∧ Below W.heap.size W w')) := aside (fun W hW => check_at s _ W (HP.out.below hW))
  have Hhas : Hid (∀ W, Below w.heap.size w W → Calls Tryd.prog 9 #[.agg #[.int .i64 l, .slice A1 n1 c1, .slice A2 n2 c2, .slice A3 n3 c3], .int .i64 who] W (fun e w' => e = .returned (.tuple #[.int .i64 (hasV s who), errP (checkS s)]) ∧ Below W.heap.size W w')) := aside (fun W hW => has_any s _ who W (HP.out.below hW))
  have Hpo : Hid (checkS s = 0 → ∀ W, Below w.heap.size w W → Calls Tryd.prog 8 #[.agg #[.int .i64 l, .slice A1 n1 c1, .slice A2 n2 c2, .slice A3 n3 c3], .int .i64 who] W (fun e w' => e = .returned (.int .i64 (hasV s who)) ∧ Below W.heap.size W w')) := aside (fun h0 W hW => by
    have hf : FitS s := pegQ_zero.1 h0
    unfold hasV
    rw [if_pos h0]
    exact pileOf_any s _ hf.ap (Nat.le_trans hf.lp (by decide)) who W (HP.out.below hW))
  have hno : Hid (checkS s ≠ 0 → hasV s who = 0) := aside (fun h0 => by unfold hasV; rw [if_neg h0])
  obtain ⟨E0, hE0⟩ : ∃ E, errOf (checkS s) = E := ⟨_, rfl⟩
  rw [show errP (checkS s) = E0 from hE0] at Hck Hhas
  have HE0 := aside hE0
  obtain ⟨q1, hq1⟩ : ∃ q, q = inQ s id who n := ⟨_, rfl⟩
  obtain ⟨s1, hs1⟩ : ∃ s', s' = actOut (inQ s id who n) (inR s id who n) := ⟨_, rfl⟩
  have HSm1 : Hid (Small s1) := aside (by rw [hs1]; exact small_out (fun e => small_fit (in_fit e).2.1))
  obtain ⟨E1, hE1⟩ : ∃ E, errOf q1 = E := ⟨_, rfl⟩
  have HE1 := aside hE1
  have Hr1 : Hid (∀ W, Below w.heap.size w W → Calls Tryd.prog 10 #[.agg #[.int .i64 l, .slice A1 n1 c1, .slice A2 n2 c2, .slice A3 n3 c3], .int .i64 id, .int .i64 who, .int .i64 n] W (fun e w' => ∃ L X x y Y z u Z a t, e = .returned (.tuple #[.agg #[.int .i64 L, .slice X x y, .slice Y z u, .slice Z a t], .int .i64 q1]) ∧ ReadAt w' (.agg #[.int .i64 L, .slice X x y, .slice Y z u, .slice Z a t]) s1 ∧ Kin W.heap.size (.agg #[.int .i64 l, .slice A1 n1 c1, .slice A2 n2 c2, .slice A3 n3 c3]) (.agg #[.int .i64 L, .slice X x y, .slice Y z u, .slice Z a t]) ∧ Below W.heap.size W w')) := aside (fun W hW => by
    refine (rin_any s _ id who n W (HP.out.below hW)).mono ?_
    rintro e w' ⟨v', rfl, hr, hk, hb⟩
    rw [← hs1] at hr
    rw [← hq1]
    have hr2 := hr
    obtain ⟨L, X, x, y, Y, z, u, Z, a, t, rfl, -⟩ := hr2
    exact ⟨L, X, x, y, Y, z, u, Z, a, t, rfl, hr, hk, hb⟩)
  have Hp1 : Hid (∀ W, Below w.heap.size w W → Calls Tryd.prog 11 #[.agg #[.int .i64 l, .slice A1 n1 c1, .slice A2 n2 c2, .slice A3 n3 c3], .int .i64 id, .int .i64 who, .int .i64 n] W (fun e w' => ∃ L X x y Y z u Z a t, e = .returned (.tuple #[.agg #[.int .i64 L, .slice X x y, .slice Y z u, .slice Z a t], E1]) ∧ PegAt W.heap.size w' (.agg #[.int .i64 L, .slice X x y, .slice Y z u, .slice Z a t]) s1 ∧ Below W.heap.size W w')) := aside (fun W hW => by
    refine (in_any s _ id who n W (HP.out.below hW)).mono ?_
    rintro e w' ⟨v', rfl, hr, hb⟩
    rw [← hs1] at hr
    rw [show errP (inQ s id who n) = E1 by rw [← hq1]; exact hE1]
    obtain ⟨L, X, x, y, Y, z, u, Z, a, t, rfl, -⟩ := peg_open hr
    exact ⟨L, X, x, y, Y, z, u, Z, a, t, rfl, hr, hb⟩)
  have hqq1 : (q1 == q1) = true := by simp
  clear hq1 hs1 hE1
  obtain ⟨q2, hq2⟩ : ∃ q, q = moveQ s who other n := ⟨_, rfl⟩
  obtain ⟨s2, hs2⟩ : ∃ s', s' = actOut (moveQ s who other n) (moveR s who other n) := ⟨_, rfl⟩
  have HSm2 : Hid (Small s2) := aside (by rw [hs2]; exact small_out (fun e => by
    have h := move_start e
    exact ⟨by show (movedP _ _ _ _).length ≤ 1000; have := h.2.2.2.2; omega, by show _ ≤ 1000; have := h.1.li; exact Nat.le_trans this (by decide), Nat.le_trans h.1.lr (by decide)⟩))
  obtain ⟨E2, hE2⟩ : ∃ E, errOf q2 = E := ⟨_, rfl⟩
  have HE2 := aside hE2
  have Hr2 : Hid (∀ W, Below w.heap.size w W → Calls Tryd.prog 13 #[.agg #[.int .i64 l, .slice A1 n1 c1, .slice A2 n2 c2, .slice A3 n3 c3], .int .i64 who, .int .i64 other, .int .i64 n] W (fun e w' => ∃ L X x y Y z u Z a t, e = .returned (.tuple #[.agg #[.int .i64 L, .slice X x y, .slice Y z u, .slice Z a t], .int .i64 q2]) ∧ ReadAt w' (.agg #[.int .i64 L, .slice X x y, .slice Y z u, .slice Z a t]) s2 ∧ Kin W.heap.size (.agg #[.int .i64 l, .slice A1 n1 c1, .slice A2 n2 c2, .slice A3 n3 c3]) (.agg #[.int .i64 L, .slice X x y, .slice Y z u, .slice Z a t]) ∧ Below W.heap.size W w')) := aside (fun W hW => by
    refine (rmove_any s _ who other n W (HP.out.below hW)).mono ?_
    rintro e w' ⟨v', rfl, hr, hk, hb⟩
    rw [← hs2] at hr
    rw [← hq2]
    have hr2 := hr
    obtain ⟨L, X, x, y, Y, z, u, Z, a, t, rfl, -⟩ := hr2
    exact ⟨L, X, x, y, Y, z, u, Z, a, t, rfl, hr, hk, hb⟩)
  have Hp2 : Hid (∀ W, Below w.heap.size w W → Calls Tryd.prog 14 #[.agg #[.int .i64 l, .slice A1 n1 c1, .slice A2 n2 c2, .slice A3 n3 c3], .int .i64 who, .int .i64 other, .int .i64 n] W (fun e w' => ∃ L X x y Y z u Z a t, e = .returned (.tuple #[.agg #[.int .i64 L, .slice X x y, .slice Y z u, .slice Z a t], E2]) ∧ PegAt W.heap.size w' (.agg #[.int .i64 L, .slice X x y, .slice Y z u, .slice Z a t]) s2 ∧ Below W.heap.size W w')) := aside (fun W hW => by
    refine (move_any s _ who other n W (HP.out.below hW)).mono ?_
    rintro e w' ⟨v', rfl, hr, hb⟩
    rw [← hs2] at hr
    rw [show errP (moveQ s who other n) = E2 by rw [← hq2]; exact hE2]
    obtain ⟨L, X, x, y, Y, z, u, Z, a, t, rfl, -⟩ := peg_open hr
    exact ⟨L, X, x, y, Y, z, u, Z, a, t, rfl, hr, hb⟩)
  have hqq2 : (q2 == q2) = true := by simp
  clear hq2 hs2 hE2
  obtain ⟨q3, hq3⟩ : ∃ q, q = outQ s id who n := ⟨_, rfl⟩
  obtain ⟨s3, hs3⟩ : ∃ s', s' = actOut (outQ s id who n) (outR s id who n) := ⟨_, rfl⟩
  have HSm3 : Hid (Small s3) := aside (by rw [hs3]; exact small_out (fun e => small_fit (out_fit e).2.1))
  obtain ⟨E3, hE3⟩ : ∃ E, errOf q3 = E := ⟨_, rfl⟩
  have HE3 := aside hE3
  have Hr3 : Hid (∀ W, Below w.heap.size w W → Calls Tryd.prog 15 #[.agg #[.int .i64 l, .slice A1 n1 c1, .slice A2 n2 c2, .slice A3 n3 c3], .int .i64 id, .int .i64 who, .int .i64 n] W (fun e w' => ∃ L X x y Y z u Z a t, e = .returned (.tuple #[.agg #[.int .i64 L, .slice X x y, .slice Y z u, .slice Z a t], .int .i64 q3]) ∧ ReadAt w' (.agg #[.int .i64 L, .slice X x y, .slice Y z u, .slice Z a t]) s3 ∧ Kin W.heap.size (.agg #[.int .i64 l, .slice A1 n1 c1, .slice A2 n2 c2, .slice A3 n3 c3]) (.agg #[.int .i64 L, .slice X x y, .slice Y z u, .slice Z a t]) ∧ Below W.heap.size W w')) := aside (fun W hW => by
    refine (rout_any s _ id who n W (HP.out.below hW)).mono ?_
    rintro e w' ⟨v', rfl, hr, hk, hb⟩
    rw [← hs3] at hr
    rw [← hq3]
    have hr2 := hr
    obtain ⟨L, X, x, y, Y, z, u, Z, a, t, rfl, -⟩ := hr2
    exact ⟨L, X, x, y, Y, z, u, Z, a, t, rfl, hr, hk, hb⟩)
  have Hp3 : Hid (∀ W, Below w.heap.size w W → Calls Tryd.prog 16 #[.agg #[.int .i64 l, .slice A1 n1 c1, .slice A2 n2 c2, .slice A3 n3 c3], .int .i64 id, .int .i64 who, .int .i64 n] W (fun e w' => ∃ L X x y Y z u Z a t, e = .returned (.tuple #[.agg #[.int .i64 L, .slice X x y, .slice Y z u, .slice Z a t], E3]) ∧ PegAt W.heap.size w' (.agg #[.int .i64 L, .slice X x y, .slice Y z u, .slice Z a t]) s3 ∧ Below W.heap.size W w')) := aside (fun W hW => by
    refine (out_any s _ id who n W (HP.out.below hW)).mono ?_
    rintro e w' ⟨v', rfl, hr, hb⟩
    rw [← hs3] at hr
    rw [show errP (outQ s id who n) = E3 by rw [← hq3]; exact hE3]
    obtain ⟨L, X, x, y, Y, z, u, Z, a, t, rfl, -⟩ := peg_open hr
    exact ⟨L, X, x, y, Y, z, u, Z, a, t, rfl, hr, hb⟩)
  have hqq3 : (q3 == q3) = true := by simp
  clear hq3 hs3 hE3
  obtain ⟨q4, hq4⟩ : ∃ q, q = payQ s id := ⟨_, rfl⟩
  obtain ⟨s4, hs4⟩ : ∃ s', s' = actOut (payQ s id) (payR s id) := ⟨_, rfl⟩
  have HSm4 : Hid (Small s4) := aside (by rw [hs4]; exact small_out (fun e => small_fit (pay_fit e).2.1))
  obtain ⟨E4, hE4⟩ : ∃ E, errOf q4 = E := ⟨_, rfl⟩
  have HE4 := aside hE4
  have Hr4 : Hid (∀ W, Below w.heap.size w W → Calls Tryd.prog 17 #[.agg #[.int .i64 l, .slice A1 n1 c1, .slice A2 n2 c2, .slice A3 n3 c3], .int .i64 id] W (fun e w' => ∃ L X x y Y z u Z a t, e = .returned (.tuple #[.agg #[.int .i64 L, .slice X x y, .slice Y z u, .slice Z a t], .int .i64 q4]) ∧ ReadAt w' (.agg #[.int .i64 L, .slice X x y, .slice Y z u, .slice Z a t]) s4 ∧ Kin W.heap.size (.agg #[.int .i64 l, .slice A1 n1 c1, .slice A2 n2 c2, .slice A3 n3 c3]) (.agg #[.int .i64 L, .slice X x y, .slice Y z u, .slice Z a t]) ∧ Below W.heap.size W w')) := aside (fun W hW => by
    refine (rpay_any s _ id W (HP.out.below hW)).mono ?_
    rintro e w' ⟨v', rfl, hr, hk, hb⟩
    rw [← hs4] at hr
    rw [← hq4]
    have hr2 := hr
    obtain ⟨L, X, x, y, Y, z, u, Z, a, t, rfl, -⟩ := hr2
    exact ⟨L, X, x, y, Y, z, u, Z, a, t, rfl, hr, hk, hb⟩)
  have Hp4 : Hid (∀ W, Below w.heap.size w W → Calls Tryd.prog 18 #[.agg #[.int .i64 l, .slice A1 n1 c1, .slice A2 n2 c2, .slice A3 n3 c3], .int .i64 id] W (fun e w' => ∃ L X x y Y z u Z a t, e = .returned (.tuple #[.agg #[.int .i64 L, .slice X x y, .slice Y z u, .slice Z a t], E4]) ∧ PegAt W.heap.size w' (.agg #[.int .i64 L, .slice X x y, .slice Y z u, .slice Z a t]) s4 ∧ Below W.heap.size W w')) := aside (fun W hW => by
    refine (pay_any s _ id W (HP.out.below hW)).mono ?_
    rintro e w' ⟨v', rfl, hr, hb⟩
    rw [← hs4] at hr
    rw [show errP (payQ s id) = E4 by rw [← hq4]; exact hE4]
    obtain ⟨L, X, x, y, Y, z, u, Z, a, t, rfl, -⟩ := peg_open hr
    exact ⟨L, X, x, y, Y, z, u, Z, a, t, rfl, hr, hb⟩)
  have hqq4 : (q4 == q4) = true := by simp
  clear hq4 hs4 hE4
  obtain ⟨q0, hq0⟩ : ∃ q, q = checkS s := ⟨_, rfl⟩
  obtain ⟨hv, hhv⟩ : ∃ h, h = hasV s who := ⟨_, rfl⟩
  rw [← hq0] at Hft Hpo hno HE0
  rw [← hhv] at Hhas Hpo hno
  have hqq0 : (q0 == q0) = true := by simp
  have hvv : (hv != hv) = false := by simp
  clear h hg hE0 hq0 hhv
  go_enter Tryd.func3, Tryd.ntmps3
  go_wp2_with fail
  refine (pegged_any _).mono ?_
  rintro e w1 ⟨rfl, hb⟩
  have AT1 := aside (AT0.out.step hb)
  have pc := AT1.out.cells
  obtain ⟨⟨e0, e1, e2, e3⟩, -⟩ := pc
  clear hb
  go_wp2_with fail
  refine (Hft.out _ AT1.out.below).mono ?_
  rintro e w2 ⟨rfl, hb⟩
  have AT2 := aside (AT1.out.step hb)
  clear e0 e1 e2 e3
  have pc := AT2.out.cells
  obtain ⟨⟨e0, e1, e2, e3⟩, -⟩ := pc
  clear hb
  go_wp2_with fail
  refine (Hck.out _ AT2.out.below).mono ?_
  rintro e w3 ⟨rfl, hb⟩
  have AT3 := aside (AT2.out.step hb)
  clear hb
  go_wp2_with fail
  refine (error_at HE0.out (HG.out _ AT3.out.below)).mono ?_
  rintro e w4 ⟨rfl, hb⟩
  have AT4 := aside (AT3.out.step hb)
  clear e0 e1 e2 e3
  have pc := AT4.out.cells
  obtain ⟨⟨e0, e1, e2, e3⟩, -⟩ := pc
  clear hb
  go_upto_if 29 with fail
  go_cut [14] from 21 (fun v14 wx => v14 = .int .i64 hv ∧ Hid (AtP w wx (.int .i64 l) (.slice A1 n1 c1) (.slice A2 n2 c2) (.slice A3 n3 c3)))
  case first =>
    by_cases h0 : q0 = 0
    · have h0' : (q0 == 0) = true := by simpa using h0
      have HPo := aside (Hpo.out h0)
      clear h0
      go_wp2_with fail
      refine (HPo.out _ AT4.out.below).mono ?_
      rintro e w5 ⟨rfl, hb⟩
      have AT5 := aside (AT4.out.step hb)
      go_wp2_with fail
      go_meet
      exact ⟨rfl, AT5⟩
    · have h0' : (q0 == 0) = false := by simpa using h0
      have hz := hno.out h0
      have HZ := aside hz
      clear h0 hz
      go_wp2_with fail
      go_meet
      exact ⟨by rw [HZ.out], AT4⟩
  case rest =>
    obtain ⟨rfl, AT5⟩ := hcut
    clear e0 e1 e2 e3
    have pc := AT5.out.cells
    obtain ⟨⟨e0, e1, e2, e3⟩, -⟩ := pc
    go_wp2_with fail
    refine (Hhas.out _ AT5.out.below).mono ?_
    rintro e w6 ⟨rfl, hb⟩
    have AT6 := aside (AT5.out.step hb)
    clear hb
    go_wp2_with fail
    refine (error_at HE0.out (HG.out _ AT6.out.below)).mono ?_
    rintro e w7 ⟨rfl, hb⟩
    have AT7 := aside (AT6.out.step hb)
    clear e0 e1 e2 e3
    have pc := AT7.out.cells
    obtain ⟨⟨e0, e1, e2, e3⟩, -⟩ := pc
    clear hb
    go_wp2_with fail
    refine (Hr1.out _ AT7.out.below).mono ?_
    rintro e w8 ⟨La, Xa, xa, ya, Ya, za, ua, Za, aa, ta, rfl, hr, hk, hb⟩
    have AT8 := aside (AT7.out.step hb)
    have HR8 := aside hr
    have HK8 := aside hk
    clear hb hr hk e0 e1 e2 e3
    go_upto_region 12 with fail
    obtain ⟨W8, hW8⟩ : ∃ W, W = w8.alloc (.cells #[.int .i64 La, .slice Xa xa ya, .slice Ya za ua, .slice Za aa ta] 26) := ⟨_, rfl⟩
    rw [← hW8]
    have AT9 : Hid (AtP w W8 (.int .i64 l) (.slice A1 n1 c1) (.slice A2 n2 c2) (.slice A3 n3 c3)) := aside (by rw [hW8]; exact AT8.out.alloc _)
    have HRa : Hid (ReadAt W8 (.agg #[.int .i64 La, .slice Xa xa ya, .slice Ya za ua, .slice Za aa ta]) s1) := aside (by rw [hW8]; exact HR8.out.below ((Below.refl _ _).alloc (Nat.le_refl _) _))
    obtain ⟨b1, hb1⟩ : ∃ b, b = w8.heap.size := ⟨_, rfl⟩
    have HX1 : Hid (W8.heap[b1]? = some (.cells #[.int .i64 La, .slice Xa xa ya, .slice Ya za ua, .slice Za aa ta] 26 (0, 0))) := aside (by rw [hW8, hb1]; exact heap_alloc_new _ _)
    have HL1 : Hid (w.heap.size < b1 ∧ b1 < W8.heap.size) := aside (by rw [hW8, hb1]; exact ⟨AT8.out.lt, by simp⟩)
    rw [← hb1]
    clear hW8 hb1 AT8 HR8 HK8
    have pc := AT9.out.cells
    obtain ⟨⟨e0, e1, e2, e3⟩, -⟩ := pc
    go_wp2_with fail
    refine (Hp1.out _ AT9.out.below).mono ?_
    rintro e w10 ⟨Lb, Xb, xb, yb, Yb, zb, ub, Zb, ab, tb, rfl, hp, hb⟩
    have AT10 := aside (AT9.out.step hb)
    have HRa2 := aside (HRa.out.below hb)
    have HRb2 := aside hp.read
    have HX2 := aside ((hb.block _ HL1.out.2).trans HX1.out)
    have HL2 : Hid (b1 < w10.heap.size) := aside (Nat.lt_of_lt_of_le HL1.out.2 hb.size)
    clear hb hp e0 e1 e2 e3
    go_upto_region 13 with fail
    obtain ⟨W10, hW10⟩ : ∃ W, W = w10.alloc (.cells #[.int .i64 Lb, .slice Xb xb yb, .slice Yb zb ub, .slice Zb ab tb] 26) := ⟨_, rfl⟩
    rw [← hW10]
    obtain ⟨b2, hb2⟩ : ∃ b, b = w10.heap.size := ⟨_, rfl⟩
    have T0 : Hid (Tri w W10 (.int .i64 l) (.slice A1 n1 c1) (.slice A2 n2 c2) (.slice A3 n3 c3) b1 (.int .i64 La) (.slice Xa xa ya) (.slice Ya za ua) (.slice Za aa ta) b2 (.int .i64 Lb) (.slice Xb xb yb) (.slice Yb zb ub) (.slice Zb ab tb)) := aside (by
      rw [hW10, hb2]
      exact ⟨AT10.out.alloc _, HL1.out.1, HL2.out, by simp, (Below.heap_alloc _ _ _ HL2.out).trans HX2.out, heap_alloc_new _ _⟩)
    have HRa : Hid (ReadAt W10 (.agg #[.int .i64 La, .slice Xa xa ya, .slice Ya za ua, .slice Za aa ta]) s1) := aside (by rw [hW10]; exact HRa2.out.below ((Below.refl _ _).alloc (Nat.le_refl _) _))
    have HRb : Hid (ReadAt W10 (.agg #[.int .i64 Lb, .slice Xb xb yb, .slice Yb zb ub, .slice Zb ab tb]) s1) := aside (by rw [hW10]; exact HRb2.out.below ((Below.refl _ _).alloc (Nat.le_refl _) _))
    rw [← hb2]
    clear hW10 hb2 HRa2 HRb2 HX1 HX2 HL1 HL2 AT9 AT10
    go_wp2_with fail
    refine (error_at HE1.out (HG.out _ T0.out.at_.below)).mono ?_
    rintro e w11 ⟨rfl, hb⟩
    have T1 := aside (T0.out.step hb)
    have HRa1 := aside (HRa.out.below hb)
    have HRb1 := aside (HRb.out.below hb)
    have p1 := box_cells T1.out.bx1
    have p2 := box_cells T1.out.bx2
    obtain ⟨⟨f0, f1, f2, f3⟩, -⟩ := p1
    obtain ⟨⟨g0, g1, g2, g3⟩, -⟩ := p2
    clear hb HRa HRb T0
    go_wp2_with fail
    refine (pegs_same s1 _ _ _ HRb1.out HRa1.out HSm1.out).mono ?_
    rintro e w12 ⟨rfl, hb⟩
    have T2 := aside (T1.out.step hb)
    clear hb f0 f1 f2 f3 g0 g1 g2 g3 HRa1 HRb1 T1
    obtain ⟨W, hW⟩ : ∃ W, W = w12 := ⟨_, rfl⟩
    rw [← hW] at T2 ⊢
    clear hW
    have pc := T2.out.at_.cells
    obtain ⟨⟨e0, e1, e2, e3⟩, -⟩ := pc
    go_wp2_with fail
    refine (Hr2.out _ T2.out.at_.below).mono ?_
    rintro e wA ⟨Lc, Xc, xc, yc, Yc, zc, uc, Zc, ac, tc, rfl, hr, hk, hb⟩
    have TA := aside (T2.out.step hb)
    have HKa := aside hk
    have HRa0 := aside hr
    have HN : Hid (w.heap.size ≤ b1 ∧ b1 < W.heap.size ∧ w.heap.size ≤ b2 ∧ b2 < W.heap.size) := aside (by have := T2.out.lo; have := T2.out.mid; have := T2.out.hi; omega)
    have p1 := box_cells TA.out.bx1
    obtain ⟨⟨f0, f1, f2, f3⟩, ff0, ff1, ff2, ff3⟩ := p1
    clear hb hr hk e0 e1 e2 e3 T2
    go_upto_region 17 with fail
    obtain ⟨WB, hWB⟩ : ∃ W, W = (((wA.setCell ⟨b1, 0, none⟩ (.int .i64 Lc)).setCell ⟨b1, 1, none⟩ (.slice Xc xc yc)).setCell ⟨b1, 2, none⟩ (.slice Yc zc uc)).setCell ⟨b1, 3, none⟩ (.slice Zc ac tc) := ⟨_, rfl⟩
    rw [← hWB]
    have TB : Hid (Tri w WB (.int .i64 l) (.slice A1 n1 c1) (.slice A2 n2 c2) (.slice A3 n3 c3) b1 (.int .i64 Lc) (.slice Xc xc yc) (.slice Yc zc uc) (.slice Zc ac tc) b2 (.int .i64 Lb) (.slice Xb xb yb) (.slice Yb zb ub) (.slice Zb ab tb)) := aside (by rw [hWB]; exact TA.out.put1 _ _ _ _)
    have HRa1 : Hid (ReadAt WB (.agg #[.int .i64 Lc, .slice Xc xc yc, .slice Yc zc uc, .slice Zc ac tc]) s2) := aside (by rw [hWB]; exact read_set4 HRa0.out HKa.out HR0.out HN.out.1 HN.out.2.1 _ _ _ _)
    clear hWB TA HRa0 f0 f1 f2 f3 ff0 ff1 ff2 ff3
    have pc := TB.out.at_.cells
    obtain ⟨⟨e0, e1, e2, e3⟩, -⟩ := pc
    go_wp2_with fail
    refine (Hp2.out _ TB.out.at_.below).mono ?_
    rintro e wC ⟨Ld, Xd, xd, yd, Yd, zd, ud, Zd, ad, td, rfl, hp, hb⟩
    have TC := aside (TB.out.step hb)
    have HRa2 := aside (HRa1.out.below hb)
    have HPb := aside hp
    have hN2 := TB.out.hi
    have HN2 := aside hN2
    have p1 := box_cells TC.out.bx2
    obtain ⟨⟨f0, f1, f2, f3⟩, ff0, ff1, ff2, ff3⟩ := p1
    clear hb hp e0 e1 e2 e3 hN2
    go_upto_region 18 with fail
    obtain ⟨WD, hWD⟩ : ∃ W, W = (((wC.setCell ⟨b2, 0, none⟩ (.int .i64 Ld)).setCell ⟨b2, 1, none⟩ (.slice Xd xd yd)).setCell ⟨b2, 2, none⟩ (.slice Yd zd ud)).setCell ⟨b2, 3, none⟩ (.slice Zd ad td) := ⟨_, rfl⟩
    rw [← hWD]
    have TD : Hid (Tri w WD (.int .i64 l) (.slice A1 n1 c1) (.slice A2 n2 c2) (.slice A3 n3 c3) b1 (.int .i64 Lc) (.slice Xc xc yc) (.slice Yc zc uc) (.slice Zc ac tc) b2 (.int .i64 Ld) (.slice Xd xd yd) (.slice Yd zd ud) (.slice Zd ad td)) := aside (by rw [hWD]; exact TC.out.put2 _ _ _ _)
    have HRa : Hid (ReadAt WD (.agg #[.int .i64 Lc, .slice Xc xc yc, .slice Yc zc uc, .slice Zc ac tc]) s2) := aside (by rw [hWD]; exact read_set4 HRa2.out HKa.out HR0.out HN.out.2.2.1 HN.out.2.2.2 _ _ _ _)
    have HRb : Hid (ReadAt WD (.agg #[.int .i64 Ld, .slice Xd xd yd, .slice Yd zd ud, .slice Zd ad td]) s2) := aside (by rw [hWD]; exact ((((HPb.out.set (by exact HN2.out) _).set (by exact HN2.out) _).set (by exact HN2.out) _).set (by exact HN2.out) _).read)
    clear hWD TB TC HRa1 HRa2 HPb HKa HN HN2 f0 f1 f2 f3 ff0 ff1 ff2 ff3
    go_wp2_with fail
    refine (error_at HE2.out (HG.out _ TD.out.at_.below)).mono ?_
    rintro e w11 ⟨rfl, hb⟩
    have T1 := aside (TD.out.step hb)
    have HRa1 := aside (HRa.out.below hb)
    have HRb1 := aside (HRb.out.below hb)
    have p1 := box_cells T1.out.bx1
    have p2 := box_cells T1.out.bx2
    obtain ⟨⟨f0, f1, f2, f3⟩, -⟩ := p1
    obtain ⟨⟨g0, g1, g2, g3⟩, -⟩ := p2
    clear hb HRa HRb TD
    go_wp2_with fail
    refine (pegs_same s2 _ _ _ HRb1.out HRa1.out HSm2.out).mono ?_
    rintro e w12 ⟨rfl, hb⟩
    have T2 := aside (T1.out.step hb)
    clear hb f0 f1 f2 f3 g0 g1 g2 g3 HRa1 HRb1 T1
    obtain ⟨W, hW⟩ : ∃ W, W = w12 := ⟨_, rfl⟩
    rw [← hW] at T2 ⊢
    clear hW
    have pc := T2.out.at_.cells
    obtain ⟨⟨e0, e1, e2, e3⟩, -⟩ := pc
    go_wp2_with fail
    refine (Hr3.out _ T2.out.at_.below).mono ?_
    rintro e wA ⟨Lf, Xf, xf, yf, Yf, zf, uf, Zf, af, tf, rfl, hr, hk, hb⟩
    have TA := aside (T2.out.step hb)
    have HKa := aside hk
    have HRa0 := aside hr
    have HN : Hid (w.heap.size ≤ b1 ∧ b1 < W.heap.size ∧ w.heap.size ≤ b2 ∧ b2 < W.heap.size) := aside (by have := T2.out.lo; have := T2.out.mid; have := T2.out.hi; omega)
    have p1 := box_cells TA.out.bx1
    obtain ⟨⟨f0, f1, f2, f3⟩, ff0, ff1, ff2, ff3⟩ := p1
    clear hb hr hk e0 e1 e2 e3 T2
    go_upto_region 22 with fail
    obtain ⟨WB, hWB⟩ : ∃ W, W = (((wA.setCell ⟨b1, 0, none⟩ (.int .i64 Lf)).setCell ⟨b1, 1, none⟩ (.slice Xf xf yf)).setCell ⟨b1, 2, none⟩ (.slice Yf zf uf)).setCell ⟨b1, 3, none⟩ (.slice Zf af tf) := ⟨_, rfl⟩
    rw [← hWB]
    have TB : Hid (Tri w WB (.int .i64 l) (.slice A1 n1 c1) (.slice A2 n2 c2) (.slice A3 n3 c3) b1 (.int .i64 Lf) (.slice Xf xf yf) (.slice Yf zf uf) (.slice Zf af tf) b2 (.int .i64 Ld) (.slice Xd xd yd) (.slice Yd zd ud) (.slice Zd ad td)) := aside (by rw [hWB]; exact TA.out.put1 _ _ _ _)
    have HRa1 : Hid (ReadAt WB (.agg #[.int .i64 Lf, .slice Xf xf yf, .slice Yf zf uf, .slice Zf af tf]) s3) := aside (by rw [hWB]; exact read_set4 HRa0.out HKa.out HR0.out HN.out.1 HN.out.2.1 _ _ _ _)
    clear hWB TA HRa0 f0 f1 f2 f3 ff0 ff1 ff2 ff3
    have pc := TB.out.at_.cells
    obtain ⟨⟨e0, e1, e2, e3⟩, -⟩ := pc
    go_wp2_with fail
    refine (Hp3.out _ TB.out.at_.below).mono ?_
    rintro e wC ⟨Lg, Xg, xg, yg, Yg, zg, ug, Zg, ag, tg, rfl, hp, hb⟩
    have TC := aside (TB.out.step hb)
    have HRa2 := aside (HRa1.out.below hb)
    have HPb := aside hp
    have hN2 := TB.out.hi
    have HN2 := aside hN2
    have p1 := box_cells TC.out.bx2
    obtain ⟨⟨f0, f1, f2, f3⟩, ff0, ff1, ff2, ff3⟩ := p1
    clear hb hp e0 e1 e2 e3 hN2
    go_upto_region 23 with fail
    obtain ⟨WD, hWD⟩ : ∃ W, W = (((wC.setCell ⟨b2, 0, none⟩ (.int .i64 Lg)).setCell ⟨b2, 1, none⟩ (.slice Xg xg yg)).setCell ⟨b2, 2, none⟩ (.slice Yg zg ug)).setCell ⟨b2, 3, none⟩ (.slice Zg ag tg) := ⟨_, rfl⟩
    rw [← hWD]
    have TD : Hid (Tri w WD (.int .i64 l) (.slice A1 n1 c1) (.slice A2 n2 c2) (.slice A3 n3 c3) b1 (.int .i64 Lf) (.slice Xf xf yf) (.slice Yf zf uf) (.slice Zf af tf) b2 (.int .i64 Lg) (.slice Xg xg yg) (.slice Yg zg ug) (.slice Zg ag tg)) := aside (by rw [hWD]; exact TC.out.put2 _ _ _ _)
    have HRa : Hid (ReadAt WD (.agg #[.int .i64 Lf, .slice Xf xf yf, .slice Yf zf uf, .slice Zf af tf]) s3) := aside (by rw [hWD]; exact read_set4 HRa2.out HKa.out HR0.out HN.out.2.2.1 HN.out.2.2.2 _ _ _ _)
    have HRb : Hid (ReadAt WD (.agg #[.int .i64 Lg, .slice Xg xg yg, .slice Yg zg ug, .slice Zg ag tg]) s3) := aside (by rw [hWD]; exact ((((HPb.out.set (by exact HN2.out) _).set (by exact HN2.out) _).set (by exact HN2.out) _).set (by exact HN2.out) _).read)
    clear hWD TB TC HRa1 HRa2 HPb HKa HN HN2 f0 f1 f2 f3 ff0 ff1 ff2 ff3
    go_wp2_with fail
    refine (error_at HE3.out (HG.out _ TD.out.at_.below)).mono ?_
    rintro e w11 ⟨rfl, hb⟩
    have T1 := aside (TD.out.step hb)
    have HRa1 := aside (HRa.out.below hb)
    have HRb1 := aside (HRb.out.below hb)
    have p1 := box_cells T1.out.bx1
    have p2 := box_cells T1.out.bx2
    obtain ⟨⟨f0, f1, f2, f3⟩, -⟩ := p1
    obtain ⟨⟨g0, g1, g2, g3⟩, -⟩ := p2
    clear hb HRa HRb TD
    go_wp2_with fail
    refine (pegs_same s3 _ _ _ HRb1.out HRa1.out HSm3.out).mono ?_
    rintro e w12 ⟨rfl, hb⟩
    have T2 := aside (T1.out.step hb)
    clear hb f0 f1 f2 f3 g0 g1 g2 g3 HRa1 HRb1 T1
    obtain ⟨W, hW⟩ : ∃ W, W = w12 := ⟨_, rfl⟩
    rw [← hW] at T2 ⊢
    clear hW
    have pc := T2.out.at_.cells
    obtain ⟨⟨e0, e1, e2, e3⟩, -⟩ := pc
    go_wp2_with fail
    refine (Hr4.out _ T2.out.at_.below).mono ?_
    rintro e wA ⟨Lh, Xh, xh, yh, Yh, zh, uh, Zh, ah, th, rfl, hr, hk, hb⟩
    have TA := aside (T2.out.step hb)
    have HKa := aside hk
    have HRa0 := aside hr
    have HN : Hid (w.heap.size ≤ b1 ∧ b1 < W.heap.size ∧ w.heap.size ≤ b2 ∧ b2 < W.heap.size) := aside (by have := T2.out.lo; have := T2.out.mid; have := T2.out.hi; omega)
    have p1 := box_cells TA.out.bx1
    obtain ⟨⟨f0, f1, f2, f3⟩, ff0, ff1, ff2, ff3⟩ := p1
    clear hb hr hk e0 e1 e2 e3 T2
    go_upto_region 27 with fail
    obtain ⟨WB, hWB⟩ : ∃ W, W = (((wA.setCell ⟨b1, 0, none⟩ (.int .i64 Lh)).setCell ⟨b1, 1, none⟩ (.slice Xh xh yh)).setCell ⟨b1, 2, none⟩ (.slice Yh zh uh)).setCell ⟨b1, 3, none⟩ (.slice Zh ah th) := ⟨_, rfl⟩
    rw [← hWB]
    have TB : Hid (Tri w WB (.int .i64 l) (.slice A1 n1 c1) (.slice A2 n2 c2) (.slice A3 n3 c3) b1 (.int .i64 Lh) (.slice Xh xh yh) (.slice Yh zh uh) (.slice Zh ah th) b2 (.int .i64 Lg) (.slice Xg xg yg) (.slice Yg zg ug) (.slice Zg ag tg)) := aside (by rw [hWB]; exact TA.out.put1 _ _ _ _)
    have HRa1 : Hid (ReadAt WB (.agg #[.int .i64 Lh, .slice Xh xh yh, .slice Yh zh uh, .slice Zh ah th]) s4) := aside (by rw [hWB]; exact read_set4 HRa0.out HKa.out HR0.out HN.out.1 HN.out.2.1 _ _ _ _)
    clear hWB TA HRa0 f0 f1 f2 f3 ff0 ff1 ff2 ff3
    have pc := TB.out.at_.cells
    obtain ⟨⟨e0, e1, e2, e3⟩, -⟩ := pc
    go_wp2_with fail
    refine (Hp4.out _ TB.out.at_.below).mono ?_
    rintro e wC ⟨Lj, Xj, xj, yj, Yj, zj, uj, Zj, aj, tj, rfl, hp, hb⟩
    have TC := aside (TB.out.step hb)
    have HRa2 := aside (HRa1.out.below hb)
    have HPb := aside hp
    have hN2 := TB.out.hi
    have HN2 := aside hN2
    have p1 := box_cells TC.out.bx2
    obtain ⟨⟨f0, f1, f2, f3⟩, ff0, ff1, ff2, ff3⟩ := p1
    clear hb hp e0 e1 e2 e3 hN2
    go_upto_region 28 with fail
    obtain ⟨WD, hWD⟩ : ∃ W, W = (((wC.setCell ⟨b2, 0, none⟩ (.int .i64 Lj)).setCell ⟨b2, 1, none⟩ (.slice Xj xj yj)).setCell ⟨b2, 2, none⟩ (.slice Yj zj uj)).setCell ⟨b2, 3, none⟩ (.slice Zj aj tj) := ⟨_, rfl⟩
    rw [← hWD]
    have TD : Hid (Tri w WD (.int .i64 l) (.slice A1 n1 c1) (.slice A2 n2 c2) (.slice A3 n3 c3) b1 (.int .i64 Lh) (.slice Xh xh yh) (.slice Yh zh uh) (.slice Zh ah th) b2 (.int .i64 Lj) (.slice Xj xj yj) (.slice Yj zj uj) (.slice Zj aj tj)) := aside (by rw [hWD]; exact TC.out.put2 _ _ _ _)
    have HRa : Hid (ReadAt WD (.agg #[.int .i64 Lh, .slice Xh xh yh, .slice Yh zh uh, .slice Zh ah th]) s4) := aside (by rw [hWD]; exact read_set4 HRa2.out HKa.out HR0.out HN.out.2.2.1 HN.out.2.2.2 _ _ _ _)
    have HRb : Hid (ReadAt WD (.agg #[.int .i64 Lj, .slice Xj xj yj, .slice Yj zj uj, .slice Zj aj tj]) s4) := aside (by rw [hWD]; exact ((((HPb.out.set (by exact HN2.out) _).set (by exact HN2.out) _).set (by exact HN2.out) _).set (by exact HN2.out) _).read)
    clear hWD TB TC HRa1 HRa2 HPb HKa HN HN2 f0 f1 f2 f3 ff0 ff1 ff2 ff3
    go_wp2_with fail
    refine (error_at HE4.out (HG.out _ TD.out.at_.below)).mono ?_
    rintro e w11 ⟨rfl, hb⟩
    have T1 := aside (TD.out.step hb)
    have HRa1 := aside (HRa.out.below hb)
    have HRb1 := aside (HRb.out.below hb)
    have p1 := box_cells T1.out.bx1
    have p2 := box_cells T1.out.bx2
    obtain ⟨⟨f0, f1, f2, f3⟩, -⟩ := p1
    obtain ⟨⟨g0, g1, g2, g3⟩, -⟩ := p2
    clear hb HRa HRb TD
    go_wp2_with fail
    refine (pegs_same s4 _ _ _ HRb1.out HRa1.out HSm4.out).mono ?_
    rintro e w12 ⟨rfl, hb⟩
    have T2 := aside (T1.out.step hb)
    clear hb f0 f1 f2 f3 g0 g1 g2 g3 HRa1 HRb1 T1
    go_wp2_with fail
    go_ret
    exact ⟨rfl, T2.out.at_.below⟩
end Go.Proofs.YtcmlhopidohimaaDoor
