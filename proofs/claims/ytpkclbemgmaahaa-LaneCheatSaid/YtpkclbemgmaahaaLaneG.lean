/- Words for a region that pays in a loop; the walk of laid. No condition. -/
import Derived.Test.YtpkclbemgmaahaaLaneS
namespace Go.Proofs.Ytpkclbemgmaahaa
open Go.RowKit Go.ChangeShapes Go.WideShapes Go.ChangeAt

theorem kept7 {wr w2 : World} {b b1 b2 o1 o2 : Nat} {a0 a1 a2 a3 a4 v1 v2 : Value} (h : Below wr.heap.size wr w2) (l0 : b < wr.heap.size) (m1 : b1 < wr.heap.size) (m2 : b2 < wr.heap.size) (H : wr.cell? ⟨b, 0, none⟩ = some a0 ∧ wr.cell? ⟨b, 1, none⟩ = some a1 ∧ wr.cell? ⟨b, 2, none⟩ = some a2 ∧ wr.cell? ⟨b, 3, none⟩ = some a3 ∧ wr.cell? ⟨b, 4, none⟩ = some a4 ∧ wr.cell? ⟨b1, o1, none⟩ = some v1 ∧ wr.cell? ⟨b2, o2, none⟩ = some v2) (hf : ∀ i, wr.frozen? ⟨b, i, none⟩ = false) :
    (w2.cell? ⟨b, 0, none⟩ = some a0 ∧ w2.cell? ⟨b, 1, none⟩ = some a1 ∧ w2.cell? ⟨b, 2, none⟩ = some a2 ∧ w2.cell? ⟨b, 3, none⟩ = some a3 ∧ w2.cell? ⟨b, 4, none⟩ = some a4 ∧ w2.cell? ⟨b1, o1, none⟩ = some v1 ∧ w2.cell? ⟨b2, o2, none⟩ = some v2) ∧ b < w2.heap.size ∧ b1 < w2.heap.size ∧ b2 < w2.heap.size ∧ (∀ i, w2.frozen? ⟨b, i, none⟩ = false) := by
  obtain ⟨h0, h1, h2, h3, h4, q1, q2⟩ := H
  have hs := h.size
  refine ⟨⟨?_, ?_, ?_, ?_, ?_, ?_, ?_⟩, by omega, by omega, by omega, fun i => ?_⟩
  · rw [h.cell (by exact l0)]; exact h0
  · rw [h.cell (by exact l0)]; exact h1
  · rw [h.cell (by exact l0)]; exact h2
  · rw [h.cell (by exact l0)]; exact h3
  · rw [h.cell (by exact l0)]; exact h4
  · rw [h.cell (by exact m1)]; exact q1
  · rw [h.cell (by exact m2)]; exact q2
  · rw [h.frozen (by exact l0)]; exact hf i
theorem kept_alloc7 {wr : World} {c : Obj} {b b1 b2 o1 o2 : Nat} {a0 a1 a2 a3 a4 v1 v2 : Value} (l0 : b < wr.heap.size) (m1 : b1 < wr.heap.size) (m2 : b2 < wr.heap.size) (H : wr.cell? ⟨b, 0, none⟩ = some a0 ∧ wr.cell? ⟨b, 1, none⟩ = some a1 ∧ wr.cell? ⟨b, 2, none⟩ = some a2 ∧ wr.cell? ⟨b, 3, none⟩ = some a3 ∧ wr.cell? ⟨b, 4, none⟩ = some a4 ∧ wr.cell? ⟨b1, o1, none⟩ = some v1 ∧ wr.cell? ⟨b2, o2, none⟩ = some v2) :
    (wr.alloc c).cell? ⟨b, 0, none⟩ = some a0 ∧ (wr.alloc c).cell? ⟨b, 1, none⟩ = some a1 ∧ (wr.alloc c).cell? ⟨b, 2, none⟩ = some a2 ∧ (wr.alloc c).cell? ⟨b, 3, none⟩ = some a3 ∧ (wr.alloc c).cell? ⟨b, 4, none⟩ = some a4 ∧ (wr.alloc c).cell? ⟨b1, o1, none⟩ = some v1 ∧ (wr.alloc c).cell? ⟨b2, o2, none⟩ = some v2 := by
  obtain ⟨h0, h1, h2, h3, h4, q1, q2⟩ := H
  exact ⟨(World.cell?_alloc_lt _ _ ⟨b, 0, none⟩ l0).trans h0, (World.cell?_alloc_lt _ _ ⟨b, 1, none⟩ l0).trans h1, (World.cell?_alloc_lt _ _ ⟨b, 2, none⟩ l0).trans h2, (World.cell?_alloc_lt _ _ ⟨b, 3, none⟩ l0).trans h3, (World.cell?_alloc_lt _ _ ⟨b, 4, none⟩ l0).trans h4, (World.cell?_alloc_lt _ _ ⟨b1, o1, none⟩ m1).trans q1, (World.cell?_alloc_lt _ _ ⟨b2, o2, none⟩ m2).trans q2⟩
theorem kept_drew7 {wr : World} {b b1 b2 o1 o2 : Nat} {a0 a1 a2 a3 a4 v1 v2 : Value} (H : wr.cell? ⟨b, 0, none⟩ = some a0 ∧ wr.cell? ⟨b, 1, none⟩ = some a1 ∧ wr.cell? ⟨b, 2, none⟩ = some a2 ∧ wr.cell? ⟨b, 3, none⟩ = some a3 ∧ wr.cell? ⟨b, 4, none⟩ = some a4 ∧ wr.cell? ⟨b1, o1, none⟩ = some v1 ∧ wr.cell? ⟨b2, o2, none⟩ = some v2) : wr.drew.cell? ⟨b, 0, none⟩ = some a0 ∧ wr.drew.cell? ⟨b, 1, none⟩ = some a1 ∧ wr.drew.cell? ⟨b, 2, none⟩ = some a2 ∧ wr.drew.cell? ⟨b, 3, none⟩ = some a3 ∧ wr.drew.cell? ⟨b, 4, none⟩ = some a4 ∧ wr.drew.cell? ⟨b1, o1, none⟩ = some v1 ∧ wr.drew.cell? ⟨b2, o2, none⟩ = some v2 := H
theorem kept_alloc_drew7 {wr : World} {c : Obj} {b b1 b2 o1 o2 : Nat} {a0 a1 a2 a3 a4 v1 v2 : Value} (l0 : b < wr.heap.size) (m1 : b1 < wr.heap.size) (m2 : b2 < wr.heap.size) (H : wr.cell? ⟨b, 0, none⟩ = some a0 ∧ wr.cell? ⟨b, 1, none⟩ = some a1 ∧ wr.cell? ⟨b, 2, none⟩ = some a2 ∧ wr.cell? ⟨b, 3, none⟩ = some a3 ∧ wr.cell? ⟨b, 4, none⟩ = some a4 ∧ wr.cell? ⟨b1, o1, none⟩ = some v1 ∧ wr.cell? ⟨b2, o2, none⟩ = some v2) :
    (wr.alloc c).drew.cell? ⟨b, 0, none⟩ = some a0 ∧ (wr.alloc c).drew.cell? ⟨b, 1, none⟩ = some a1 ∧ (wr.alloc c).drew.cell? ⟨b, 2, none⟩ = some a2 ∧ (wr.alloc c).drew.cell? ⟨b, 3, none⟩ = some a3 ∧ (wr.alloc c).drew.cell? ⟨b, 4, none⟩ = some a4 ∧ (wr.alloc c).drew.cell? ⟨b1, o1, none⟩ = some v1 ∧ (wr.alloc c).drew.cell? ⟨b2, o2, none⟩ = some v2 := kept_alloc7 l0 m1 m2 H
theorem set5_far {W : World} {nb c o : Nat} {u0 u1 u2 u3 u4 : Value} (h : c < nb) : (set5 W nb u0 u1 u2 u3 u4).cell? ⟨c, o, none⟩ = W.cell? ⟨c, o, none⟩ := by
  unfold set5
  iterate 5 rw [World.cell?_setCell_far _ _ _ _ (by exact Nat.ne_of_gt h)]
theorem set5_sizeR {w : World} {b : Nat} {v0 v1 v2 v3 v4 : Value} : (((((w.setCell ⟨b, 0, none⟩ v0).setCell ⟨b, 1, none⟩ v1).setCell ⟨b, 2, none⟩ v2).setCell ⟨b, 3, none⟩ v3).setCell ⟨b, 4, none⟩ v4).heap.size = w.heap.size := set5_size
theorem kept_set7 {W : World} {nb : Nat} {u0 u1 u2 u3 u4 : Value} {b b1 b2 o1 o2 : Nat} {a0 a1 a2 a3 a4 v1 v2 : Value} (l0 : b < nb) (m1 : b1 < nb) (m2 : b2 < nb) (H : W.cell? ⟨b, 0, none⟩ = some a0 ∧ W.cell? ⟨b, 1, none⟩ = some a1 ∧ W.cell? ⟨b, 2, none⟩ = some a2 ∧ W.cell? ⟨b, 3, none⟩ = some a3 ∧ W.cell? ⟨b, 4, none⟩ = some a4 ∧ W.cell? ⟨b1, o1, none⟩ = some v1 ∧ W.cell? ⟨b2, o2, none⟩ = some v2) :
    (((((W.setCell ⟨nb, 0, none⟩ u0).setCell ⟨nb, 1, none⟩ u1).setCell ⟨nb, 2, none⟩ u2).setCell ⟨nb, 3, none⟩ u3).setCell ⟨nb, 4, none⟩ u4).cell? ⟨b, 0, none⟩ = some a0 ∧ (((((W.setCell ⟨nb, 0, none⟩ u0).setCell ⟨nb, 1, none⟩ u1).setCell ⟨nb, 2, none⟩ u2).setCell ⟨nb, 3, none⟩ u3).setCell ⟨nb, 4, none⟩ u4).cell? ⟨b, 1, none⟩ = some a1 ∧ (((((W.setCell ⟨nb, 0, none⟩ u0).setCell ⟨nb, 1, none⟩ u1).setCell ⟨nb, 2, none⟩ u2).setCell ⟨nb, 3, none⟩ u3).setCell ⟨nb, 4, none⟩ u4).cell? ⟨b, 2, none⟩ = some a2 ∧ (((((W.setCell ⟨nb, 0, none⟩ u0).setCell ⟨nb, 1, none⟩ u1).setCell ⟨nb, 2, none⟩ u2).setCell ⟨nb, 3, none⟩ u3).setCell ⟨nb, 4, none⟩ u4).cell? ⟨b, 3, none⟩ = some a3 ∧ (((((W.setCell ⟨nb, 0, none⟩ u0).setCell ⟨nb, 1, none⟩ u1).setCell ⟨nb, 2, none⟩ u2).setCell ⟨nb, 3, none⟩ u3).setCell ⟨nb, 4, none⟩ u4).cell? ⟨b, 4, none⟩ = some a4 ∧ (((((W.setCell ⟨nb, 0, none⟩ u0).setCell ⟨nb, 1, none⟩ u1).setCell ⟨nb, 2, none⟩ u2).setCell ⟨nb, 3, none⟩ u3).setCell ⟨nb, 4, none⟩ u4).cell? ⟨b1, o1, none⟩ = some v1 ∧ (((((W.setCell ⟨nb, 0, none⟩ u0).setCell ⟨nb, 1, none⟩ u1).setCell ⟨nb, 2, none⟩ u2).setCell ⟨nb, 3, none⟩ u3).setCell ⟨nb, 4, none⟩ u4).cell? ⟨b2, o2, none⟩ = some v2 := by
  obtain ⟨h0, h1, h2, h3, h4, q1, q2⟩ := H
  exact ⟨(set5_far l0).trans h0, (set5_far l0).trans h1, (set5_far l0).trans h2, (set5_far l0).trans h3, (set5_far l0).trans h4, (set5_far m1).trans q1, (set5_far m2).trans q2⟩

/-- The channel that a call tells, behind it: in block nb; its turns kept. -/
structure AfterL (wr W : World) (nb : Nat) (A : Option Addr) (n c : Nat) (cl tu wh : Int) (ch : Bool) (ok : Prop) (ps : List (Int × Int)) : Prop where
  bel : Below wr.heap.size wr W
  big : wr.heap.size ≤ nb
  lt : nb < W.heap.size
  at_ : ChAt W nb A n c cl tu wh ch
  row : ok → PSl W W.heap.size A n ps ∧ Far wr.heap.size A
theorem afterL_alloc {wr w2 : World} {A : Option Addr} {n c : Nat} {cl tu wh : Int} {ch : Bool} {ok : Prop} {ps : List (Int × Int)} (h : Below wr.heap.size wr w2) (hr : ok → PSl w2 w2.heap.size A n ps ∧ Far wr.heap.size A) :
    AfterL wr (w2.alloc (.cells #[.slice A n c, .int .i64 cl, .int .i64 tu, .int .i64 wh, .bool ch] 26)) w2.heap.size A n c cl tu wh ch ok ps :=
  ⟨h.trans ((Below.refl _ _).alloc h.size _), h.size, by simp, chAt_alloc _, fun k => ⟨((hr k).1.alloc (Nat.le_refl _) _).more (by simp), (hr k).2⟩⟩
theorem afterL_set {wr w2 : World} {A : Option Addr} {n c : Nat} {cl tu wh : Int} {ch : Bool} {ok : Prop} {ps : List (Int × Int)} (h : Below wr.heap.size wr w2) (hl : wr.heap.size < w2.heap.size) (hc : ∀ k, k < 5 → (w2.cell? ⟨wr.heap.size, k, none⟩).isSome = true) (hf : ∀ i, w2.frozen? ⟨wr.heap.size, i, none⟩ = false)
    (hr : ok → PSl w2 w2.heap.size A n ps ∧ Far (wr.heap.size + 1) A) :
    AfterL wr (set5 w2 wr.heap.size (.slice A n c) (.int .i64 cl) (.int .i64 tu) (.int .i64 wh) (.bool ch)) wr.heap.size A n c cl tu wh ch ok ps :=
  ⟨set5_below (Nat.le_refl _) h, Nat.le_refl _, by rw [set5_size]; exact hl, chAt_set hc hf, fun k => ⟨by rw [set5_size]; exact (hr k).1.set5 (hr k).2 (Nat.lt_succ_self _), (hr k).2.mono (Nat.le_succ _)⟩⟩
theorem below_drewL {wr w2 : World} (h : Below wr.drew.heap.size wr.drew w2) : Below wr.heap.size wr w2 := ⟨h.os, h.tape, h.output, h.size, h.block⟩
theorem below_drew_allocL {wr w2 : World} {c : Obj} (h : Below (wr.alloc c).drew.heap.size (wr.alloc c).drew w2) : Below wr.heap.size wr w2 :=
  ((Below.refl _ _).alloc (Nat.le_refl _) _).trans ((below_drewL h).mono (by simp))
theorem new_keptL {W0 w2 : World} {Z : Array Value} {t : TypeId} (hb : Below (W0.alloc (.cells Z t)).drew.heap.size (W0.alloc (.cells Z t)).drew w2) :
    (∀ o, w2.cell? ⟨W0.heap.size, o, none⟩ = Z[o]?) ∧ (∀ o, w2.frozen? ⟨W0.heap.size, o, none⟩ = false) ∧ W0.heap.size < w2.heap.size := by
  have hb' : Below (W0.alloc (.cells Z t)).heap.size (W0.alloc (.cells Z t)) w2 := ⟨hb.os, hb.tape, hb.output, hb.size, hb.block⟩
  refine ⟨fun o => ?_, fun o => ?_, ?_⟩
  · rw [hb'.cell (by simp)]; exact World.cell?_alloc_at _ _ _ _ rfl
  · rw [hb'.frozen (by simp)]; exact World.frozen?_alloc_at _ _ _ _ rfl
  · have := hb'.size
    simp at this
    omega
theorem new_someL {W0 w2 : World} {a0 a1 a2 a3 a4 : Value} {t : TypeId} (hb : Below (W0.alloc (.cells #[a0, a1, a2, a3, a4] t)).drew.heap.size (W0.alloc (.cells #[a0, a1, a2, a3, a4] t)).drew w2) :
    (∀ k, k < 5 → (w2.cell? ⟨W0.heap.size, k, none⟩).isSome = true) ∧ (w2.cell? ⟨W0.heap.size, 0, none⟩ = some a0 ∧ w2.cell? ⟨W0.heap.size, 1, none⟩ = some a1 ∧ w2.cell? ⟨W0.heap.size, 2, none⟩ = some a2 ∧ w2.cell? ⟨W0.heap.size, 3, none⟩ = some a3 ∧ w2.cell? ⟨W0.heap.size, 4, none⟩ = some a4) ∧ (∀ o, w2.frozen? ⟨W0.heap.size, o, none⟩ = false) ∧ W0.heap.size < w2.heap.size := by
  obtain ⟨h1, h2, h3⟩ := new_keptL hb
  refine ⟨fun k hk => ?_, ⟨h1 0, h1 1, h1 2, h1 3, h1 4⟩, h2, h3⟩
  rw [h1]
  have : k = 0 ∨ k = 1 ∨ k = 2 ∨ k = 3 ∨ k = 4 := by omega
  rcases this with rfl | rfl | rfl | rfl | rfl <;> rfl
theorem PSl.drewL {w : World} {A : Option Addr} {n : Nat} {ps : List (Int × Int)} (h : PSl w w.heap.size A n ps) : PSl w.drew w.drew.heap.size A n ps := show Sl w.drew w.heap.size 2 A n (flat ps) from Sl.drew h
theorem PSl.alloc_drewL {w : World} {A : Option Addr} {n : Nat} {ps : List (Int × Int)} (h : PSl w w.heap.size A n ps) (c : Obj) : PSl (w.alloc c).drew (w.alloc c).drew.heap.size A n ps :=
  PSl.drewL (Sl.more (Sl.alloc h (Nat.le_refl _) c) (by simp))
/-- What a payment of the loop leaves of an open channel. -/
theorem pay_row {n : Nat} {ps : List (Int × Int)} {fr m : Int} {w w2 : World} {A' : Option Addr} {n' N : Nat} {v : Value} (hw : w.heap.size = N)
    (h : (v = .nilIface ∧ payQ n ps 0 0 0 false fr m = 0 ∧ n' = n + 1 ∧ PSl w2 w2.heap.size A' n' (payD n ps fr m) ∧ Far w.heap.size A') ∨ (∃ q, v = .iface 45 (.int .i64 q) ∧ payQ n ps 0 0 0 false fr m ≠ 0)) :
    v = .nilIface → PSl w2 w2.heap.size A' n' (payD n ps fr m) ∧ Far N A' := by
  subst hw
  intro hv
  rcases h with ⟨_, _, _, h1, h2⟩ | ⟨q, h1, _⟩
  · exact ⟨h1, h2⟩
  · rw [hv] at h1; cases h1
theorem pay_row' {n : Nat} {ps : List (Int × Int)} {fr m : Int} {w w2 : World} {A' : Option Addr} {n' : Nat} {v : Value}
    (h : (v = .nilIface ∧ payQ n ps 0 0 0 false fr m = 0 ∧ n' = n + 1 ∧ PSl w2 w2.heap.size A' n' (payD n ps fr m) ∧ Far w.heap.size A') ∨ (∃ q, v = .iface 45 (.int .i64 q) ∧ payQ n ps 0 0 0 false fr m ≠ 0)) :
    (v = .nilIface ∧ payQ n ps 0 0 0 false fr m = 0 ∧ n' = n + 1) ∨ (∃ q, v = .iface 45 (.int .i64 q)) := by
  rcases h with ⟨h0, h1, h2, _⟩ | ⟨q, h1, _⟩
  · exact .inl ⟨h0, h1, h2⟩
  · exact .inr ⟨q, h1⟩

def PostLaid (a b : Int) (w : World) (e : Ending) (w' : World) : Prop := Below w.heap.size w w' ∧
  ((addQ a b = 0 ∧ ∃ A n c ps, e = .returned (.tuple #[chV A n c 0 0 0 false, .bool true]) ∧ PSl w' w'.heap.size A n ps ∧ Far w.heap.size A ∧ Chan (a + b) n ps) ∨
   (addQ a b ≠ 0 ∧ e = .returned (.tuple #[chV none 0 0 0 0 0 false, .bool false])))

set_option maxHeartbeats 8000000 in
set_option maxRecDepth 100000 in
theorem laid_any (a b : Int) (zs ys : List Int) (A1 A2 : Option Addr) (n1 n2 p1 p2 : Nat) (w : World)
    (hz : ISl w w.heap.size A1 n1 zs) (hy : ISl w w.heap.size A2 n2 ys) (hn : n1 ≤ 17592186044416) :
    Calls Try.prog 10 #[.int .i64 a, .int .i64 b, .slice A1 n1 p1, .slice A2 n2 p2] w (PostLaid a b w) := by
  go_enter Try.func10, Try.ntmps10
  go_wp2_with fail
  refine (new_any a b _).mono ?_
  rintro e w1 ⟨hbN, hr⟩
  have hB1 : Below w.heap.size w w1 := ((Below.refl _ _).alloc (Nat.le_refl _) _).trans (hbN.mono (by simp))
  have hzN := hbN.size
  simp only [World.size_alloc] at hzN
  have R : ChAt w1 w.heap.size none 0 0 0 0 0 false := (chAt_alloc w).below hbN (by simp)
  obtain ⟨r0, r1, r2, r3, r4, rf⟩ := R
  have k0 : w.heap.size < w1.heap.size := by omega
  rcases hr with ⟨hq, A0, c0, rfl, hp0, hf0⟩ | ⟨hq, rfl⟩
  rotate_left
  · have HQ := aside hq
    rw [errV_ne hq]
    clear hq
    have HB := aside hB1
    simp only [chV]
    clear hbN hB1
    go_wp2
    refine bodyPost_ret (v := .tuple #[chV none 0 0 0 0 0 false, .bool false]) (by simp only [results, Try.results10, chV]; go_simp) rfl ?_
    refine ⟨?_, .inr ⟨HQ.out, rfl⟩⟩
    refine Below.alloc (set5_below (Nat.le_refl _) HB.out) (by rw [set5_size]; omega) _
  have HQ := aside hq
  have HCh := aside (chan_new hq)
  clear hq
  have HP0 := aside hp0
  have HF0 := aside hf0
  have HB1 := aside hB1
  clear hbN hp0 hf0
  simp only [chV]
  go_wp2_with fail
  have DB : Below w.heap.size w w1 := hB1
  go_loopw [12] (fun v12 wr => ∃ (k : Nat) (qs : List (Int × Int)) (A : Option Addr) (n c : Nat), k ≤ n1 ∧ v12 = .int .i64 k ∧ Hid (Chan (a + b) n qs) ∧ Below w1.heap.size w1 wr ∧ w1.heap.size < wr.heap.size ∧ ChAt wr w1.heap.size A n c 0 0 0 false ∧ Hid (PSl wr wr.heap.size A n qs) ∧ Hid (Far (w.heap.size + 1) A ∧ (∀ b o, A = some ⟨b, o, none⟩ → b ≠ w1.heap.size))) (fun v12 _ => n1 - (intOf v12).toNat)
  case atStart =>
    refine ⟨0, [(a, b)], A0, 1, c0, Nat.zero_le _, rfl, aside HCh.out.1, (Below.refl _ _).alloc (Nat.le_refl _) _, by simp, chAt_alloc _, aside ((HP0.out.alloc (Nat.le_refl _) _).more (by simp)), aside ⟨by simpa using HF0.out, fun b o e => ?_⟩⟩
    obtain ⟨b', off, e', hlt, _⟩ := HP0.out.at_ (k := 0) (by decide)
    rw [e] at e'
    injection e' with e'
    injection e' with e1 e2
    omega
  case round =>
    obtain ⟨k, qs, A, n, c, hk, rfl, HC, hb, hsz, ⟨d0, d1, d2, d3, d4, df⟩, HP, HF⟩ := hrel
    have hbz := hb.size
    have hbW := DB.trans (hb.mono (by omega))
    have l0 : w1.heap.size < wr.heap.size := hsz
    by_cases hall : k < n1 ∧ k < n2
    · obtain ⟨k1, k2⟩ := hall
      obtain ⟨b1, o1, rfl, hb1, hc1⟩ := hz.at_ k1
      obtain ⟨b2, o2, rfl, hb2, hc2⟩ := hy.at_ k2
      have x1 : wr.cell? ⟨b1, o1 + k, none⟩ = some (.int .i64 (nth zs k)) := by rw [hbW.cell (by exact hb1)]; exact hc1
      have x2 : wr.cell? ⟨b2, o2 + k, none⟩ = some (.int .i64 (nth ys k)) := by rw [hbW.cell (by exact hb2)]; exact hc2
      have i1 : (k : Int) < (n1 : Int) := by omega
      have i2 : (k : Int) < (n2 : Int) := by omega
      have i4 : (0 : Int) ≤ (k : Int) := by omega
      clear hc1 hc2
      have m1 : b1 < wr.heap.size := by omega
      have m2 : b2 < wr.heap.size := by omega
      go_wp2_with fail
      have HS0 := kept_drew7 ⟨d0, d1, d2, d3, d4, x1, x2⟩
      have HS1 := fun c => kept_alloc_drew7 (c := c) l0 m1 m2 ⟨d0, d1, d2, d3, d4, x1, x2⟩
      go_region_held3 (fun w' => w'.cell? ⟨w1.heap.size, 0, none⟩ = some (.slice A n c) ∧ w'.cell? ⟨w1.heap.size, 1, none⟩ = some (.int .i64 0) ∧ w'.cell? ⟨w1.heap.size, 2, none⟩ = some (.int .i64 0) ∧ w'.cell? ⟨w1.heap.size, 3, none⟩ = some (.int .i64 0) ∧ w'.cell? ⟨w1.heap.size, 4, none⟩ = some (.bool false) ∧ w'.cell? ⟨b1, o1 + k, none⟩ = some (.int .i64 (nth zs k)) ∧ w'.cell? ⟨b2, o2 + k, none⟩ = some (.int .i64 (nth ys k)))
        (with_reducible (first | exact HS0 | exact HS2 | exact HS1 _ | exact kept_alloc7 y0 y1 y2 HS2 | exact kept_set7 l0 m1 m2 HS2 | exact kept_set7 y0 y1 y2 (kept_alloc7 y0 y1 y2 HS2)))
        (first | (go_at_call 9; refine (pay_open qs A n c (nth zs k) (nth ys k) _ (by first | exact PSl.drewL HP.out | exact PSl.alloc_drewL HP.out _)).mono ?_; rintro e w2 ⟨A', n', c', v', rfl, hb2, hr2⟩; simp only [chV]; (first | (with_reducible (have hbw := below_drew_allocL hb2; have nk := new_someL hb2; obtain ⟨hisn, ⟨c0, c1, c2, c3, c4⟩, cf, cl⟩ := nk)) | (have hbw := below_drewL hb2)); have kk := kept7 hbw l0 m1 m2 ⟨d0, d1, d2, d3, d4, x1, x2⟩ df; obtain ⟨HS2, y0, y1, y2, rf⟩ := kk; skip))
      all_goals (first
        | (have F : ∃ W, W = w2.alloc (.cells #[.slice A' n' c', .int .i64 0, .int .i64 0, .int .i64 0, .bool false] 26) ∧ AfterL wr W w2.heap.size A' n' c' 0 0 0 false (v' = .nilIface) (payD n qs (nth zs k) (nth ys k)) := ⟨_, rfl, afterL_alloc hbw (pay_row (by first | rfl) hr2)⟩
           obtain ⟨W, hW, F⟩ := F
           rw [← hW])
        | (have F : ∃ W, W = (((((w2.setCell ⟨wr.heap.size, 0, none⟩ (.slice A' n' c')).setCell ⟨wr.heap.size, 1, none⟩ (.int .i64 0)).setCell ⟨wr.heap.size, 2, none⟩ (.int .i64 0)).setCell ⟨wr.heap.size, 3, none⟩ (.int .i64 0)).setCell ⟨wr.heap.size, 4, none⟩ (.bool false)) ∧ AfterL wr W wr.heap.size A' n' c' 0 0 0 false (v' = .nilIface) (payD n qs (nth zs k) (nth ys k)) := ⟨_, rfl, afterL_set hbw cl hisn cf (pay_row (by first | rfl | simp) hr2)⟩
           obtain ⟨W, hW, F⟩ := F
           rw [← hW]))
      all_goals clear hW HS0 HS1 HS2
      all_goals obtain ⟨Fb, Fg, Fl, ⟨n0, n1', n2', n3', n4, nf⟩, Fr⟩ := F
      all_goals have f0 := (Fb.cell (p := ⟨w1.heap.size, 0, none⟩) l0).trans d0
      all_goals have f1 := (Fb.cell (p := ⟨w1.heap.size, 1, none⟩) l0).trans d1
      all_goals have f2 := (Fb.cell (p := ⟨w1.heap.size, 2, none⟩) l0).trans d2
      all_goals have f3 := (Fb.cell (p := ⟨w1.heap.size, 3, none⟩) l0).trans d3
      all_goals have f4 := (Fb.cell (p := ⟨w1.heap.size, 4, none⟩) l0).trans d4
      all_goals have g1 := (Fb.cell (p := ⟨b1, o1 + k, none⟩) m1).trans x1
      all_goals have g2 := (Fb.cell (p := ⟨b2, o2 + k, none⟩) m2).trans x2
      all_goals have ff : ∀ i, W.frozen? ⟨w1.heap.size, i, none⟩ = false := fun i => (Fb.frozen (p := ⟨w1.heap.size, i, none⟩) l0).trans (df i)
      all_goals have Fw := hb.trans (Fb.mono (by omega))
      all_goals have FP := aside (Sl.more (Sl.below HP.out Fb) Fb.size)
      all_goals have Fs := Fb.size
      all_goals have FI := pay_row' hr2
      all_goals clear hr2 d0 d1 d2 d3 d4 x1 x2 hb2 hbw
      all_goals rcases FI with ⟨rfl, hpq, rfl⟩ | ⟨x, rfl⟩
      all_goals go_wp2
      all_goals (first
        | (have hr2 := Fr rfl
           exact ⟨⟨k + 1, _, A', n + 1, c', by omega, rfl, aside (HC.out.pay HCh.out.2.2.2 hpq), set5_below (Nat.le_refl _) Fw, by rw [set5_sizeR]; omega, chAt_set (ChAt.some_ ⟨f0, f1, f2, f3, f4, ff⟩) ff, aside (by rw [set5_sizeR]; exact hr2.1.set5 hr2.2 l0), aside ⟨hr2.2.mono (by omega), fun b o e => by have := hr2.2 b o e; omega⟩⟩, by simp [intOf]; omega⟩)
        | exact ⟨⟨k + 1, qs, A, n, c, by omega, rfl, HC, Fw, by omega, ⟨f0, f1, f2, f3, f4, ff⟩, FP, HF⟩, by simp [intOf]; omega⟩)
    · have hway : (((k : Int) < (n1 : Int)) = False) ∨ (((k : Int) < (n1 : Int)) = True ∧ ((k : Int) < (n2 : Int)) = False) := by
        simp only [eq_iff_iff, iff_false, iff_true]
        omega
      clear hall
      have t0 := (hb.cell (p := ⟨w.heap.size, 0, none⟩) k0).trans r0
      have t1 := (hb.cell (p := ⟨w.heap.size, 1, none⟩) k0).trans r1
      have t2 := (hb.cell (p := ⟨w.heap.size, 2, none⟩) k0).trans r2
      have t3 := (hb.cell (p := ⟨w.heap.size, 3, none⟩) k0).trans r3
      have t4 := (hb.cell (p := ⟨w.heap.size, 4, none⟩) k0).trans r4
      have tf := fun i => (hb.frozen (p := ⟨w.heap.size, i, none⟩) k0).trans (rf i)
      have k3 : w.heap.size < wr.heap.size := by omega
      rcases hway with i1 | ⟨i1, i2⟩
      all_goals go_wp2
      all_goals refine bodyPost_ret (v := .tuple #[chV A n c 0 0 0 false, .bool true]) (by simp only [results, Try.results10, chV]; go_simp) rfl ?_
      all_goals exact ⟨set5_below (Nat.le_refl _) hbW, .inl ⟨HQ.out, A, n, c, qs, rfl, by rw [set5_sizeR]; exact HP.out.set5 HF.out.1 (Nat.lt_succ_self _), HF.out.1.mono (Nat.le_succ _), HC.out⟩⟩
end Go.Proofs.Ytpkclbemgmaahaa
