/- The start of a change of a peg: what is wrong, or a copy: the walk. Conditions: named in each theorem. -/
import Derived.Test.YtcmlhopidohimaaDoorPegI
import Derived.Test.YtcmlhopidohimaaDoorPegJ
import Derived.Deep.Cut
import Derived.Deep.RegionLaw
namespace Go.Proofs.YtcmlhopidohimaaDoor
open Go.RowKit Go.ChangeShapes Go.WideShapes Go.ChangeAt

def zeroPeg : Value := pegV 0 none 0 0 none 0 0 none 0 0
theorem keep4 {w0 w1 : World} {N b : Nat} {v0 v1 v2 v3 : Value} {t : TypeId} (hb : Below N w0 w1) (hlt : b < N) (h : w0.heap[b]? = some (.cells #[v0, v1, v2, v3] t (0, 0))) :
    w1.heap[b]? = some (.cells #[v0, v1, v2, v3] t (0, 0)) ∧ (w1.cell? ⟨b, 0, none⟩ = some v0 ∧ w1.cell? ⟨b, 1, none⟩ = some v1 ∧ w1.cell? ⟨b, 2, none⟩ = some v2 ∧ w1.cell? ⟨b, 3, none⟩ = some v3) ∧
    (w1.frozen? ⟨b, 0, none⟩ = false ∧ w1.frozen? ⟨b, 1, none⟩ = false ∧ w1.frozen? ⟨b, 2, none⟩ = false ∧ w1.frozen? ⟨b, 3, none⟩ = false) := by
  have hh := (hb.block b hlt).trans h
  refine ⟨hh, ⟨?_, ?_, ?_, ?_⟩, ?_, ?_, ?_, ?_⟩ <;> simp [World.cell?, World.frozen?, hh]
theorem two_new (w : World) (o1 o2 : Array Value) (t1 t2 : TypeId) : ((w.alloc (.cells o1 t1)).alloc (.cells o2 t2)).heap[w.heap.size]? = some (.cells o1 t1 (0, 0)) ∧ ((w.alloc (.cells o1 t1)).alloc (.cells o2 t2)).heap[w.heap.size + 1]? = some (.cells o2 t2 (0, 0)) ∧
    Below w.heap.size w ((w.alloc (.cells o1 t1)).alloc (.cells o2 t2)) ∧ ((w.alloc (.cells o1 t1)).alloc (.cells o2 t2)).heap.size = w.heap.size + 2 := by
  have hs : (w.alloc (.cells o1 t1)).heap.size = w.heap.size + 1 := by simp
  have h2 := heap_alloc_new (w.alloc (.cells o1 t1)) (.cells o2 t2)
  rw [hs] at h2
  refine ⟨(Below.heap_alloc _ _ _ (by simp)).trans (heap_alloc_new _ _), h2, ?_, by simp⟩
  exact ((Below.refl _ _).alloc (Nat.le_refl _) _).alloc (by simp) _
/-- Three rows of the call's own, apart. -/
structure Own3 (w : World) (base : Nat) (A1 : Option Addr) (n1 c1 : Nat) (ps : List (Int × Int)) (A2 : Option Addr) (n2 c2 : Nat) (is : List Int) (A3 : Option Addr) (n3 c3 : Nat) (rs : List (Int × Int × Bool)) : Prop where
  p : OwnP w base (.slice A1 n1 c1) n1 ps
  i : OwnI w base (.slice A2 n2 c2) n2 is
  r : OwnR w base (.slice A3 n3 c3) n3 rs
  pi : Apart (.slice A1 n1 c1) (.slice A2 n2 c2)
  pr : Apart (.slice A1 n1 c1) (.slice A3 n3 c3)
  ir : Apart (.slice A2 n2 c2) (.slice A3 n3 c3)

set_option maxHeartbeats 8000000 in
set_option maxRecDepth 100000 in
theorem start_bad (l : Int) (ps : List (Int × Int)) (is : List Int) (rs : List (Int × Int × Bool)) (A1 : Option Addr) (n1 c1 : Nat) (A2 : Option Addr) (n2 c2 : Nat) (A3 : Option Addr) (n3 c3 : Nat) (n : Int) (w : World)
    (h1 : FSl encP 2 w w.heap.size A1 n1 ps) (h2 : FSl encI 1 w w.heap.size A2 n2 is) (h3 : FSl encR 3 w w.heap.size A3 n3 rs) (k1 : n1 ≤ c1) (k2 : n2 ≤ c2) (k3 : n3 ≤ c3) (m1 : c1 ≤ maxLen) (m3 : c3 ≤ maxLen)
    (hq : startS (l, ps, is, rs) n ≠ 0) :
    Calls Tryd.prog 31 #[pegV l A1 n1 c1 A2 n2 c2 A3 n3 c3, .int .i64 n] w (fun e w' => e = .returned (.tuple #[zeroPeg, errP (startS (l, ps, is, rs) n)]) ∧ Below w.heap.size w w') := by
  have HC : Hid (∀ W, Below w.heap.size w W → Calls Tryd.prog 7 #[pegV l A1 n1 c1 A2 n2 c2 A3 n3 c3] W (fun e w' => e = .returned (errP (pegQ l ps is rs)) ∧ Below W.heap.size W w')) := aside (fun W hW =>
    check_any l ps is rs A1 n1 c1 A2 n2 c2 A3 n3 c3 W ((FSl.below h1 hW).more hW.size) ((FSl.below h2 hW).more hW.size) ((FSl.below h3 hW).more hW.size) k1 k2 k3 m1 m3)
  obtain ⟨-, x2, xb, xs⟩ := two_new w #[.int .i64 l, .slice A1 n1 c1, .slice A2 n2 c2, .slice A3 n3 c3] #[.int .i64 0, .slice none 0 0, .slice none 0 0, .slice none 0 0] 26 26
  have HX2 := aside x2
  have HB0 := aside xb
  have HZ := aside xs
  clear h1 h2 h3 x2 xb xs
  unfold startS checkS at hq ⊢
  dsimp only at hq ⊢
  by_cases hc : pegQ l ps is rs = 0
  · rw [if_neg (by simpa using hc)] at hq ⊢
    rw [show (errP (pegQ l ps is rs)) = Value.nilIface by rw [hc]; rfl] at HC
    have HM : Hid (∀ W, Calls Tryd.prog 23 #[.int .i64 n] W (fun e w' => e = .returned (.iface 28 (.int .i64 (moneyE n))) ∧ w' = W)) := aside (fun W => by
      have h := money_any n W
      rw [errP_no hq] at h
      exact h)
    rw [errP_no hq]
    generalize moneyE n = q at HM ⊢
    clear hq hc
    unfold pegV at HC
    unfold zeroPeg pegV
    go_enter Tryd.func31, Tryd.ntmps31
    go_wp2_with (first
      | (go_at_call 7; refine (HC.out _ HB0.out).mono ?_; rintro e w1 ⟨rfl, hb⟩; have kk := keep4 hb (by rw [HZ.out]; omega) HX2.out; obtain ⟨-, ⟨e0, e1, e2, e3⟩, f0, f1, f2, f3⟩ := kk; have HB1 := aside (HB0.out.trans (hb.mono (by rw [HZ.out]; omega))); clear hb)
      | (go_at_call 23; refine (HM.out _).mono ?_; rintro e w3 ⟨rfl, rfl⟩))
    (try simp only [Exit.inBlock, Exit.then])
    refine bodyPost_ret (v := .tuple #[.agg #[.int .i64 0, .slice none 0 0, .slice none 0 0, .slice none 0 0], .iface 28 (.int .i64 q)]) (by simp only [results, Tryd.results31]; go_simp) rfl ?_
    exact ⟨rfl, (((HB1.out.setCell (by simp) _).setCell (by simp) _).setCell (by simp) _).setCell (by simp) _⟩
  · rw [if_pos hc] at hq ⊢
    rw [show (errP (pegQ l ps is rs)) = Value.iface 28 (.int .i64 (pegQ l ps is rs)) from errP_no hc] at HC ⊢
    generalize pegQ l ps is rs = q at HC ⊢
    clear hq hc
    unfold pegV at HC
    unfold zeroPeg pegV
    go_enter Tryd.func31, Tryd.ntmps31
    go_wp2_with (first
      | (go_at_call 7; refine (HC.out _ HB0.out).mono ?_; rintro e w1 ⟨rfl, hb⟩; have kk := keep4 hb (by rw [HZ.out]; omega) HX2.out; obtain ⟨-, ⟨e0, e1, e2, e3⟩, f0, f1, f2, f3⟩ := kk; have HB1 := aside (HB0.out.trans (hb.mono (by rw [HZ.out]; omega))); clear hb))
    (try simp only [Exit.inBlock, Exit.then])
    refine bodyPost_ret (v := .tuple #[.agg #[.int .i64 0, .slice none 0 0, .slice none 0 0, .slice none 0 0], .iface 28 (.int .i64 q)]) (by simp only [results, Tryd.results31]; go_simp) rfl ?_
    exact ⟨rfl, (((HB1.out.setCell (by simp) _).setCell (by simp) _).setCell (by simp) _).setCell (by simp) _⟩
section
variable {w w' : World} {base b' sz n : Nat} {e : TypeId} {v : Value} {xs : List Value}
theorem own_keep (h : w.ownsRow base e sz v n xs) (hk : ∀ k, base ≤ k → k < w.heap.size → w'.heap[k]? = w.heap[k]?) : w'.ownsRow base e sz v n xs := by
  refine ⟨h.1, ?_⟩
  rcases h.2 with h1 | ⟨g, cap, cur, h1, h2, h3, h4⟩
  · exact .inl h1
  · exact .inr ⟨g, cap, cur, h1, h2, (hk g h2 (Array.getElem?_eq_some_iff.1 h3).1).trans h3, h4⟩
theorem own_lower (h : w.ownsRow base e sz v n xs) (hb : b' ≤ base) : w.ownsRow b' e sz v n xs := by
  refine ⟨h.1, ?_⟩
  rcases h.2 with h1 | ⟨g, cap, cur, h1, h2, h3⟩
  · exact .inl h1
  · exact .inr ⟨g, cap, cur, h1, Nat.le_trans hb h2, h3⟩
theorem own_apart {u : Value} {sz' n' B' : Nat} {e' : TypeId} {ys : List Value} (h : w.ownsRow base e sz v n xs) (h' : w'.ownsRow B' e' sz' u n' ys) (hB : w.heap.size ≤ B') : Apart v u := by
  intro k hk hu
  have h1 := (h.lt k hk).2
  have h2 := own_block_ge h' k hu
  omega
end
/-- Only two blocks have turned. -/
def Low (B : Nat) (w W : World) : Prop := Below B w W ∧ ∀ k, B + 2 ≤ k → W.heap[k]? = w.heap[k]?
theorem Low.refl {B : Nat} {w : World} (h : B ≤ w.heap.size) : Low B w w := ⟨(Below.refl _ _).mono h, fun _ _ => rfl⟩
theorem Low.set {B : Nat} {w W : World} (h : Low B w W) {p : Addr} (h1 : B ≤ p.block) (h2 : p.block < B + 2) (u : Value) : Low B w (W.setCell p u) :=
  ⟨h.1.setCell h1 u, fun k hk => (Below.heap_setCell W p u k (by omega)).trans (h.2 k hk)⟩
theorem start_done {w wm w2 w3 w4 W : World} {A4 A5 A6 : Option Addr} {n1 c4 n2 c5 n3 c6 : Nat} {ps : List (Int × Int)} {is : List Int} {rs : List (Int × Int × Bool)} (l : Int) (hs : w.heap.size + 2 ≤ wm.heap.size) (h2 : OwnP w2 wm.heap.size (.slice A4 n1 c4) n1 ps) (b2 : Below wm.heap.size wm w2)
    (h3 : OwnI w3 w2.heap.size (.slice A5 n2 c5) n2 is) (b3 : Below w2.heap.size w2 w3) (h4 : OwnR w4 w3.heap.size (.slice A6 n3 c6) n3 rs) (b4 : Below w3.heap.size w3 w4) (hb : Below w.heap.size w w4) (hl : Low w.heap.size w4 W) :
    ∃ A1' c1' A2' c2' A3' c3', Ending.returned (.tuple #[.agg #[.int .i64 l, .slice A4 n1 c4, .slice A5 n2 c5, .slice A6 n3 c6], .nilIface]) = .returned (.tuple #[pegV l A1' n1 c1' A2' n2 c2' A3' n3 c3', .nilIface]) ∧ Own3 W w.heap.size A1' n1 c1' ps A2' n2 c2' is A3' n3 c3' rs ∧ Below w.heap.size w W := by
  have s2 := b2.size
  have s3 := b3.size
  have s4 := b4.size
  refine ⟨A4, c4, A5, c5, A6, c6, rfl, ⟨?_, ?_, ?_, own_apart h2 h3 (Nat.le_refl _), own_apart h2 h4 s3, own_apart h3 h4 (Nat.le_refl _)⟩, hb.trans hl.1⟩
  · exact own_lower (own_keep (own_below (own_below h2 b3) b4) (fun k hk _ => hl.2 k (by omega))) (by omega)
  · exact own_lower (own_keep (own_below h3 b4) (fun k hk _ => hl.2 k (by omega))) (by omega)
  · exact own_lower (own_keep h4 (fun k hk _ => hl.2 k (by omega))) (by omega)
theorem below_drew1 {B : Nat} {a w : World} (h : Below B a w) : Below B a w.drew := ⟨h.os, h.tape, h.output, h.size, h.block⟩

set_option maxHeartbeats 8000000 in
set_option maxRecDepth 100000 in
theorem start_ok (l : Int) (ps : List (Int × Int)) (is : List Int) (rs : List (Int × Int × Bool)) (A1 : Option Addr) (n1 c1 : Nat) (A2 : Option Addr) (n2 c2 : Nat) (A3 : Option Addr) (n3 c3 : Nat) (n : Int) (w : World)
    (h1 : FSl encP 2 w w.heap.size A1 n1 ps) (h2 : FSl encI 1 w w.heap.size A2 n2 is) (h3 : FSl encR 3 w w.heap.size A3 n3 rs) (k1 : n1 ≤ c1) (k2 : n2 ≤ c2) (k3 : n3 ≤ c3) (m1 : c1 ≤ maxLen) (m3 : c3 ≤ maxLen)
    (hq : startS (l, ps, is, rs) n = 0) :
    Calls Tryd.prog 31 #[pegV l A1 n1 c1 A2 n2 c2 A3 n3 c3, .int .i64 n] w (fun e w' => ∃ A1' c1' A2' c2' A3' c3', e = .returned (.tuple #[pegV l A1' n1 c1' A2' n2 c2' A3' n3 c3', .nilIface]) ∧ Own3 w' w.heap.size A1' n1 c1' ps A2' n2 c2' is A3' n3 c3' rs ∧ Below w.heap.size w w') := by
  obtain ⟨hf, hn⟩ := start_zero hq
  have hc : pegQ l ps is rs = 0 := pegQ_zero.2 hf
  have l1 := FSl.len encP_len (by decide) h1
  have l2 := FSl.len encI_len (by decide) h2
  have l3 := FSl.len encR_len (by decide) h3
  have hp1 := hf.lp
  have hp2 := hf.li
  have hp3 := hf.lr
  dsimp only at hp1 hp2 hp3
  have HC : Hid (∀ W, Below w.heap.size w W → Calls Tryd.prog 7 #[pegV l A1 n1 c1 A2 n2 c2 A3 n3 c3] W (fun e w' => e = .returned .nilIface ∧ Below W.heap.size W w')) := aside (fun W hW => by
    have h := check_any l ps is rs A1 n1 c1 A2 n2 c2 A3 n3 c3 W ((FSl.below h1 hW).more hW.size) ((FSl.below h2 hW).more hW.size) ((FSl.below h3 hW).more hW.size) k1 k2 k3 m1 m3
    rw [hc] at h
    exact h)
  have HM : Hid (∀ W, Calls Tryd.prog 23 #[.int .i64 n] W (fun e w' => e = .returned .nilIface ∧ w' = W)) := aside (fun W => by
    have h := money_any n W
    rw [moneyE_zero.2 hn] at h
    exact h)
  have HP : Hid (∀ W, Below w.heap.size w W → Calls Tryd.prog 40 #[.slice A1 n1 c1] W (fun e w' => ∃ A' c', e = .returned (.slice A' n1 c') ∧ OwnP w' W.heap.size (.slice A' n1 c') n1 ps ∧ Below W.heap.size W w')) := aside (fun W hW => cloneP_any ps A1 n1 c1 W ((FSl.below h1 hW).more hW.size) (by omega))
  have HI : Hid (∀ W, Below w.heap.size w W → Calls Tryd.prog 41 #[.slice A2 n2 c2] W (fun e w' => ∃ A' c', e = .returned (.slice A' n2 c') ∧ OwnI w' W.heap.size (.slice A' n2 c') n2 is ∧ Below W.heap.size W w')) := aside (fun W hW => cloneI_any is A2 n2 c2 W ((FSl.below h2 hW).more hW.size) (by omega))
  have HR : Hid (∀ W, Below w.heap.size w W → Calls Tryd.prog 42 #[.slice A3 n3 c3] W (fun e w' => ∃ A' c', e = .returned (.slice A' n3 c') ∧ OwnR w' W.heap.size (.slice A' n3 c') n3 rs ∧ Below W.heap.size W w')) := aside (fun W hW => cloneR_any rs A3 n3 c3 W ((FSl.below h3 hW).more hW.size) (by omega))
  obtain ⟨x1, x2, xb, xs⟩ := two_new w #[.int .i64 l, .slice A1 n1 c1, .slice A2 n2 c2, .slice A3 n3 c3] #[.int .i64 0, .slice none 0 0, .slice none 0 0, .slice none 0 0] 26 26
  have HX1 := aside x1
  have HX2 := aside x2
  have HB0 := aside xb
  have HZ := aside xs
  clear h1 h2 h3 x1 x2 xb xs hf hq hc l1 l2 l3 hp1 hp2 hp3 hn
  unfold pegV at HC
  unfold pegV
  go_enter Tryd.func31, Tryd.ntmps31
  go_upto_region 7 with (first
    | (go_at_call 7; refine (HC.out _ HB0.out).mono ?_; rintro e w1 ⟨rfl, hb⟩; have k1 := keep4 hb (by rw [HZ.out]; omega) HX1.out; have k2 := keep4 hb (by rw [HZ.out]; omega) HX2.out; have HB1 := aside (HB0.out.trans (hb.mono (by rw [HZ.out]; omega))); have HS1 := aside (Nat.le_trans (Nat.le_of_eq HZ.out.symm) hb.size); clear hb)
    | (go_at_call 23; refine (HM.out _).mono ?_; rintro e wm ⟨rfl, rfl⟩))
  obtain ⟨b1, ⟨e0, e1, e2, e3⟩, f0, f1, f2, f3⟩ := k1
  obtain ⟨b2, ⟨u0, u1, u2, u3⟩, g0, g1, g2, g3⟩ := k2
  have HD := aside (below_drew1 HB1.out)
  have HK1 : Hid (wm.drew.heap[w.heap.size]? = some (.cells #[.int .i64 l, .slice A1 n1 c1, .slice A2 n2 c2, .slice A3 n3 c3] 26 (0, 0))) := aside b1
  have HK2 : Hid (wm.drew.heap[w.heap.size + 1]? = some (.cells #[.int .i64 0, .slice none 0 0, .slice none 0 0, .slice none 0 0] 26 (0, 0))) := aside b2
  have HS1' : Hid (w.heap.size + 2 ≤ wm.drew.heap.size) := aside HS1.out
  clear b1 b2
  go_region_law
    (first
      | (go_simp; go_at_call 40; refine (HP.out _ HD.out).mono ?_; rintro e w2 ⟨A4, c4, rfl, ho2, hb2⟩; have k3 := keep4 hb2 (by have := HS1'.out; omega) HK1.out; have k4 := keep4 hb2 (by have := HS1'.out; omega) HK2.out; obtain ⟨bb3, ⟨e0, e1, e2, e3⟩, f0, f1, f2, f3⟩ := k3; have HK3 := aside bb3; have HK4 := aside k4.1; have HO2 := aside ho2; have HB2 := aside (HD.out.trans (hb2.mono HD.out.size)); have HB21 := aside hb2; clear ho2 hb2 k4 bb3)
      | (go_simp; go_at_call 41; refine (HI.out _ HB2.out).mono ?_; rintro e w3 ⟨A5, c5, rfl, ho3, hb3⟩; have k3 := keep4 hb3 (by have := HS1'.out; have := HB21.out.size; omega) HK3.out; have k4 := keep4 hb3 (by have := HS1'.out; have := HB21.out.size; omega) HK4.out; obtain ⟨bb3, ⟨e0, e1, e2, e3⟩, f0, f1, f2, f3⟩ := k3; have HK5 := aside bb3; have HK6 := aside k4.1; have HO3 := aside ho3; have HB3 := aside (HB2.out.trans (hb3.mono HB2.out.size)); have HB32 := aside hb3; clear ho3 hb3 k4 bb3)
      | (go_simp; go_at_call 42; refine (HR.out _ HB3.out).mono ?_; rintro e w4 ⟨A6, c6, rfl, ho4, hb4⟩; have k3 := keep4 hb4 (by have := HS1'.out; have := HB21.out.size; have := HB32.out.size; omega) HK5.out; have k4 := keep4 hb4 (by have := HS1'.out; have := HB21.out.size; have := HB32.out.size; omega) HK6.out; obtain ⟨bb3, ⟨e0, e1, e2, e3⟩, f0, f1, f2, f3⟩ := k3; obtain ⟨-, ⟨u0, u1, u2, u3⟩, g0, g1, g2, g3⟩ := k4; have HO4 := aside ho4; have HB4 := aside (HB3.out.trans (hb4.mono HB3.out.size)); have HB43 := aside hb4; clear ho4 hb4 bb3))
  all_goals clear HX1 HX2 HB0 HZ HC HM HP HI HR HK1 HK2 HK3 HK4 HK5 HK6
  all_goals go_wp2
  all_goals (try simp only [Exit.inBlock, Exit.then])
  all_goals refine bodyPost_ret (v := .tuple #[.agg #[.int .i64 l, .slice A4 n1 c4, .slice A5 n2 c5, .slice A6 n3 c6], .nilIface]) (by simp only [results, Tryd.results31]; go_simp) rfl ?_
  all_goals exact start_done l HS1'.out HO2.out HB21.out HO3.out HB32.out HO4.out HB43.out HB4.out (((((((Low.refl (Nat.le_of_lt (Nat.lt_of_lt_of_le (Nat.lt_add_of_pos_right (by decide)) (Nat.le_trans HS1'.out (Nat.le_trans HB21.out.size (Nat.le_trans HB32.out.size HB43.out.size)))))).set (by simp) (by simp) _).set (by simp) (by simp) _).set (by simp) (by simp) _).set (by simp) (by simp) _).set (by simp) (by simp) _).set (by simp) (by simp) _ |>.set (by simp) (by simp) _)
end Go.Proofs.YtcmlhopidohimaaDoor
