/- A peg behind acts: the walk of the loop. Conditions: named in each theorem. -/
import Derived.Test.YtcmlhopidohimaaPegU
import Derived.Outline
import Derived.Deep.CutRange
namespace Go.Proofs.Ytcmlhopidohimaa
open Go.RowKit Go.ChangeShapes Go.WideShapes Go.ChangeAt

/-- The two boxes of a call of done. -/
structure DoneAt (w W : World) (l : Int) (X : Option Addr) (x y : Nat) (Y : Option Addr) (z u : Nat) (Z : Option Addr) (a t : Nat) : Prop where
  below : Below w.heap.size w W
  box : W.heap[w.heap.size]? = some (.cells #[.int .i64 l, .slice X x y, .slice Y z u, .slice Z a t] 26 (0, 0))
  res : W.heap[w.heap.size + 1]? = some (.cells #[.int .i64 0, .slice none 0 0, .slice none 0 0, .slice none 0 0] 26 (0, 0))
  size : w.heap.size + 2 ≤ W.heap.size
theorem DoneAt.step {w W W' : World} {l : Int} {X : Option Addr} {x y : Nat} {Y : Option Addr} {z u : Nat} {Z : Option Addr} {a t : Nat} (h : DoneAt w W l X x y Y z u Z a t) (hb : Below W.heap.size W W') : DoneAt w W' l X x y Y z u Z a t :=
  have hs := h.size
  ⟨h.below.trans (hb.mono (by omega)), (hb.block _ (by omega)).trans h.box, (hb.block _ (by omega)).trans h.res, Nat.le_trans hs hb.size⟩

theorem DoneAt.put {w W : World} {l l' : Int} {X X' : Option Addr} {x y x' y' : Nat} {Y Y' : Option Addr} {z u z' u' : Nat} {Z Z' : Option Addr} {a t a' t' : Nat} (h : DoneAt w W l X x y Y z u Z a t) : DoneAt w (((((W).setCell ⟨w.heap.size, 0, none⟩ (.int .i64 l')).setCell ⟨w.heap.size, 1, none⟩ (.slice X' x' y')).setCell ⟨w.heap.size, 2, none⟩ (.slice Y' z' u')).setCell ⟨w.heap.size, 3, none⟩ (.slice Z' a' t')) l' X' x' y' Y' z' u' Z' a' t' :=
  ⟨(((h.below.setCell (Nat.le_refl _) _).setCell (Nat.le_refl _) _).setCell (Nat.le_refl _) _).setCell (Nat.le_refl _) _, heap_set (heap_set (heap_set (heap_set h.box))),
    (Below.heap_setCell _ _ _ _ (by simp)).trans ((Below.heap_setCell _ _ _ _ (by simp)).trans ((Below.heap_setCell _ _ _ _ (by simp)).trans ((Below.heap_setCell _ _ _ _ (by simp)).trans h.res))), by simpa using h.size⟩
theorem peg_put {N nb M : Nat} {W : World} {v : Value} {s : PegS} (h : PegAt N W v s) (hn : nb < N) (hM : M ≤ N) (v0 v1 v2 v3 : Value) : PegAt M (((((W).setCell ⟨nb, 0, none⟩ v0).setCell ⟨nb, 1, none⟩ v1).setCell ⟨nb, 2, none⟩ v2).setCell ⟨nb, 3, none⟩ v3) v s :=
  ((((h.set (by exact hn) _).set (by exact hn) _).set (by exact hn) _).set (by exact hn) _).mono hM
theorem PegKeep.out {w W : World} {v : Value} {s : PegS} (h : PegKeep w W v s) (hb : Below w.heap.size w W) (v0 v1 v2 v3 : Value) : PegAt 0 (((((W).setCell ⟨w.heap.size + 1, 0, none⟩ v0).setCell ⟨w.heap.size + 1, 1, none⟩ v1).setCell ⟨w.heap.size + 1, 2, none⟩ v2).setCell ⟨w.heap.size + 1, 3, none⟩ v3) v s ∧ Below w.heap.size w (((((W).setCell ⟨w.heap.size + 1, 0, none⟩ v0).setCell ⟨w.heap.size + 1, 1, none⟩ v1).setCell ⟨w.heap.size + 1, 2, none⟩ v2).setCell ⟨w.heap.size + 1, 3, none⟩ v3) := by
  have hB : Below w.heap.size w (((((W).setCell ⟨w.heap.size + 1, 0, none⟩ v0).setCell ⟨w.heap.size + 1, 1, none⟩ v1).setCell ⟨w.heap.size + 1, 2, none⟩ v2).setCell ⟨w.heap.size + 1, 3, none⟩ v3) := hb.trans (res_low (w0 := w) hb.size v0 v1 v2 v3).1
  refine ⟨?_, hB⟩
  rcases h with h | h
  · exact h.below hB
  · exact peg_put h (by omega) (by omega) v0 v1 v2 v3

theorem NextAt.drew {wr W : World} {nb : Nat} {l : Int} {X : Option Addr} {x y : Nat} {Y : Option Addr} {z u : Nat} {Z : Option Addr} {a t : Nat} {E : Value} (h : NextAt wr W nb l X x y Y z u Z a t E) : nb < W.heap.size := by
  have := h.box
  exact (Array.getElem?_eq_some_iff.1 this).1
/-- What the next act tells lies in the same box. -/
theorem NextAt.again {wr W w2 : World} {nb : Nat} {l l' : Int} {X X' : Option Addr} {x y x' y' : Nat} {Y Y' : Option Addr} {z u z' u' : Nat} {Z Z' : Option Addr} {a t a' t' : Nat} {E E' : Value} (h : NextAt wr W nb l X x y Y z u Z a t E)
    (hb : Below W.heap.size W w2) (ht : Told W.heap.size w2 (.agg #[.int .i64 l', .slice X' x' y', .slice Y' z' u', .slice Z' a' t']) E') :
    NextAt wr ((((w2.setCell ⟨nb, 0, none⟩ (.int .i64 l')).setCell ⟨nb, 1, none⟩ (.slice X' x' y')).setCell ⟨nb, 2, none⟩ (.slice Y' z' u')).setCell ⟨nb, 3, none⟩ (.slice Z' a' t')) nb l' X' x' y' Y' z' u' Z' a' t' E' :=
  next_set (h.below.trans (hb.mono h.below.size)) ((hb.block _ h.drew).trans h.box) h.big h.drew ht
set_option maxHeartbeats 40000000 in
set_option maxRecDepth 100000 in
theorem done_any (s0 : PegS) (v : Value) (hg0 : Good s0) (w : World) (h : PegAt 0 w v s0) (A0 : Option Addr) (n0 c0 : Nat) (zs0 : List Int) (A1 : Option Addr) (n1 c1 : Nat) (zs1 : List Int) (A2 : Option Addr) (n2 c2 : Nat) (zs2 : List Int) (A3 : Option Addr) (n3 c3 : Nat) (zs3 : List Int)
    (h0 : ISl w w.heap.size A0 n0 zs0) (h1 : ISl w w.heap.size A1 n1 zs1) (h2 : ISl w w.heap.size A2 n2 zs2) (h3 : ISl w w.heap.size A3 n3 zs3) (hn : n0 ≤ 40) :
    Calls Try.prog 10 #[v, .slice A0 n0 c0, .slice A1 n1 c1, .slice A2 n2 c2, .slice A3 n3 c3] w (fun e w' => ∃ v' s', e = .returned v' ∧ Good s' ∧ PegAt 0 w' v' s' ∧ Below w.heap.size w w') := by
  obtain ⟨X0, x0, y0, Y0, z0, u0, Z0, a0, t0, rfl⟩ := id h.agg
  obtain ⟨q1, q2, q3, q4⟩ := two_new w #[.int .i64 s0.1, .slice X0 x0 y0, .slice Y0 z0 u0, .slice Z0 a0 t0] #[.int .i64 0, .slice none 0 0, .slice none 0 0, .slice none 0 0] 26 26
  have HPK0 := aside (Or.inl h : PegKeep w ((w.alloc (.cells #[.int .i64 s0.1, .slice X0 x0 y0, .slice Y0 z0 u0, .slice Z0 a0 t0] 26)).alloc (.cells #[.int .i64 0, .slice none 0 0, .slice none 0 0, .slice none 0 0] 26)) _ _)
  have HG0 := aside hg0
  have H0 := aside h0
  have H1 := aside h1
  have H2 := aside h2
  have H3 := aside h3
  obtain ⟨l0, hl0⟩ : ∃ l0, l0 = s0.1 := ⟨_, rfl⟩
  rw [← hl0] at q1 q2 q3 q4 HPK0 ⊢
  have DA0 := aside (DoneAt.mk q3 q1 q2 (Nat.le_of_eq q4.symm))
  clear q1 q2 q3 q4 h hg0 h0 h1 h2 h3 hl0
  go_enter Try.func10, Try.ntmps10
  go_wp2
  change Code.wp _ _ _ _ ((w.alloc (.cells #[.int .i64 l0, .slice X0 x0 y0, .slice Y0 z0 u0, .slice Z0 a0 t0] 26)).alloc (.cells #[.int .i64 0, .slice none 0 0, .slice none 0 0, .slice none 0 0] 26))
  generalize (w.alloc (.cells #[.int .i64 l0, .slice X0 x0 y0, .slice Y0 z0 u0, .slice Z0 a0 t0] 26)).alloc (.cells #[.int .i64 0, .slice none 0 0, .slice none 0 0, .slice none 0 0] 26) = w0 at DA0 HPK0 ⊢
  go_loopw [11] (fun v11 wr => ∃ (i : Nat) (s : PegS) (l : Int) (X : Option Addr) (x y : Nat) (Y : Option Addr) (z u : Nat) (Z : Option Addr) (a t : Nat), i ≤ n0 ∧ v11 = .int .i64 i ∧ Hid (Good s) ∧ Hid (PegKeep w wr (.agg #[.int .i64 l, .slice X x y, .slice Y z u, .slice Z a t]) s) ∧ Hid (DoneAt w wr l X x y Y z u Z a t)) (fun v11 _ => n0 - (Go.RowKit.intOf v11).toNat)
  case atStart => exact ⟨0, s0, l0, X0, x0, y0, Y0, z0, u0, Z0, a0, t0, by omega, rfl, HG0, HPK0, DA0⟩
  case round =>
    clear DA0 HPK0 HG0
    obtain ⟨i, s, l, X, x, y, Y, z, u, Z, a, t, hi, rfl, HG, HK, DA⟩ := hrel
    have p3 := box_cells DA.out.box
    obtain ⟨⟨e0, e1, e2, e3⟩, f0, f1, f2, f3⟩ := p3
    by_cases k0 : i < n0
    · by_cases k1 : i < n1
      · by_cases k2 : i < n2
        · by_cases k3 : i < n3
          · obtain ⟨b0, o0, rfl, hb0, hc0⟩ := ISl.at_ H0.out k0
            obtain ⟨b1, o1, rfl, hb1, hc1⟩ := ISl.at_ H1.out k1
            obtain ⟨b2, o2, rfl, hb2, hc2⟩ := ISl.at_ H2.out k2
            obtain ⟨b3, o3, rfl, hb3, hc3⟩ := ISl.at_ H3.out k3
            obtain ⟨k, hk⟩ : ∃ k, nth zs0 i = k := ⟨_, rfl⟩
            rw [hk] at hc0
            have hsz := DA.out.size
            have l0 : w.heap.size < wr.heap.size := by omega
            have m0 : b0 < wr.heap.size := by omega
            have m1 : b1 < wr.heap.size := by omega
            have m2 : b2 < wr.heap.size := by omega
            have m3 : b3 < wr.heap.size := by omega
            have c1 := (DA.out.below.cell (p := ⟨b1, o1 + i, none⟩) hb1).trans hc1
            have c2 := (DA.out.below.cell (p := ⟨b2, o2 + i, none⟩) hb2).trans hc2
            have c3 := (DA.out.below.cell (p := ⟨b3, o3 + i, none⟩) hb3).trans hc3
            have C0 := aside ((DA.out.below.cell (p := ⟨b0, o0 + i, none⟩) hb0).trans hc0)
            have HSB : Hid (∀ W', Below wr.heap.size wr W' → W'.cell? ⟨w.heap.size, 0, none⟩ = some (.int .i64 l) ∧ W'.cell? ⟨w.heap.size, 1, none⟩ = some (.slice X x y) ∧ W'.cell? ⟨w.heap.size, 2, none⟩ = some (.slice Y z u) ∧ W'.cell? ⟨w.heap.size, 3, none⟩ = some (.slice Z a t) ∧ W'.cell? ⟨b1, o1 + i, none⟩ = some (.int .i64 (nth zs1 i)) ∧ W'.cell? ⟨b2, o2 + i, none⟩ = some (.int .i64 (nth zs2 i)) ∧ W'.cell? ⟨b3, o3 + i, none⟩ = some (.int .i64 (nth zs3 i))) := aside (fun W' hb => ⟨(hb.cell (p := ⟨w.heap.size, 0, none⟩) l0).trans e0, (hb.cell (p := ⟨w.heap.size, 1, none⟩) l0).trans e1, (hb.cell (p := ⟨w.heap.size, 2, none⟩) l0).trans e2, (hb.cell (p := ⟨w.heap.size, 3, none⟩) l0).trans e3, (hb.cell (p := ⟨b1, o1 + i, none⟩) m1).trans c1, (hb.cell (p := ⟨b2, o2 + i, none⟩) m2).trans c2, (hb.cell (p := ⟨b3, o3 + i, none⟩) m3).trans c3⟩)
            have HPK : Hid (∀ W', Below wr.heap.size wr W' → PegAt 0 W' (.agg #[.int .i64 l, .slice X x y, .slice Y z u, .slice Z a t]) s) := aside (fun W' hb => (HK.out.at_ DA.out.below).below hb)
            have M0 := aside m0
            have i0 : (i : Int) < (n0 : Int) := by omega
            have i1 : (i : Int) < (n1 : Int) := by omega
            have i2 : (i : Int) < (n2 : Int) := by omega
            have i3 : (i : Int) < (n3 : Int) := by omega
            have hw : IntKind.i64.wrap ((i : Int) + 1) = (i : Int) + 1 := by rw [IntKind.wrap_i64]; omega
            clear hc0 hc1 hc2 hc3 hk f0 f1 f2 f3 c1 c2 c3
            go_wp2_with fail
            go_cut [12, 13] from 14 to 115 (fun s12 s13 wx => ∃ (nb : Nat) (l' : Int) (X' : Option Addr) (x' y' : Nat) (Y' : Option Addr) (z' u' : Nat) (Z' : Option Addr) (a' t' : Nat), s12 = .pointer (some ⟨nb, 0, none⟩) ∧ Hid (NextAt wr wx nb l' X' x' y' Y' z' u' Z' a' t' s13))
            case first =>
              have HS0 := HSB.out wr.drew (below_drew1 (Below.refl _ _))
              have HS1 := fun c => HSB.out (wr.alloc c).drew (below_drew1 ((Below.refl _ _).alloc (Nat.le_refl _) c))
              go_region_held3 (fun w' => w'.cell? ⟨w.heap.size, 0, none⟩ = some (.int .i64 l) ∧ w'.cell? ⟨w.heap.size, 1, none⟩ = some (.slice X x y) ∧ w'.cell? ⟨w.heap.size, 2, none⟩ = some (.slice Y z u) ∧ w'.cell? ⟨w.heap.size, 3, none⟩ = some (.slice Z a t) ∧ w'.cell? ⟨b1, o1 + i, none⟩ = some (.int .i64 (nth zs1 i)) ∧ w'.cell? ⟨b2, o2 + i, none⟩ = some (.int .i64 (nth zs2 i)) ∧ w'.cell? ⟨b3, o3 + i, none⟩ = some (.int .i64 (nth zs3 i)))
                (with_reducible (first | exact HS0 | exact HS2 | exact HS1 _ | exact HS3 _ | exact HS4 _ _ _ _))
                (first | (go_at_call 6; refine ((in_told (N := 0) (nth zs1 i) (nth zs2 i) (nth zs3 i) _ (HPK.out _ (by first | exact below_drew1 (Below.refl _ _) | exact below_drew1 ((Below.refl _ _).alloc (Nat.le_refl _) _)))).mono ?_); rintro e w2 ⟨E, l', X', x', y', Y', z', u', Z', a', t', rfl, ht, hb2⟩; (first | (with_reducible (have hbw := below_drewA hb2; have hbx := box_drewA hb2; have hbc := box_cells hbx; obtain ⟨⟨g0, g1, g2, g3⟩, gf0, gf1, gf2, gf3⟩ := hbc)) | (have hbw := below_drew0 hb2)); have HS2 := HSB.out w2 hbw; have HS3 := fun c => HSB.out (w2.alloc c) (hbw.alloc hbw.size c); have HS4 := fun u0 u1 u2 u3 => HSB.out (((((w2).setCell ⟨wr.heap.size, 0, none⟩ u0).setCell ⟨wr.heap.size, 1, none⟩ u1).setCell ⟨wr.heap.size, 2, none⟩ u2).setCell ⟨wr.heap.size, 3, none⟩ u3) ((((hbw.setCell (Nat.le_refl _) u0).setCell (Nat.le_refl _) u1).setCell (Nat.le_refl _) u2).setCell (Nat.le_refl _) u3); skip))
              all_goals (first
                | (have F : ∃ W, W = w2.alloc (.cells #[.int .i64 l', .slice X' x' y', .slice Y' z' u', .slice Z' a' t'] 26) ∧ NextAt wr W w2.heap.size l' X' x' y' Y' z' u' Z' a' t' E := ⟨_, rfl, next_alloc hbw (by simp) ht⟩
                   obtain ⟨W, hW, F⟩ := F
                   rw [← hW])
                | (have F : ∃ W, W = (((((w2).setCell ⟨wr.heap.size, 0, none⟩ (.int .i64 l')).setCell ⟨wr.heap.size, 1, none⟩ (.slice X' x' y')).setCell ⟨wr.heap.size, 2, none⟩ (.slice Y' z' u')).setCell ⟨wr.heap.size, 3, none⟩ (.slice Z' a' t')) ∧ NextAt wr W wr.heap.size l' X' x' y' Y' z' u' Z' a' t' E := ⟨_, rfl, next_set hbw hbx (Nat.le_refl _) (by simp) ht⟩
                   obtain ⟨W, hW, F⟩ := F
                   rw [← hW]))
              all_goals clear hW HS0 HS1 HS2 HS3 HS4 ht hb2 hbw
              all_goals have HF := aside F
              all_goals (go_wp2_with fail)
              all_goals go_meet
              all_goals exact ⟨_, _, _, _, _, _, _, _, _, _, _, rfl, HF⟩
            case rest =>
              clear e0 e1 e2 e3 l0 m0 m1 m2 m3 hsz
              obtain ⟨nb, lN, XN, xN, yN, YN, zN, uN, ZN, aN, tN, rfl, HN⟩ := hcut
              have c0 := (HN.out.below.cell (p := ⟨b0, o0 + i, none⟩) M0.out).trans C0.out
              go_upto_if 59 with fail
              go_cut [12, 13] from 14 to 115 (fun s12 s13 wx => ∃ (nb : Nat) (l' : Int) (X' : Option Addr) (x' y' : Nat) (Y' : Option Addr) (z' u' : Nat) (Z' : Option Addr) (a' t' : Nat), s12 = .pointer (some ⟨nb, 0, none⟩) ∧ Hid (NextAt wr wx nb l' X' x' y' Y' z' u' Z' a' t' s13))
              case first =>
                by_cases q : k = 1
                · subst q
                  go_wp2_with fail
                  have HS0 := HSB.out wc.drew (below_drew1 HN.out.below)
                  go_region_held3 (fun w' => w'.cell? ⟨w.heap.size, 0, none⟩ = some (.int .i64 l) ∧ w'.cell? ⟨w.heap.size, 1, none⟩ = some (.slice X x y) ∧ w'.cell? ⟨w.heap.size, 2, none⟩ = some (.slice Y z u) ∧ w'.cell? ⟨w.heap.size, 3, none⟩ = some (.slice Z a t) ∧ w'.cell? ⟨b1, o1 + i, none⟩ = some (.int .i64 (nth zs1 i)) ∧ w'.cell? ⟨b2, o2 + i, none⟩ = some (.int .i64 (nth zs2 i)) ∧ w'.cell? ⟨b3, o3 + i, none⟩ = some (.int .i64 (nth zs3 i)))
                    (with_reducible (first | exact HS0 | exact HS2 | exact HS4 _ _ _ _))
                    (first | (go_at_call 19; refine ((move_told (N := 0) HG.out (nth zs2 i) (nth zs1 i) (nth zs3 i) _ (HPK.out _ (below_drew1 HN.out.below))).mono ?_); rintro e w2 ⟨E2, l2, X2, x2, y2, Y2, z2, u2, Z2, a2, t2, rfl, ht, hb2⟩; have HA := aside (HN.out.again (below_drew0 hb2) ht); have hbw := HN.out.below.trans ((below_drew0 hb2).mono HN.out.below.size); have HBX := ((below_drew0 hb2).block _ HN.out.drew).trans HN.out.box; have HBC := box_cells HBX; obtain ⟨⟨g0, g1, g2, g3⟩, gf0, gf1, gf2, gf3⟩ := HBC; have HS2 := HSB.out w2 hbw; have HS4 := fun u0 u1 u2 u3 => HSB.out (((((w2).setCell ⟨nb, 0, none⟩ u0).setCell ⟨nb, 1, none⟩ u1).setCell ⟨nb, 2, none⟩ u2).setCell ⟨nb, 3, none⟩ u3) ((((hbw.setCell HN.out.big u0).setCell HN.out.big u1).setCell HN.out.big u2).setCell HN.out.big u3); skip))
                  all_goals (go_wp2_with fail)
                  all_goals go_meet
                  all_goals exact ⟨_, _, _, _, _, _, _, _, _, _, _, rfl, HA⟩
                · have e1 : (k == (1 : Int)) = false := by simpa using q
                  go_wp2_with fail
                  go_meet
                  exact ⟨_, _, _, _, _, _, _, _, _, _, _, rfl, HN⟩
              case rest =>
                clear HN c0
                obtain ⟨nb, lN, XN, xN, yN, YN, zN, uN, ZN, aN, tN, rfl, HN⟩ := hcut
                have c0 := (HN.out.below.cell (p := ⟨b0, o0 + i, none⟩) M0.out).trans C0.out
                go_upto_if 81 with fail
                go_cut [12, 13] from 14 to 115 (fun s12 s13 wx => ∃ (nb : Nat) (l' : Int) (X' : Option Addr) (x' y' : Nat) (Y' : Option Addr) (z' u' : Nat) (Z' : Option Addr) (a' t' : Nat), s12 = .pointer (some ⟨nb, 0, none⟩) ∧ Hid (NextAt wr wx nb l' X' x' y' Y' z' u' Z' a' t' s13))
                case first =>
                  by_cases q : k = 2
                  · subst q
                    go_wp2_with fail
                    have HS0 := HSB.out wc.drew (below_drew1 HN.out.below)
                    go_region_held3 (fun w' => w'.cell? ⟨w.heap.size, 0, none⟩ = some (.int .i64 l) ∧ w'.cell? ⟨w.heap.size, 1, none⟩ = some (.slice X x y) ∧ w'.cell? ⟨w.heap.size, 2, none⟩ = some (.slice Y z u) ∧ w'.cell? ⟨w.heap.size, 3, none⟩ = some (.slice Z a t) ∧ w'.cell? ⟨b1, o1 + i, none⟩ = some (.int .i64 (nth zs1 i)) ∧ w'.cell? ⟨b2, o2 + i, none⟩ = some (.int .i64 (nth zs2 i)) ∧ w'.cell? ⟨b3, o3 + i, none⟩ = some (.int .i64 (nth zs3 i)))
                      (with_reducible (first | exact HS0 | exact HS2 | exact HS4 _ _ _ _))
                      (first | (go_at_call 7; refine ((out_told (N := 0) HG.out (nth zs1 i) (nth zs2 i) (nth zs3 i) _ (HPK.out _ (below_drew1 HN.out.below))).mono ?_); rintro e w2 ⟨E2, l2, X2, x2, y2, Y2, z2, u2, Z2, a2, t2, rfl, ht, hb2⟩; have HA := aside (HN.out.again (below_drew0 hb2) ht); have hbw := HN.out.below.trans ((below_drew0 hb2).mono HN.out.below.size); have HBX := ((below_drew0 hb2).block _ HN.out.drew).trans HN.out.box; have HBC := box_cells HBX; obtain ⟨⟨g0, g1, g2, g3⟩, gf0, gf1, gf2, gf3⟩ := HBC; have HS2 := HSB.out w2 hbw; have HS4 := fun u0 u1 u2 u3 => HSB.out (((((w2).setCell ⟨nb, 0, none⟩ u0).setCell ⟨nb, 1, none⟩ u1).setCell ⟨nb, 2, none⟩ u2).setCell ⟨nb, 3, none⟩ u3) ((((hbw.setCell HN.out.big u0).setCell HN.out.big u1).setCell HN.out.big u2).setCell HN.out.big u3); skip))
                    all_goals (go_wp2_with fail)
                    all_goals go_meet
                    all_goals exact ⟨_, _, _, _, _, _, _, _, _, _, _, rfl, HA⟩
                  · have e2 : (k == (2 : Int)) = false := by simpa using q
                    go_wp2_with fail
                    go_meet
                    exact ⟨_, _, _, _, _, _, _, _, _, _, _, rfl, HN⟩
                case rest =>
                  clear HN c0
                  obtain ⟨nb, lN, XN, xN, yN, YN, zN, uN, ZN, aN, tN, rfl, HN⟩ := hcut
                  have c0 := (HN.out.below.cell (p := ⟨b0, o0 + i, none⟩) M0.out).trans C0.out
                  go_upto_if 103 with fail
                  go_cut [12, 13] from 14 to 115 (fun s12 s13 wx => ∃ (nb : Nat) (l' : Int) (X' : Option Addr) (x' y' : Nat) (Y' : Option Addr) (z' u' : Nat) (Z' : Option Addr) (a' t' : Nat), s12 = .pointer (some ⟨nb, 0, none⟩) ∧ Hid (NextAt wr wx nb l' X' x' y' Y' z' u' Z' a' t' s13))
                  case first =>
                    by_cases q : k = 3
                    · subst q
                      go_wp2_with fail
                      have HS0 := HSB.out wc.drew (below_drew1 HN.out.below)
                      go_region_held3 (fun w' => w'.cell? ⟨w.heap.size, 0, none⟩ = some (.int .i64 l) ∧ w'.cell? ⟨w.heap.size, 1, none⟩ = some (.slice X x y) ∧ w'.cell? ⟨w.heap.size, 2, none⟩ = some (.slice Y z u) ∧ w'.cell? ⟨w.heap.size, 3, none⟩ = some (.slice Z a t) ∧ w'.cell? ⟨b1, o1 + i, none⟩ = some (.int .i64 (nth zs1 i)) ∧ w'.cell? ⟨b2, o2 + i, none⟩ = some (.int .i64 (nth zs2 i)) ∧ w'.cell? ⟨b3, o3 + i, none⟩ = some (.int .i64 (nth zs3 i)))
                        (with_reducible (first | exact HS0 | exact HS2 | exact HS4 _ _ _ _))
                        (first | (go_at_call 8; refine ((pay_told (N := 0) HG.out (nth zs1 i) _ (HPK.out _ (below_drew1 HN.out.below))).mono ?_); rintro e w2 ⟨E2, l2, X2, x2, y2, Y2, z2, u2, Z2, a2, t2, rfl, ht, hb2⟩; have HA := aside (HN.out.again (below_drew0 hb2) ht); have hbw := HN.out.below.trans ((below_drew0 hb2).mono HN.out.below.size); have HBX := ((below_drew0 hb2).block _ HN.out.drew).trans HN.out.box; have HBC := box_cells HBX; obtain ⟨⟨g0, g1, g2, g3⟩, gf0, gf1, gf2, gf3⟩ := HBC; have HS2 := HSB.out w2 hbw; have HS4 := fun u0 u1 u2 u3 => HSB.out (((((w2).setCell ⟨nb, 0, none⟩ u0).setCell ⟨nb, 1, none⟩ u1).setCell ⟨nb, 2, none⟩ u2).setCell ⟨nb, 3, none⟩ u3) ((((hbw.setCell HN.out.big u0).setCell HN.out.big u1).setCell HN.out.big u2).setCell HN.out.big u3); skip))
                      all_goals (go_wp2_with fail)
                      all_goals go_meet
                      all_goals exact ⟨_, _, _, _, _, _, _, _, _, _, _, rfl, HA⟩
                    · have e3 : (k == (3 : Int)) = false := by simpa using q
                      go_wp2_with fail
                      go_meet
                      exact ⟨_, _, _, _, _, _, _, _, _, _, _, rfl, HN⟩
                  case rest =>
                    clear HN c0
                    obtain ⟨nb, lN, XN, xN, yN, YN, zN, uN, ZN, aN, tN, rfl, HN⟩ := hcut
                    have c0 := (HN.out.below.cell (p := ⟨b0, o0 + i, none⟩) M0.out).trans C0.out
                    rcases HN.out.told with ⟨rfl, s2, hg2, hp2⟩ | ⟨q, rfl⟩
                    · have hbx := HN.out.box
                      have hbw := HN.out.below
                      have hbg := HN.out.big
                      have hbc := box_cells hbx
                      obtain ⟨⟨g0, g1, g2, g3⟩, gf0, gf1, gf2, gf3⟩ := hbc
                      have e5 := box_cells ((DA.out.step hbw).box)
                      obtain ⟨⟨h0, h1, h2, h3⟩, hf0, hf1, hf2, hf3⟩ := e5
                      have HKN := aside (Or.inr (peg_put (nb := w.heap.size) (M := w.heap.size + 2) hp2 (by have := DA.out.size; omega) (DA.out.size) (.int .i64 lN) (.slice XN xN yN) (.slice YN zN uN) (.slice ZN aN tN)) : PegKeep w _ _ _)
                      have HDN := aside ((DA.out.step hbw).put (l' := lN) (X' := XN) (x' := xN) (y' := yN) (Y' := YN) (z' := zN) (u' := uN) (Z' := ZN) (a' := aN) (t' := tN))
                      have HGN := aside hg2
                      clear hg2 hp2 hbx hbw hbg c0
                      go_wp2
                      exact ⟨⟨i + 1, s2, lN, XN, xN, yN, YN, zN, uN, ZN, aN, tN, k0, rfl, HGN, HKN, HDN⟩, by
                        show n0 - ((i : Int) + 1).toNat < n0 - (i : Int).toNat
                        omega⟩
                    · have hbw := HN.out.below
                      have HKN := aside (HK.out.step hbw)
                      have HDN := aside (DA.out.step hbw)
                      clear hbw c0
                      go_wp2
                      exact ⟨⟨i + 1, s, l, X, x, y, Y, z, u, Z, a, t, k0, rfl, HG, HKN, HDN⟩, by
                        show n0 - ((i : Int) + 1).toNat < n0 - (i : Int).toNat
                        omega⟩
          · have i0 : (i : Int) < (n0 : Int) := by omega
            have i1 : (i : Int) < (n1 : Int) := by omega
            have i2 : (i : Int) < (n2 : Int) := by omega
            have i3 : ¬ ((i : Int) < (n3 : Int)) := by omega
            clear f0 f1 f2 f3
            have rb := box_cells DA.out.res
            obtain ⟨⟨r0, r1, r2, r3⟩, rf0, rf1, rf2, rf3⟩ := rb
            go_wp2_with fail
            (try simp only [Exit.inBlock, Exit.then])
            refine bodyPost_ret (v := .agg #[.int .i64 l, .slice X x y, .slice Y z u, .slice Z a t]) (by simp only [results, Try.results10]; go_simp) rfl ?_
            exact ⟨_, rfl, s.1, s.2.1, s.2.2.1, s.2.2.2, HG.out, HK.out.out DA.out.below _ _ _ _⟩
        · have i0 : (i : Int) < (n0 : Int) := by omega
          have i1 : (i : Int) < (n1 : Int) := by omega
          have i2 : ¬ ((i : Int) < (n2 : Int)) := by omega
          clear f0 f1 f2 f3
          have rb := box_cells DA.out.res
          obtain ⟨⟨r0, r1, r2, r3⟩, rf0, rf1, rf2, rf3⟩ := rb
          go_wp2_with fail
          (try simp only [Exit.inBlock, Exit.then])
          refine bodyPost_ret (v := .agg #[.int .i64 l, .slice X x y, .slice Y z u, .slice Z a t]) (by simp only [results, Try.results10]; go_simp) rfl ?_
          exact ⟨_, rfl, s.1, s.2.1, s.2.2.1, s.2.2.2, HG.out, HK.out.out DA.out.below _ _ _ _⟩
      · have i0 : (i : Int) < (n0 : Int) := by omega
        have i1 : ¬ ((i : Int) < (n1 : Int)) := by omega
        clear f0 f1 f2 f3
        have rb := box_cells DA.out.res
        obtain ⟨⟨r0, r1, r2, r3⟩, rf0, rf1, rf2, rf3⟩ := rb
        go_wp2_with fail
        (try simp only [Exit.inBlock, Exit.then])
        refine bodyPost_ret (v := .agg #[.int .i64 l, .slice X x y, .slice Y z u, .slice Z a t]) (by simp only [results, Try.results10]; go_simp) rfl ?_
        exact ⟨_, rfl, s.1, s.2.1, s.2.2.1, s.2.2.2, HG.out, HK.out.out DA.out.below _ _ _ _⟩
    · have i0 : ¬ ((i : Int) < (n0 : Int)) := by omega
      clear f0 f1 f2 f3
      have rb := box_cells DA.out.res
      obtain ⟨⟨r0, r1, r2, r3⟩, rf0, rf1, rf2, rf3⟩ := rb
      go_wp2_with fail
      (try simp only [Exit.inBlock, Exit.then])
      refine bodyPost_ret (v := .agg #[.int .i64 l, .slice X x y, .slice Y z u, .slice Z a t]) (by simp only [results, Try.results10]; go_simp) rfl ?_
      exact ⟨_, rfl, s.1, s.2.1, s.2.2.1, s.2.2.2, HG.out, HK.out.out DA.out.below _ _ _ _⟩
end Go.Proofs.Ytcmlhopidohimaa
