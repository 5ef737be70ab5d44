/- The walk of LaneTells. Condition: errors.errorType reads as the program's text lays it. -/
import Derived.Test.YtpkclbemgmaahaaDoorLaneRf
import Derived.Test.YtpkclbemgmaahaaDoorErr
import Derived.Deep.Cut
import Derived.Deep.RegionHeld3
namespace Go.Proofs.YtpkclbemgmaahaaDoor
open Go.RowKit Go.ChangeShapes Go.WideShapes Go.ChangeAt

theorem err_same (q : Int) (w : World) (hg : ErrVar w) : Calls Tryd.prog 7 #[errV q, .int .i64 q] w (fun e w' => e = .returned (.bool true) ∧ Below w.heap.size w w') := by
  refine (error_at (k := q) (j := q) (v := errV q) rfl hg).mono ?_
  rintro e w' ⟨rfl, hb⟩
  exact ⟨by simp, hb⟩
theorem ErrVar.grown {w w' : World} (hg : ErrVar w) (hb : Below w.heap.size w w') : ErrVar w' := hg.below (errVar_lt hg) hb
section
variable {w w' : World} {b B n c nb : Nat} {A : Option Addr} {cl tu wh : Int} {ch : Bool}
theorem ChAt.to (h : ChAt w b A n c cl tu wh ch) (hb : Below w.heap.size w w') (hl : b < w.heap.size) : ChAt w' b A n c cl tu wh ch := h.below hb hl
theorem ChAt.new_ (h : ChAt w b A n c cl tu wh ch) (hl : b < w.heap.size) (o : Obj) : ChAt (w.alloc o) b A n c cl tu wh ch := h.below ((Below.refl _ _).alloc (Nat.le_refl _) o) hl
theorem ChAt.set_ne {v0 v1 v2 v3 v4 : Value} (h : ChAt w b A n c cl tu wh ch) (hne : nb ≠ b) : ChAt (set5 w nb v0 v1 v2 v3 v4) b A n c cl tu wh ch := by
  have e : ∀ o, (set5 w nb v0 v1 v2 v3 v4).cell? ⟨b, o, none⟩ = w.cell? ⟨b, o, none⟩ := fun o => by
    unfold set5
    iterate 5 rw [World.cell?_setCell_far _ _ _ _ (by exact hne)]
  refine h.keep e fun o => ?_
  simp [set5, go_sem]
end
theorem set5_size_ {w : World} {b : Nat} {v0 v1 v2 v3 v4 : Value} : (set5 w b v0 v1 v2 v3 v4).heap.size = w.heap.size := set5_size
theorem below_drewT {wr w2 : World} (h : Below wr.drew.heap.size wr.drew w2) : Below wr.heap.size wr w2 := ⟨h.os, h.tape, h.output, h.size, h.block⟩
theorem PSl.drewT {w : World} {A : Option Addr} {n : Nat} {ps : List (Int × Int)} (h : PSl w w.heap.size A n ps) : PSl w.drew w.drew.heap.size A n ps := show Sl w.drew w.heap.size 2 A n (flat ps) from Sl.drew h
/-- Five cells of a block. -/
def Five (w : World) (b : Nat) (A : Option Addr) (n c : Nat) (cl tu wh : Int) (ch : Bool) : Prop :=
  w.cell? ⟨b, 0, none⟩ = some (.slice A n c) ∧ w.cell? ⟨b, 1, none⟩ = some (.int .i64 cl) ∧ w.cell? ⟨b, 2, none⟩ = some (.int .i64 tu) ∧ w.cell? ⟨b, 3, none⟩ = some (.int .i64 wh) ∧ w.cell? ⟨b, 4, none⟩ = some (.bool ch)
theorem ChAt.five {w : World} {b : Nat} {A : Option Addr} {n c : Nat} {cl tu wh : Int} {ch : Bool} (h : ChAt w b A n c cl tu wh ch) :
    w.cell? ⟨b, 0, none⟩ = some (.slice A n c) ∧ w.cell? ⟨b, 1, none⟩ = some (.int .i64 cl) ∧ w.cell? ⟨b, 2, none⟩ = some (.int .i64 tu) ∧ w.cell? ⟨b, 3, none⟩ = some (.int .i64 wh) ∧ w.cell? ⟨b, 4, none⟩ = some (.bool ch) := ⟨h.c0, h.c1, h.c2, h.c3, h.c4⟩
theorem ChAt.five_drew {w : World} {b : Nat} {A : Option Addr} {n c : Nat} {cl tu wh : Int} {ch : Bool} (h : ChAt w b A n c cl tu wh ch) :
    w.drew.cell? ⟨b, 0, none⟩ = some (.slice A n c) ∧ w.drew.cell? ⟨b, 1, none⟩ = some (.int .i64 cl) ∧ w.drew.cell? ⟨b, 2, none⟩ = some (.int .i64 tu) ∧ w.drew.cell? ⟨b, 3, none⟩ = some (.int .i64 wh) ∧ w.drew.cell? ⟨b, 4, none⟩ = some (.bool ch) := ⟨h.c0, h.c1, h.c2, h.c3, h.c4⟩

set_option maxHeartbeats 32000000 in
set_option maxRecDepth 100000 in
theorem tells_any (a b : Int) (ps : List (Int × Int)) (A : Option Addr) (n c : Nat) (cl tu wh : Int) (ch : Bool) (who m now : Int) (w : World) (hg : ErrVar w) (hp : PSl w w.heap.size A n ps) :
    Calls Tryd.prog 3 #[.int .i64 a, .int .i64 b, .agg #[.slice A n c, .int .i64 cl, .int .i64 tu, .int .i64 wh, .bool ch], .int .i64 who, .int .i64 m, .int .i64 now] w (LawPost w) := by
  have HP := aside hp
  have HG := aside hg
  have hA : Hid (∀ b o, A = some ⟨b, o, none⟩ → 0 < n → b < w.heap.size) := aside fun b o e hn => by
    obtain ⟨b', o', e', hlt, _⟩ := hp.at_ (k := 0) hn
    rw [e] at e'
    injection e' with e'
    injection e' with e1 e2
    omega
  clear hp hg
  go_enter Tryd.func3, Tryd.ntmps3
  go_wp2_with fail
  refine (laned_any _).mono ?_
  rintro e w1 ⟨rfl, hb1⟩
  have HB1 := aside (((Below.refl _ _).alloc (Nat.le_refl _) _).trans (hb1.mono (by simp)) : Below w.heap.size w w1)
  have HD1 := aside ((chAt_alloc (A := A) (n := n) (c := c) (cl := cl) (tu := tu) (wh := wh) (ch := ch) w).below hb1 (by simp))
  have hz1 := hb1.size
  simp only [World.size_alloc] at hz1
  clear hb1
  go_wp2_with fail
  refine (total_two a b _ _ _ (World.cell?_alloc_at _ _ _ _ rfl) (World.cell?_alloc_at _ _ _ _ rfl)).mono ?_
  rintro e w2 ⟨⟨r, rfl⟩, hb2⟩
  have HB2 := aside (HB1.out.trans (((Below.refl _ _).alloc HB1.out.size _).trans (hb2.mono (by have := HB1.out.size; simp; omega))))
  have HD2 := aside ((HD1.out.new_ (by omega) _).below hb2 (by simp; omega))
  have hz2 := hb2.size
  simp only [World.size_alloc] at hz2
  clear hb2 HD1
  have hw2 : w.heap.size < w2.heap.size := by omega
  by_cases hq : addQ a b = 0
  · have HQ := aside hq
    have e0 : (addQ a b == 0) = true := by simpa using hq
    clear hq
    go_upto_region 6 with fail
    obtain ⟨V, hV⟩ : ∃ V, V = (w2.alloc (.cells #[.slice (some ⟨w2.heap.size + 1, 0, none⟩) 1 1, .int .i64 0, .int .i64 0, .int .i64 0, .bool false] 24)).alloc (.cells #[.int .i64 a, .int .i64 b] 30) := ⟨_, rfl⟩
    have HW := aside (show ChAt V w2.heap.size (some ⟨w2.heap.size + 1, 0, none⟩) 1 1 0 0 0 false by rw [hV]; exact (chAt_alloc _).new_ (by simp) _)
    have HB := aside (show Below w.heap.size w V by rw [hV]; exact (HB2.out.alloc HB2.out.size _).alloc (by have := HB2.out.size; simp; omega) _)
    have HD := aside (show ChAt V w.heap.size A n c cl tu wh ch by rw [hV]; exact (HD2.out.new_ hw2 _).new_ (by simp; omega) _)
    have HV := aside (show ChOut w.heap.size w2.heap.size (addQ a b) 1 [(a, b)] 0 0 0 false V (.agg #[.slice (some ⟨w2.heap.size + 1, 0, none⟩) 1 1, .int .i64 0, .int .i64 0, .int .i64 0, .bool false]) by
      rw [hV]
      refine chOut_ok HQ.out (by decide) ⟨by simp [flat], fun _ => ⟨_, 0, rfl, by simp, ?_⟩⟩ (fun b o e _ => ?_)
      · intro j u hj
        rw [Nat.zero_add]
        refine (World.cell?_alloc_at _ _ _ _ (by simp)).trans ?_
        simpa [flat] using hj
      · injection e with e
        injection e with e1 e2
        omega)
    have hVs : w2.heap.size < V.heap.size := by rw [hV]; simp; omega
    rw [← hV]
    clear hV HQ e0 HB2 HD2 HB1
    go_wp2_with fail
    refine (new_out w.heap.size a b _).mono ?_
    rintro e w3 ⟨hb3, v, rfl, hv⟩
    have HU := aside hv
    obtain ⟨A2, n2, c2, cl2, tu2, wh2, ch2, ps2, rfl, -, -, -, -⟩ := hv
    have hz3 := hb3.size
    have HB3 := aside (HB.out.trans (hb3.mono HB.out.size))
    have HD3 := aside (HD.out.to hb3 (by omega))
    have HW3 := aside (HW.out.to hb3 hVs)
    have HV3 := aside (HV.out.below hb3)
    clear hb3 HB HD HW HV
    go_upto_region 7 with fail
    have hX : ∃ X, X = w3.alloc (.cells #[.slice A2 n2 c2, .int .i64 cl2, .int .i64 tu2, .int .i64 wh2, .bool ch2] 24) := ⟨_, rfl⟩
    obtain ⟨X, hX⟩ := hX
    have HX := aside (show ChAt X w3.heap.size A2 n2 c2 cl2 tu2 wh2 ch2 by rw [hX]; exact chAt_alloc _)
    have HB := aside (show Below w.heap.size w X by rw [hX]; exact HB3.out.alloc HB3.out.size _)
    have HD := aside (show ChAt X w.heap.size A n c cl tu wh ch by rw [hX]; exact HD3.out.new_ (by omega) _)
    have HW := aside (by rw [hX]; exact HW3.out.new_ (by omega) _ : ChAt X w2.heap.size _ _ _ _ _ _ _)
    have HV := aside (by rw [hX]; exact HV3.out.alloc _ : ChOut w.heap.size w2.heap.size (addQ a b) 1 [(a, b)] 0 0 0 false X _)
    have HU2 := aside (by rw [hX]; exact HU.out.alloc _ : ChOut w.heap.size V.heap.size (addQ a b) 1 [(a, b)] 0 0 0 false X _)
    have sX : w3.heap.size < X.heap.size := by rw [hX]; simp
    rw [← hX]
    clear hX HU HB3 HD3 HW3 HV3
    have bwx : w2.heap.size < w3.heap.size := by omega
    clear hVs hz3
    go_wp2_with fail
    refine (err_same _ _ (HG.out.grown HB.out)).mono ?_
    rintro e w4 ⟨rfl, hb4⟩
    have z4 := hb4.size
    have HB4 := aside (HB.out.trans (hb4.mono HB.out.size))
    have HD4 := aside (HD.out.to hb4 (by omega))
    have HW4 := aside (HW.out.to hb4 (by omega))
    have HX4 := aside (HX.out.to hb4 sX)
    have HV4 := aside (HV.out.below hb4)
    have HU4 := aside (HU2.out.below hb4)
    have s4 : w3.heap.size < w4.heap.size := by omega
    have HP4 := aside ((Sl.below HP.out HB4.out).more HB4.out.size)
    clear hb4 z4 sX HB HD HW HX HV HU2
    go_wp2_with fail
    have HS0 := HD4.out.five_drew
    have l4 : w.heap.size < w4.heap.size := by omega
    go_region_held3 (fun v => v.cell? ⟨w.heap.size, 0, none⟩ = some (.slice A n c) ∧ v.cell? ⟨w.heap.size, 1, none⟩ = some (.int .i64 cl) ∧ v.cell? ⟨w.heap.size, 2, none⟩ = some (.int .i64 tu) ∧ v.cell? ⟨w.heap.size, 3, none⟩ = some (.int .i64 wh) ∧ v.cell? ⟨w.heap.size, 4, none⟩ = some (.bool ch))
      (with_reducible (first | exact HS0 | exact HS2))
      (first
        | (go_at_call 8; refine (check_any ps A n c cl tu wh ch _ (by first | exact PSl.drewT HP4.out | exact (Sl.below HP4.out hbL).more hbL.size)).mono ?_; rintro e wc ⟨rfl, hbc⟩; (first | (have hbL := hbL.trans (hbc.mono hbL.size)) | (have hbL := below_drewT hbc)); have HS2 := (HD4.out.to hbL l4).five; skip)
        | (go_at_call 9; refine (fault_any ps A n c cl tu wh ch _ (by first | exact PSl.drewT HP4.out | exact (Sl.below HP4.out hbL).more hbL.size)).mono ?_; rintro e wf ⟨rfl, hbf⟩; (first | (have hbL := hbL.trans (hbf.mono hbL.size)) | (have hbL := below_drewT hbf)); have HS2 := (HD4.out.to hbL l4).five; skip)
        | (go_at_call 7; refine (err_same _ _ (HG.out.grown (HB4.out.trans (hbL.mono HB4.out.size)))).mono ?_; rintro e we ⟨rfl, hbe⟩; have hbE := hbL.trans (hbe.mono hbL.size); have HS2 := (HD4.out.to hbE l4).five; skip))
    all_goals clear HS0 HS2
    all_goals have z5 := hbE.size
    all_goals have HB := aside (HB4.out.trans (hbE.mono HB4.out.size))
    all_goals have HD := aside (HD4.out.to hbE l4)
    all_goals have HW := aside (HW4.out.to hbE (by omega))
    all_goals have HX := aside (HX4.out.to hbE s4)
    all_goals have HV := aside (HV4.out.below hbE)
    all_goals have HU := aside (HU4.out.below hbE)
    all_goals have sV : w3.heap.size < we.heap.size := by omega
    all_goals clear hbE hbe hbL z5 HB4 HD4 HW4 HX4 HV4 HU4 s4 HP4 l4
    all_goals have HWc := HW.out
    all_goals have HXc := HX.out
    all_goals obtain ⟨t0, t1, t2, t3, t4, tf⟩ := HWc
    all_goals obtain ⟨x0, x1, x2, x3, x4, xf⟩ := HXc
    all_goals go_wp2_with fail
    all_goals refine (lanes_out HU.out HV.out).mono ?_
    all_goals rintro e P0 ⟨rfl, hbV⟩
    all_goals have zV := hbV.size
    all_goals have HB := aside (HB.out.trans (hbV.mono HB.out.size))
    all_goals have HD := aside (HD.out.to hbV (by omega))
    all_goals have HW := aside (HW.out.to hbV (by omega))
    all_goals have HX := aside (HX.out.to hbV sV)
    all_goals have sV' := sV
    all_goals have sV : w3.heap.size < P0.heap.size := by omega
    all_goals clear hbV zV sV' HV HU t0 t1 t2 t3 t4 tf x0 x1 x2 x3 x4 xf
    all_goals have HDc := HD.out
    all_goals obtain ⟨d0, d1, d2, d3, d4, df⟩ := HDc
    all_goals go_wp2_with fail
    all_goals refine (turned_out w.heap.size ps A n c cl tu wh ch who m _ ((Sl.below HP.out HB.out).more HB.out.size)).mono ?_
    all_goals rintro e u1 ⟨hb1, v, rfl, hv⟩
    all_goals have HV := aside hv
    all_goals obtain ⟨A1, n1, c1, cl1, tu1, wh1, ch1, ps1, rfl, -, -, -, -⟩ := hv
    all_goals have z1 := hb1.size
    all_goals have HB1 := aside (HB.out.trans (hb1.mono HB.out.size))
    all_goals have HD1 := aside (HD.out.to hb1 (by omega))
    all_goals have HW1 := aside (HW.out.to hb1 (by omega))
    all_goals have HX1 := aside (HX.out.to hb1 sV)
    all_goals have s1 : w3.heap.size < u1.heap.size := by omega
    all_goals have sV0 := aside sV
    all_goals clear hb1 z1 sV HB HD HW HX d0 d1 d2 d3 d4 df
    all_goals have HWc := HW1.out
    all_goals obtain ⟨t0, t1, t2, t3, t4, tf⟩ := HWc
    all_goals have bw1 : w2.heap.size < u1.heap.size := by omega
    all_goals go_upto_region 12 with fail
    all_goals have hW : ∃ W, W = (((((u1.setCell ⟨w2.heap.size, 0, none⟩ (.slice A1 n1 c1)).setCell ⟨w2.heap.size, 1, none⟩ (.int .i64 cl1)).setCell ⟨w2.heap.size, 2, none⟩ (.int .i64 tu1)).setCell ⟨w2.heap.size, 3, none⟩ (.int .i64 wh1)).setCell ⟨w2.heap.size, 4, none⟩ (.bool ch1)) := ⟨_, rfl⟩
    all_goals obtain ⟨W, hW⟩ := hW
    all_goals have HD := aside (by rw [hW]; exact HD1.out.set_ne (by omega) : ChAt W w.heap.size A n c cl tu wh ch)
    all_goals have HW := aside (by rw [hW]; exact chAt_set HW1.out.some_ HW1.out.fz : ChAt W w2.heap.size A1 n1 c1 cl1 tu1 wh1 ch1)
    all_goals have HX := aside (by rw [hW]; exact HX1.out.set_ne (by omega) : ChAt W w3.heap.size _ _ _ _ _ _ _)
    all_goals have HVW := aside (by rw [hW]; exact HV.out.set5 (by omega) (by have := sV0.out; omega) : ChOut w.heap.size P0.heap.size _ _ _ _ _ _ _ W _)
    all_goals have HB := aside (by rw [hW]; exact set5_below (by omega) HB1.out : Below w.heap.size w W)
    all_goals have sW : w3.heap.size < W.heap.size := by rw [hW]; exact Nat.lt_of_lt_of_le s1 (Nat.le_of_eq set5_size.symm)
    all_goals rw [← hW]
    all_goals clear hW HV HB1 HD1 HW1 HX1 s1 t0 t1 t2 t3 t4 tf bw1
    all_goals have HDc := HD.out
    all_goals obtain ⟨d0, d1, d2, d3, d4, df⟩ := HDc
    all_goals go_wp2_with fail
    all_goals refine (pay_out w.heap.size ps A n c cl tu wh ch who m _ ((Sl.below HP.out HB.out).more HB.out.size)).mono ?_
    all_goals rintro e u2 ⟨hb2, v, rfl, hv⟩
    all_goals have HU := aside hv
    all_goals obtain ⟨A2, n2, c2, cl2, tu2, wh2, ch2, ps2, rfl, -, -, -, -⟩ := hv
    all_goals have z2 := hb2.size
    all_goals have HB2 := aside (HB.out.trans (hb2.mono HB.out.size))
    all_goals have HD2 := aside (HD.out.to hb2 (by omega))
    all_goals have HW2 := aside (HW.out.to hb2 (by omega))
    all_goals have HX2 := aside (HX.out.to hb2 sW)
    all_goals have HV2 := aside (HVW.out.below hb2)
    all_goals have s2 : w3.heap.size < u2.heap.size := by omega
    all_goals have sW0 := aside sW
    all_goals clear hb2 z2 sW HB HD HW HX HVW d0 d1 d2 d3 d4 df
    all_goals have HXc := HX2.out
    all_goals obtain ⟨x0, x1, x2, x3, x4, xf⟩ := HXc
    all_goals go_upto_region 13 with fail
    all_goals have hY : ∃ Y, Y = (((((u2.setCell ⟨w3.heap.size, 0, none⟩ (.slice A2 n2 c2)).setCell ⟨w3.heap.size, 1, none⟩ (.int .i64 cl2)).setCell ⟨w3.heap.size, 2, none⟩ (.int .i64 tu2)).setCell ⟨w3.heap.size, 3, none⟩ (.int .i64 wh2)).setCell ⟨w3.heap.size, 4, none⟩ (.bool ch2)) := ⟨_, rfl⟩
    all_goals obtain ⟨Y, hY⟩ := hY
    all_goals have HD := aside (by rw [hY]; exact HD2.out.set_ne (by omega) : ChAt Y w.heap.size A n c cl tu wh ch)
    all_goals have HW := aside (by rw [hY]; exact HW2.out.set_ne (by omega) : ChAt Y w2.heap.size A1 n1 c1 cl1 tu1 wh1 ch1)
    all_goals have HX := aside (by rw [hY]; exact chAt_set HX2.out.some_ HX2.out.fz : ChAt Y w3.heap.size A2 n2 c2 cl2 tu2 wh2 ch2)
    all_goals have HVY := aside (by rw [hY]; exact HV2.out.set5 (by omega) sV0.out : ChOut w.heap.size P0.heap.size _ _ _ _ _ _ _ Y _)
    all_goals have HUY := aside (by rw [hY]; exact HU.out.set5 (by omega) sW0.out : ChOut w.heap.size W.heap.size _ _ _ _ _ _ _ Y _)
    all_goals have HB := aside (by rw [hY]; exact set5_below (by omega) HB2.out : Below w.heap.size w Y)
    all_goals have sY : w3.heap.size < Y.heap.size := by rw [hY]; exact Nat.lt_of_lt_of_le s2 (Nat.le_of_eq set5_size.symm)
    all_goals rw [← hY]
    all_goals clear hY HU HB2 HD2 HW2 HX2 HV2 s2 x0 x1 x2 x3 x4 xf
    all_goals go_wp2_with fail
    all_goals refine (err_same _ _ (HG.out.grown HB.out)).mono ?_
    all_goals rintro e u3 ⟨rfl, hb3⟩
    all_goals have z3 := hb3.size
    all_goals have HB := aside (HB.out.trans (hb3.mono HB.out.size))
    all_goals have HD := aside (HD.out.to hb3 (by omega))
    all_goals have HW := aside (HW.out.to hb3 (by omega))
    all_goals have HX := aside (HX.out.to hb3 sY)
    all_goals have HV := aside (HVY.out.below hb3)
    all_goals have HU := aside (HUY.out.below hb3)
    all_goals have sV : w3.heap.size < u3.heap.size := by omega
    all_goals clear hb3 z3 sY HVY HUY sV0 sW0
    all_goals have HWc := HW.out
    all_goals have HXc := HX.out
    all_goals obtain ⟨t0, t1, t2, t3, t4, tf⟩ := HWc
    all_goals obtain ⟨x0, x1, x2, x3, x4, xf⟩ := HXc
    all_goals go_wp2_with fail
    all_goals refine (lanes_out HU.out HV.out).mono ?_
    all_goals rintro e P1 ⟨rfl, hbV⟩
    all_goals have zV := hbV.size
    all_goals have HB := aside (HB.out.trans (hbV.mono HB.out.size))
    all_goals have HD := aside (HD.out.to hbV (by omega))
    all_goals have HW := aside (HW.out.to hbV (by omega))
    all_goals have HX := aside (HX.out.to hbV sV)
    all_goals have sVN : w3.heap.size < P1.heap.size := by omega
    all_goals have sV := sVN
    all_goals clear hbV zV sVN HV HU t0 t1 t2 t3 t4 tf x0 x1 x2 x3 x4 xf
    all_goals have HDc := HD.out
    all_goals obtain ⟨d0, d1, d2, d3, d4, df⟩ := HDc
    all_goals go_wp2_with fail
    all_goals refine (shut_out w.heap.size ps A n c cl tu wh ch who m now _ ((Sl.below HP.out HB.out).more HB.out.size) hA.out).mono ?_
    all_goals rintro e u1 ⟨hb1, v, rfl, hv⟩
    all_goals have HV := aside hv
    all_goals obtain ⟨A1, n1, c1, cl1, tu1, wh1, ch1, ps1, rfl, -, -, -, -⟩ := hv
    all_goals have z1 := hb1.size
    all_goals have HB1 := aside (HB.out.trans (hb1.mono HB.out.size))
    all_goals have HD1 := aside (HD.out.to hb1 (by omega))
    all_goals have HW1 := aside (HW.out.to hb1 (by omega))
    all_goals have HX1 := aside (HX.out.to hb1 sV)
    all_goals have s1 : w3.heap.size < u1.heap.size := by omega
    all_goals have sV0 := aside sV
    all_goals clear hb1 z1 sV HB HD HW HX d0 d1 d2 d3 d4 df
    all_goals have HWc := HW1.out
    all_goals obtain ⟨t0, t1, t2, t3, t4, tf⟩ := HWc
    all_goals have bw1 : w2.heap.size < u1.heap.size := by omega
    all_goals go_upto_region 17 with fail
    all_goals have hW : ∃ W, W = (((((u1.setCell ⟨w2.heap.size, 0, none⟩ (.slice A1 n1 c1)).setCell ⟨w2.heap.size, 1, none⟩ (.int .i64 cl1)).setCell ⟨w2.heap.size, 2, none⟩ (.int .i64 tu1)).setCell ⟨w2.heap.size, 3, none⟩ (.int .i64 wh1)).setCell ⟨w2.heap.size, 4, none⟩ (.bool ch1)) := ⟨_, rfl⟩
    all_goals obtain ⟨W, hW⟩ := hW
    all_goals have HD := aside (by rw [hW]; exact HD1.out.set_ne (by omega) : ChAt W w.heap.size A n c cl tu wh ch)
    all_goals have HW := aside (by rw [hW]; exact chAt_set HW1.out.some_ HW1.out.fz : ChAt W w2.heap.size A1 n1 c1 cl1 tu1 wh1 ch1)
    all_goals have HX := aside (by rw [hW]; exact HX1.out.set_ne (by omega) : ChAt W w3.heap.size _ _ _ _ _ _ _)
    all_goals have HVW := aside (by rw [hW]; exact HV.out.set5 (by omega) (by have := sV0.out; omega) : ChOut w.heap.size P1.heap.size _ _ _ _ _ _ _ W _)
    all_goals have HB := aside (by rw [hW]; exact set5_below (by omega) HB1.out : Below w.heap.size w W)
    all_goals have sW : w3.heap.size < W.heap.size := by rw [hW]; exact Nat.lt_of_lt_of_le s1 (Nat.le_of_eq set5_size.symm)
    all_goals rw [← hW]
    all_goals clear hW HV HB1 HD1 HW1 HX1 s1 t0 t1 t2 t3 t4 tf bw1
    all_goals have HDc := HD.out
    all_goals obtain ⟨d0, d1, d2, d3, d4, df⟩ := HDc
    all_goals go_wp2_with fail
    all_goals refine (close_out w.heap.size ps A n c cl tu wh ch who m now _ ((Sl.below HP.out HB.out).more HB.out.size)).mono ?_
    all_goals rintro e u2 ⟨hb2, v, rfl, hv⟩
    all_goals have HU := aside hv
    all_goals obtain ⟨A2, n2, c2, cl2, tu2, wh2, ch2, ps2, rfl, -, -, -, -⟩ := hv
    all_goals have z2 := hb2.size
    all_goals have HB2 := aside (HB.out.trans (hb2.mono HB.out.size))
    all_goals have HD2 := aside (HD.out.to hb2 (by omega))
    all_goals have HW2 := aside (HW.out.to hb2 (by omega))
    all_goals have HX2 := aside (HX.out.to hb2 sW)
    all_goals have HV2 := aside (HVW.out.below hb2)
    all_goals have s2 : w3.heap.size < u2.heap.size := by omega
    all_goals have sW0 := aside sW
    all_goals clear hb2 z2 sW HB HD HW HX HVW d0 d1 d2 d3 d4 df
    all_goals have HXc := HX2.out
    all_goals obtain ⟨x0, x1, x2, x3, x4, xf⟩ := HXc
    all_goals go_upto_region 18 with fail
    all_goals have hY : ∃ Y, Y = (((((u2.setCell ⟨w3.heap.size, 0, none⟩ (.slice A2 n2 c2)).setCell ⟨w3.heap.size, 1, none⟩ (.int .i64 cl2)).setCell ⟨w3.heap.size, 2, none⟩ (.int .i64 tu2)).setCell ⟨w3.heap.size, 3, none⟩ (.int .i64 wh2)).setCell ⟨w3.heap.size, 4, none⟩ (.bool ch2)) := ⟨_, rfl⟩
    all_goals obtain ⟨Y, hY⟩ := hY
    all_goals have HD := aside (by rw [hY]; exact HD2.out.set_ne (by omega) : ChAt Y w.heap.size A n c cl tu wh ch)
    all_goals have HW := aside (by rw [hY]; exact HW2.out.set_ne (by omega) : ChAt Y w2.heap.size A1 n1 c1 cl1 tu1 wh1 ch1)
    all_goals have HX := aside (by rw [hY]; exact chAt_set HX2.out.some_ HX2.out.fz : ChAt Y w3.heap.size A2 n2 c2 cl2 tu2 wh2 ch2)
    all_goals have HVY := aside (by rw [hY]; exact HV2.out.set5 (by omega) sV0.out : ChOut w.heap.size P1.heap.size _ _ _ _ _ _ _ Y _)
    all_goals have HUY := aside (by rw [hY]; exact HU.out.set5 (by omega) sW0.out : ChOut w.heap.size W.heap.size _ _ _ _ _ _ _ Y _)
    all_goals have HB := aside (by rw [hY]; exact set5_below (by omega) HB2.out : Below w.heap.size w Y)
    all_goals have sY : w3.heap.size < Y.heap.size := by rw [hY]; exact Nat.lt_of_lt_of_le s2 (Nat.le_of_eq set5_size.symm)
    all_goals rw [← hY]
    all_goals clear hY HU HB2 HD2 HW2 HX2 HV2 s2 x0 x1 x2 x3 x4 xf
    all_goals go_wp2_with fail
    all_goals refine (err_same _ _ (HG.out.grown HB.out)).mono ?_
    all_goals rintro e u3 ⟨rfl, hb3⟩
    all_goals have z3 := hb3.size
    all_goals have HB := aside (HB.out.trans (hb3.mono HB.out.size))
    all_goals have HD := aside (HD.out.to hb3 (by omega))
    all_goals have HW := aside (HW.out.to hb3 (by omega))
    all_goals have HX := aside (HX.out.to hb3 sY)
    all_goals have HV := aside (HVY.out.below hb3)
    all_goals have HU := aside (HUY.out.below hb3)
    all_goals have sV : w3.heap.size < u3.heap.size := by omega
    all_goals clear hb3 z3 sY HVY HUY sV0 sW0
    all_goals have HWc := HW.out
    all_goals have HXc := HX.out
    all_goals obtain ⟨t0, t1, t2, t3, t4, tf⟩ := HWc
    all_goals obtain ⟨x0, x1, x2, x3, x4, xf⟩ := HXc
    all_goals go_wp2_with fail
    all_goals refine (lanes_out HU.out HV.out).mono ?_
    all_goals rintro e P2 ⟨rfl, hbV⟩
    all_goals have zV := hbV.size
    all_goals have HB := aside (HB.out.trans (hbV.mono HB.out.size))
    all_goals have HD := aside (HD.out.to hbV (by omega))
    all_goals have HW := aside (HW.out.to hbV (by omega))
    all_goals have HX := aside (HX.out.to hbV sV)
    all_goals have sVN : w3.heap.size < P2.heap.size := by omega
    all_goals have sV := sVN
    all_goals clear hbV zV sVN HV HU t0 t1 t2 t3 t4 tf x0 x1 x2 x3 x4 xf
    all_goals have HDc := HD.out
    all_goals obtain ⟨d0, d1, d2, d3, d4, df⟩ := HDc
    all_goals go_wp2_with fail
    all_goals refine (shown_out w.heap.size ps A n c cl tu wh ch who now _ ((Sl.below HP.out HB.out).more HB.out.size) hA.out).mono ?_
    all_goals rintro e u1 ⟨hb1, v, rfl, hv⟩
    all_goals have HV := aside hv
    all_goals obtain ⟨A1, n1, c1, cl1, tu1, wh1, ch1, ps1, rfl, -, -, -, -⟩ := hv
    all_goals have z1 := hb1.size
    all_goals have HB1 := aside (HB.out.trans (hb1.mono HB.out.size))
    all_goals have HD1 := aside (HD.out.to hb1 (by omega))
    all_goals have HW1 := aside (HW.out.to hb1 (by omega))
    all_goals have HX1 := aside (HX.out.to hb1 sV)
    all_goals have s1 : w3.heap.size < u1.heap.size := by omega
    all_goals have sV0 := aside sV
    all_goals clear hb1 z1 sV HB HD HW HX d0 d1 d2 d3 d4 df
    all_goals have HWc := HW1.out
    all_goals obtain ⟨t0, t1, t2, t3, t4, tf⟩ := HWc
    all_goals have bw1 : w2.heap.size < u1.heap.size := by omega
    all_goals go_upto_region 22 with fail
    all_goals have hW : ∃ W, W = (((((u1.setCell ⟨w2.heap.size, 0, none⟩ (.slice A1 n1 c1)).setCell ⟨w2.heap.size, 1, none⟩ (.int .i64 cl1)).setCell ⟨w2.heap.size, 2, none⟩ (.int .i64 tu1)).setCell ⟨w2.heap.size, 3, none⟩ (.int .i64 wh1)).setCell ⟨w2.heap.size, 4, none⟩ (.bool ch1)) := ⟨_, rfl⟩
    all_goals obtain ⟨W, hW⟩ := hW
    all_goals have HD := aside (by rw [hW]; exact HD1.out.set_ne (by omega) : ChAt W w.heap.size A n c cl tu wh ch)
    all_goals have HW := aside (by rw [hW]; exact chAt_set HW1.out.some_ HW1.out.fz : ChAt W w2.heap.size A1 n1 c1 cl1 tu1 wh1 ch1)
    all_goals have HX := aside (by rw [hW]; exact HX1.out.set_ne (by omega) : ChAt W w3.heap.size _ _ _ _ _ _ _)
    all_goals have HVW := aside (by rw [hW]; exact HV.out.set5 (by omega) (by have := sV0.out; omega) : ChOut w.heap.size P2.heap.size _ _ _ _ _ _ _ W _)
    all_goals have HB := aside (by rw [hW]; exact set5_below (by omega) HB1.out : Below w.heap.size w W)
    all_goals have sW : w3.heap.size < W.heap.size := by rw [hW]; exact Nat.lt_of_lt_of_le s1 (Nat.le_of_eq set5_size.symm)
    all_goals rw [← hW]
    all_goals clear hW HV HB1 HD1 HW1 HX1 s1 t0 t1 t2 t3 t4 tf bw1
    all_goals have HDc := HD.out
    all_goals obtain ⟨d0, d1, d2, d3, d4, df⟩ := HDc
    all_goals go_wp2_with fail
    all_goals refine (show_out w.heap.size ps A n c cl tu wh ch who now _ ((Sl.below HP.out HB.out).more HB.out.size)).mono ?_
    all_goals rintro e u2 ⟨hb2, v, rfl, hv⟩
    all_goals have HU := aside hv
    all_goals obtain ⟨A2, n2, c2, cl2, tu2, wh2, ch2, ps2, rfl, -, -, -, -⟩ := hv
    all_goals have z2 := hb2.size
    all_goals have HB2 := aside (HB.out.trans (hb2.mono HB.out.size))
    all_goals have HD2 := aside (HD.out.to hb2 (by omega))
    all_goals have HW2 := aside (HW.out.to hb2 (by omega))
    all_goals have HX2 := aside (HX.out.to hb2 sW)
    all_goals have HV2 := aside (HVW.out.below hb2)
    all_goals have s2 : w3.heap.size < u2.heap.size := by omega
    all_goals have sW0 := aside sW
    all_goals clear hb2 z2 sW HB HD HW HX HVW d0 d1 d2 d3 d4 df
    all_goals have HXc := HX2.out
    all_goals obtain ⟨x0, x1, x2, x3, x4, xf⟩ := HXc
    all_goals go_upto_region 23 with fail
    all_goals have hY : ∃ Y, Y = (((((u2.setCell ⟨w3.heap.size, 0, none⟩ (.slice A2 n2 c2)).setCell ⟨w3.heap.size, 1, none⟩ (.int .i64 cl2)).setCell ⟨w3.heap.size, 2, none⟩ (.int .i64 tu2)).setCell ⟨w3.heap.size, 3, none⟩ (.int .i64 wh2)).setCell ⟨w3.heap.size, 4, none⟩ (.bool ch2)) := ⟨_, rfl⟩
    all_goals obtain ⟨Y, hY⟩ := hY
    all_goals have HD := aside (by rw [hY]; exact HD2.out.set_ne (by omega) : ChAt Y w.heap.size A n c cl tu wh ch)
    all_goals have HW := aside (by rw [hY]; exact HW2.out.set_ne (by omega) : ChAt Y w2.heap.size A1 n1 c1 cl1 tu1 wh1 ch1)
    all_goals have HX := aside (by rw [hY]; exact chAt_set HX2.out.some_ HX2.out.fz : ChAt Y w3.heap.size A2 n2 c2 cl2 tu2 wh2 ch2)
    all_goals have HVY := aside (by rw [hY]; exact HV2.out.set5 (by omega) sV0.out : ChOut w.heap.size P2.heap.size _ _ _ _ _ _ _ Y _)
    all_goals have HUY := aside (by rw [hY]; exact HU.out.set5 (by omega) sW0.out : ChOut w.heap.size W.heap.size _ _ _ _ _ _ _ Y _)
    all_goals have HB := aside (by rw [hY]; exact set5_below (by omega) HB2.out : Below w.heap.size w Y)
    all_goals have sY : w3.heap.size < Y.heap.size := by rw [hY]; exact Nat.lt_of_lt_of_le s2 (Nat.le_of_eq set5_size.symm)
    all_goals rw [← hY]
    all_goals clear hY HU HB2 HD2 HW2 HX2 HV2 s2 x0 x1 x2 x3 x4 xf
    all_goals go_wp2_with fail
    all_goals refine (err_same _ _ (HG.out.grown HB.out)).mono ?_
    all_goals rintro e u3 ⟨rfl, hb3⟩
    all_goals have z3 := hb3.size
    all_goals have HB := aside (HB.out.trans (hb3.mono HB.out.size))
    all_goals have HD := aside (HD.out.to hb3 (by omega))
    all_goals have HW := aside (HW.out.to hb3 (by omega))
    all_goals have HX := aside (HX.out.to hb3 sY)
    all_goals have HV := aside (HVY.out.below hb3)
    all_goals have HU := aside (HUY.out.below hb3)
    all_goals have sV : w3.heap.size < u3.heap.size := by omega
    all_goals clear hb3 z3 sY HVY HUY sV0 sW0
    all_goals have HWc := HW.out
    all_goals have HXc := HX.out
    all_goals obtain ⟨t0, t1, t2, t3, t4, tf⟩ := HWc
    all_goals obtain ⟨x0, x1, x2, x3, x4, xf⟩ := HXc
    all_goals go_wp2_with fail
    all_goals refine (lanes_out HU.out HV.out).mono ?_
    all_goals rintro e P3 ⟨rfl, hbV⟩
    all_goals have zV := hbV.size
    all_goals have HB := aside (HB.out.trans (hbV.mono HB.out.size))
    all_goals have HD := aside (HD.out.to hbV (by omega))
    all_goals have HW := aside (HW.out.to hbV (by omega))
    all_goals have HX := aside (HX.out.to hbV sV)
    all_goals have sVN : w3.heap.size < P3.heap.size := by omega
    all_goals have sV := sVN
    all_goals clear hbV zV sVN HV HU t0 t1 t2 t3 t4 tf x0 x1 x2 x3 x4 xf
    all_goals have HDc := HD.out
    all_goals obtain ⟨d0, d1, d2, d3, d4, df⟩ := HDc
    all_goals have hpe := pair_eq
    all_goals go_wp2_with fail
    all_goals refine (final_out ps A n c cl tu wh ch now _ ((Sl.below HP.out HB.out).more HB.out.size)).mono ?_
    all_goals rintro e u1 ⟨hb1, y1, y2, rfl, e1⟩
    all_goals have z1 := hb1.size
    all_goals have HB1 := aside (HB.out.trans (hb1.mono HB.out.size))
    all_goals have HD1 := aside (HD.out.to hb1 (by omega))
    all_goals have l1 : w.heap.size < u1.heap.size := by omega
    all_goals have E1 := aside e1
    all_goals clear hb1 z1 HB HD HW HX d0 d1 d2 d3 d4 df e1
    all_goals have HDc := HD1.out
    all_goals obtain ⟨d0, d1, d2, d3, d4, df⟩ := HDc
    all_goals go_wp2_with fail
    all_goals refine (ends_out ps A n c cl tu wh ch now _ (((Sl.below HP.out HB1.out).more HB1.out.size).alloc (Nat.le_refl _) _ |>.more (by simp))).mono ?_
    all_goals rintro e u2 ⟨hb2, q1, q2, rfl, e2⟩
    all_goals have e3 := e2.trans E1.out.symm
    all_goals simp only [Prod.mk.injEq] at e3
    all_goals obtain ⟨rfl, rfl⟩ := e3
    all_goals have z2 := hb2.size
    all_goals simp only [World.size_alloc] at z2
    all_goals have r0 := (hb2.cell (p := ⟨u1.heap.size, 0, none⟩) (by simp)).trans (World.cell?_alloc_at _ _ _ _ rfl)
    all_goals have r1 := (hb2.cell (p := ⟨u1.heap.size, 1, none⟩) (by simp)).trans (World.cell?_alloc_at _ _ _ _ rfl)
    all_goals have HB2 := aside (HB1.out.trans (((Below.refl _ _).alloc HB1.out.size _).trans (hb2.mono (by have := HB1.out.size; simp; omega))))
    all_goals have l2 : u1.heap.size < u2.heap.size := by omega
    all_goals clear hb2 z2 HB1 HD1 d0 d1 d2 d3 d4 df e2 E1
    all_goals simp at r0 r1
    all_goals go_wp2_with fail
    all_goals refine (err_same _ _ (HG.out.grown (HB2.out.alloc HB2.out.size _))).mono ?_
    all_goals rintro e u3 ⟨rfl, hb3⟩
    all_goals have z3 := hb3.size
    all_goals simp only [World.size_alloc] at z3
    all_goals have f0 := (hb3.cell (p := ⟨u2.heap.size, 0, none⟩) (by simp)).trans (World.cell?_alloc_at _ _ _ _ rfl)
    all_goals have f1 := (hb3.cell (p := ⟨u2.heap.size, 1, none⟩) (by simp)).trans (World.cell?_alloc_at _ _ _ _ rfl)
    all_goals have g0 := (hb3.cell (p := ⟨u1.heap.size, 0, none⟩) (by simp; omega)).trans ((World.cell?_alloc_lt _ _ ⟨u1.heap.size, 0, none⟩ l2).trans r0)
    all_goals have g1 := (hb3.cell (p := ⟨u1.heap.size, 1, none⟩) (by simp; omega)).trans ((World.cell?_alloc_lt _ _ ⟨u1.heap.size, 1, none⟩ l2).trans r1)
    all_goals simp at f0 f1
    all_goals have HB3 := aside (HB2.out.trans (((Below.refl _ _).alloc HB2.out.size _).trans (hb3.mono (by have := HB2.out.size; simp; omega))))
    all_goals clear hb3 HB2 r0 r1
    all_goals go_wp2
    all_goals go_ret
    all_goals exact ⟨by first | rfl | simp, HB3.out⟩
  · have HQ := aside hq
    have e0 : (addQ a b == 0) = false := by simpa using hq
    clear hq
    go_upto_region 6 with fail
    obtain ⟨V, hV⟩ : ∃ V, V = w2.alloc (.cells #[.slice none 0 0, .int .i64 0, .int .i64 0, .int .i64 0, .bool false] 24) := ⟨_, rfl⟩
    have HW := aside (show ChAt V w2.heap.size none 0 0 0 0 0 false by rw [hV]; exact chAt_alloc _)
    have HB := aside (show Below w.heap.size w V by rw [hV]; exact HB2.out.alloc HB2.out.size _)
    have HD := aside (show ChAt V w.heap.size A n c cl tu wh ch by rw [hV]; exact HD2.out.new_ hw2 _)
    have HV := aside (show ChOut w.heap.size w2.heap.size (addQ a b) 1 [(a, b)] 0 0 0 false V (.agg #[.slice none 0 0, .int .i64 0, .int .i64 0, .int .i64 0, .bool false]) from chOut_bad HQ.out)
    have hVs : w2.heap.size < V.heap.size := by rw [hV]; simp
    rw [← hV]
    clear hV HQ e0 HB2 HD2 HB1
    go_wp2_with fail
    refine (new_out w.heap.size a b _).mono ?_
    rintro e w3 ⟨hb3, v, rfl, hv⟩
    have HU := aside hv
    obtain ⟨A2, n2, c2, cl2, tu2, wh2, ch2, ps2, rfl, -, -, -, -⟩ := hv
    have hz3 := hb3.size
    have HB3 := aside (HB.out.trans (hb3.mono HB.out.size))
    have HD3 := aside (HD.out.to hb3 (by omega))
    have HW3 := aside (HW.out.to hb3 hVs)
    have HV3 := aside (HV.out.below hb3)
    clear hb3 HB HD HW HV
    go_upto_region 7 with fail
    have hX : ∃ X, X = w3.alloc (.cells #[.slice A2 n2 c2, .int .i64 cl2, .int .i64 tu2, .int .i64 wh2, .bool ch2] 24) := ⟨_, rfl⟩
    obtain ⟨X, hX⟩ := hX
    have HX := aside (show ChAt X w3.heap.size A2 n2 c2 cl2 tu2 wh2 ch2 by rw [hX]; exact chAt_alloc _)
    have HB := aside (show Below w.heap.size w X by rw [hX]; exact HB3.out.alloc HB3.out.size _)
    have HD := aside (show ChAt X w.heap.size A n c cl tu wh ch by rw [hX]; exact HD3.out.new_ (by omega) _)
    have HW := aside (by rw [hX]; exact HW3.out.new_ (by omega) _ : ChAt X w2.heap.size _ _ _ _ _ _ _)
    have HV := aside (by rw [hX]; exact HV3.out.alloc _ : ChOut w.heap.size w2.heap.size (addQ a b) 1 [(a, b)] 0 0 0 false X _)
    have HU2 := aside (by rw [hX]; exact HU.out.alloc _ : ChOut w.heap.size V.heap.size (addQ a b) 1 [(a, b)] 0 0 0 false X _)
    have sX : w3.heap.size < X.heap.size := by rw [hX]; simp
    rw [← hX]
    clear hX HU HB3 HD3 HW3 HV3
    have bwx : w2.heap.size < w3.heap.size := by omega
    clear hVs hz3
    go_wp2_with fail
    refine (err_same _ _ (HG.out.grown HB.out)).mono ?_
    rintro e w4 ⟨rfl, hb4⟩
    have z4 := hb4.size
    have HB4 := aside (HB.out.trans (hb4.mono HB.out.size))
    have HD4 := aside (HD.out.to hb4 (by omega))
    have HW4 := aside (HW.out.to hb4 (by omega))
    have HX4 := aside (HX.out.to hb4 sX)
    have HV4 := aside (HV.out.below hb4)
    have HU4 := aside (HU2.out.below hb4)
    have s4 : w3.heap.size < w4.heap.size := by omega
    have HP4 := aside ((Sl.below HP.out HB4.out).more HB4.out.size)
    clear hb4 z4 sX HB HD HW HX HV HU2
    go_wp2_with fail
    have HS0 := HD4.out.five_drew
    have l4 : w.heap.size < w4.heap.size := by omega
    go_region_held3 (fun v => v.cell? ⟨w.heap.size, 0, none⟩ = some (.slice A n c) ∧ v.cell? ⟨w.heap.size, 1, none⟩ = some (.int .i64 cl) ∧ v.cell? ⟨w.heap.size, 2, none⟩ = some (.int .i64 tu) ∧ v.cell? ⟨w.heap.size, 3, none⟩ = some (.int .i64 wh) ∧ v.cell? ⟨w.heap.size, 4, none⟩ = some (.bool ch))
      (with_reducible (first | exact HS0 | exact HS2))
      (first
        | (go_at_call 8; refine (check_any ps A n c cl tu wh ch _ (by first | exact PSl.drewT HP4.out | exact (Sl.below HP4.out hbL).more hbL.size)).mono ?_; rintro e wc ⟨rfl, hbc⟩; (first | (have hbL := hbL.trans (hbc.mono hbL.size)) | (have hbL := below_drewT hbc)); have HS2 := (HD4.out.to hbL l4).five; skip)
        | (go_at_call 9; refine (fault_any ps A n c cl tu wh ch _ (by first | exact PSl.drewT HP4.out | exact (Sl.below HP4.out hbL).more hbL.size)).mono ?_; rintro e wf ⟨rfl, hbf⟩; (first | (have hbL := hbL.trans (hbf.mono hbL.size)) | (have hbL := below_drewT hbf)); have HS2 := (HD4.out.to hbL l4).five; skip)
        | (go_at_call 7; refine (err_same _ _ (HG.out.grown (HB4.out.trans (hbL.mono HB4.out.size)))).mono ?_; rintro e we ⟨rfl, hbe⟩; have hbE := hbL.trans (hbe.mono hbL.size); have HS2 := (HD4.out.to hbE l4).five; skip))
    all_goals clear HS0 HS2
    all_goals have z5 := hbE.size
    all_goals have HB := aside (HB4.out.trans (hbE.mono HB4.out.size))
    all_goals have HD := aside (HD4.out.to hbE l4)
    all_goals have HW := aside (HW4.out.to hbE (by omega))
    all_goals have HX := aside (HX4.out.to hbE s4)
    all_goals have HV := aside (HV4.out.below hbE)
    all_goals have HU := aside (HU4.out.below hbE)
    all_goals have sV : w3.heap.size < we.heap.size := by omega
    all_goals clear hbE hbe hbL z5 HB4 HD4 HW4 HX4 HV4 HU4 s4 HP4 l4
    all_goals have HWc := HW.out
    all_goals have HXc := HX.out
    all_goals obtain ⟨t0, t1, t2, t3, t4, tf⟩ := HWc
    all_goals obtain ⟨x0, x1, x2, x3, x4, xf⟩ := HXc
    all_goals go_wp2_with fail
    all_goals refine (lanes_out HU.out HV.out).mono ?_
    all_goals rintro e P0 ⟨rfl, hbV⟩
    all_goals have zV := hbV.size
    all_goals have HB := aside (HB.out.trans (hbV.mono HB.out.size))
    all_goals have HD := aside (HD.out.to hbV (by omega))
    all_goals have HW := aside (HW.out.to hbV (by omega))
    all_goals have HX := aside (HX.out.to hbV sV)
    all_goals have sV' := sV
    all_goals have sV : w3.heap.size < P0.heap.size := by omega
    all_goals clear hbV zV sV' HV HU t0 t1 t2 t3 t4 tf x0 x1 x2 x3 x4 xf
    all_goals have HDc := HD.out
    all_goals obtain ⟨d0, d1, d2, d3, d4, df⟩ := HDc
    all_goals go_wp2_with fail
    all_goals refine (turned_out w.heap.size ps A n c cl tu wh ch who m _ ((Sl.below HP.out HB.out).more HB.out.size)).mono ?_
    all_goals rintro e u1 ⟨hb1, v, rfl, hv⟩
    all_goals have HV := aside hv
    all_goals obtain ⟨A1, n1, c1, cl1, tu1, wh1, ch1, ps1, rfl, -, -, -, -⟩ := hv
    all_goals have z1 := hb1.size
    all_goals have HB1 := aside (HB.out.trans (hb1.mono HB.out.size))
    all_goals have HD1 := aside (HD.out.to hb1 (by omega))
    all_goals have HW1 := aside (HW.out.to hb1 (by omega))
    all_goals have HX1 := aside (HX.out.to hb1 sV)
    all_goals have s1 : w3.heap.size < u1.heap.size := by omega
    all_goals have sV0 := aside sV
    all_goals clear hb1 z1 sV HB HD HW HX d0 d1 d2 d3 d4 df
    all_goals have HWc := HW1.out
    all_goals obtain ⟨t0, t1, t2, t3, t4, tf⟩ := HWc
    all_goals have bw1 : w2.heap.size < u1.heap.size := by omega
    all_goals go_upto_region 12 with fail
    all_goals have hW : ∃ W, W = (((((u1.setCell ⟨w2.heap.size, 0, none⟩ (.slice A1 n1 c1)).setCell ⟨w2.heap.size, 1, none⟩ (.int .i64 cl1)).setCell ⟨w2.heap.size, 2, none⟩ (.int .i64 tu1)).setCell ⟨w2.heap.size, 3, none⟩ (.int .i64 wh1)).setCell ⟨w2.heap.size, 4, none⟩ (.bool ch1)) := ⟨_, rfl⟩
    all_goals obtain ⟨W, hW⟩ := hW
    all_goals have HD := aside (by rw [hW]; exact HD1.out.set_ne (by omega) : ChAt W w.heap.size A n c cl tu wh ch)
    all_goals have HW := aside (by rw [hW]; exact chAt_set HW1.out.some_ HW1.out.fz : ChAt W w2.heap.size A1 n1 c1 cl1 tu1 wh1 ch1)
    all_goals have HX := aside (by rw [hW]; exact HX1.out.set_ne (by omega) : ChAt W w3.heap.size _ _ _ _ _ _ _)
    all_goals have HVW := aside (by rw [hW]; exact HV.out.set5 (by omega) (by have := sV0.out; omega) : ChOut w.heap.size P0.heap.size _ _ _ _ _ _ _ W _)
    all_goals have HB := aside (by rw [hW]; exact set5_below (by omega) HB1.out : Below w.heap.size w W)
    all_goals have sW : w3.heap.size < W.heap.size := by rw [hW]; exact Nat.lt_of_lt_of_le s1 (Nat.le_of_eq set5_size.symm)
    all_goals rw [← hW]
    all_goals clear hW HV HB1 HD1 HW1 HX1 s1 t0 t1 t2 t3 t4 tf bw1
    all_goals have HDc := HD.out
    all_goals obtain ⟨d0, d1, d2, d3, d4, df⟩ := HDc
    all_goals go_wp2_with fail
    all_goals refine (pay_out w.heap.size ps A n c cl tu wh ch who m _ ((Sl.below HP.out HB.out).more HB.out.size)).mono ?_
    all_goals rintro e u2 ⟨hb2, v, rfl, hv⟩
    all_goals have HU := aside hv
    all_goals obtain ⟨A2, n2, c2, cl2, tu2, wh2, ch2, ps2, rfl, -, -, -, -⟩ := hv
    all_goals have z2 := hb2.size
    all_goals have HB2 := aside (HB.out.trans (hb2.mono HB.out.size))
    all_goals have HD2 := aside (HD.out.to hb2 (by omega))
    all_goals have HW2 := aside (HW.out.to hb2 (by omega))
    all_goals have HX2 := aside (HX.out.to hb2 sW)
    all_goals have HV2 := aside (HVW.out.below hb2)
    all_goals have s2 : w3.heap.size < u2.heap.size := by omega
    all_goals have sW0 := aside sW
    all_goals clear hb2 z2 sW HB HD HW HX HVW d0 d1 d2 d3 d4 df
    all_goals have HXc := HX2.out
    all_goals obtain ⟨x0, x1, x2, x3, x4, xf⟩ := HXc
    all_goals go_upto_region 13 with fail
    all_goals have hY : ∃ Y, Y = (((((u2.setCell ⟨w3.heap.size, 0, none⟩ (.slice A2 n2 c2)).setCell ⟨w3.heap.size, 1, none⟩ (.int .i64 cl2)).setCell ⟨w3.heap.size, 2, none⟩ (.int .i64 tu2)).setCell ⟨w3.heap.size, 3, none⟩ (.int .i64 wh2)).setCell ⟨w3.heap.size, 4, none⟩ (.bool ch2)) := ⟨_, rfl⟩
    all_goals obtain ⟨Y, hY⟩ := hY
    all_goals have HD := aside (by rw [hY]; exact HD2.out.set_ne (by omega) : ChAt Y w.heap.size A n c cl tu wh ch)
    all_goals have HW := aside (by rw [hY]; exact HW2.out.set_ne (by omega) : ChAt Y w2.heap.size A1 n1 c1 cl1 tu1 wh1 ch1)
    all_goals have HX := aside (by rw [hY]; exact chAt_set HX2.out.some_ HX2.out.fz : ChAt Y w3.heap.size A2 n2 c2 cl2 tu2 wh2 ch2)
    all_goals have HVY := aside (by rw [hY]; exact HV2.out.set5 (by omega) sV0.out : ChOut w.heap.size P0.heap.size _ _ _ _ _ _ _ Y _)
    all_goals have HUY := aside (by rw [hY]; exact HU.out.set5 (by omega) sW0.out : ChOut w.heap.size W.heap.size _ _ _ _ _ _ _ Y _)
    all_goals have HB := aside (by rw [hY]; exact set5_below (by omega) HB2.out : Below w.heap.size w Y)
    all_goals have sY : w3.heap.size < Y.heap.size := by rw [hY]; exact Nat.lt_of_lt_of_le s2 (Nat.le_of_eq set5_size.symm)
    all_goals rw [← hY]
    all_goals clear hY HU HB2 HD2 HW2 HX2 HV2 s2 x0 x1 x2 x3 x4 xf
    all_goals go_wp2_with fail
    all_goals refine (err_same _ _ (HG.out.grown HB.out)).mono ?_
    all_goals rintro e u3 ⟨rfl, hb3⟩
    all_goals have z3 := hb3.size
    all_goals have HB := aside (HB.out.trans (hb3.mono HB.out.size))
    all_goals have HD := aside (HD.out.to hb3 (by omega))
    all_goals have HW := aside (HW.out.to hb3 (by omega))
    all_goals have HX := aside (HX.out.to hb3 sY)
    all_goals have HV := aside (HVY.out.below hb3)
    all_goals have HU := aside (HUY.out.below hb3)
    all_goals have sV : w3.heap.size < u3.heap.size := by omega
    all_goals clear hb3 z3 sY HVY HUY sV0 sW0
    all_goals have HWc := HW.out
    all_goals have HXc := HX.out
    all_goals obtain ⟨t0, t1, t2, t3, t4, tf⟩ := HWc
    all_goals obtain ⟨x0, x1, x2, x3, x4, xf⟩ := HXc
    all_goals go_wp2_with fail
    all_goals refine (lanes_out HU.out HV.out).mono ?_
    all_goals rintro e P1 ⟨rfl, hbV⟩
    all_goals have zV := hbV.size
    all_goals have HB := aside (HB.out.trans (hbV.mono HB.out.size))
    all_goals have HD := aside (HD.out.to hbV (by omega))
    all_goals have HW := aside (HW.out.to hbV (by omega))
    all_goals have HX := aside (HX.out.to hbV sV)
    all_goals have sVN : w3.heap.size < P1.heap.size := by omega
    all_goals have sV := sVN
    all_goals clear hbV zV sVN HV HU t0 t1 t2 t3 t4 tf x0 x1 x2 x3 x4 xf
    all_goals have HDc := HD.out
    all_goals obtain ⟨d0, d1, d2, d3, d4, df⟩ := HDc
    all_goals go_wp2_with fail
    all_goals refine (shut_out w.heap.size ps A n c cl tu wh ch who m now _ ((Sl.below HP.out HB.out).more HB.out.size) hA.out).mono ?_
    all_goals rintro e u1 ⟨hb1, v, rfl, hv⟩
    all_goals have HV := aside hv
    all_goals obtain ⟨A1, n1, c1, cl1, tu1, wh1, ch1, ps1, rfl, -, -, -, -⟩ := hv
    all_goals have z1 := hb1.size
    all_goals have HB1 := aside (HB.out.trans (hb1.mono HB.out.size))
    all_goals have HD1 := aside (HD.out.to hb1 (by omega))
    all_goals have HW1 := aside (HW.out.to hb1 (by omega))
    all_goals have HX1 := aside (HX.out.to hb1 sV)
    all_goals have s1 : w3.heap.size < u1.heap.size := by omega
    all_goals have sV0 := aside sV
    all_goals clear hb1 z1 sV HB HD HW HX d0 d1 d2 d3 d4 df
    all_goals have HWc := HW1.out
    all_goals obtain ⟨t0, t1, t2, t3, t4, tf⟩ := HWc
    all_goals have bw1 : w2.heap.size < u1.heap.size := by omega
    all_goals go_upto_region 17 with fail
    all_goals have hW : ∃ W, W = (((((u1.setCell ⟨w2.heap.size, 0, none⟩ (.slice A1 n1 c1)).setCell ⟨w2.heap.size, 1, none⟩ (.int .i64 cl1)).setCell ⟨w2.heap.size, 2, none⟩ (.int .i64 tu1)).setCell ⟨w2.heap.size, 3, none⟩ (.int .i64 wh1)).setCell ⟨w2.heap.size, 4, none⟩ (.bool ch1)) := ⟨_, rfl⟩
    all_goals obtain ⟨W, hW⟩ := hW
    all_goals have HD := aside (by rw [hW]; exact HD1.out.set_ne (by omega) : ChAt W w.heap.size A n c cl tu wh ch)
    all_goals have HW := aside (by rw [hW]; exact chAt_set HW1.out.some_ HW1.out.fz : ChAt W w2.heap.size A1 n1 c1 cl1 tu1 wh1 ch1)
    all_goals have HX := aside (by rw [hW]; exact HX1.out.set_ne (by omega) : ChAt W w3.heap.size _ _ _ _ _ _ _)
    all_goals have HVW := aside (by rw [hW]; exact HV.out.set5 (by omega) (by have := sV0.out; omega) : ChOut w.heap.size P1.heap.size _ _ _ _ _ _ _ W _)
    all_goals have HB := aside (by rw [hW]; exact set5_below (by omega) HB1.out : Below w.heap.size w W)
    all_goals have sW : w3.heap.size < W.heap.size := by rw [hW]; exact Nat.lt_of_lt_of_le s1 (Nat.le_of_eq set5_size.symm)
    all_goals rw [← hW]
    all_goals clear hW HV HB1 HD1 HW1 HX1 s1 t0 t1 t2 t3 t4 tf bw1
    all_goals have HDc := HD.out
    all_goals obtain ⟨d0, d1, d2, d3, d4, df⟩ := HDc
    all_goals go_wp2_with fail
    all_goals refine (close_out w.heap.size ps A n c cl tu wh ch who m now _ ((Sl.below HP.out HB.out).more HB.out.size)).mono ?_
    all_goals rintro e u2 ⟨hb2, v, rfl, hv⟩
    all_goals have HU := aside hv
    all_goals obtain ⟨A2, n2, c2, cl2, tu2, wh2, ch2, ps2, rfl, -, -, -, -⟩ := hv
    all_goals have z2 := hb2.size
    all_goals have HB2 := aside (HB.out.trans (hb2.mono HB.out.size))
    all_goals have HD2 := aside (HD.out.to hb2 (by omega))
    all_goals have HW2 := aside (HW.out.to hb2 (by omega))
    all_goals have HX2 := aside (HX.out.to hb2 sW)
    all_goals have HV2 := aside (HVW.out.below hb2)
    all_goals have s2 : w3.heap.size < u2.heap.size := by omega
    all_goals have sW0 := aside sW
    all_goals clear hb2 z2 sW HB HD HW HX HVW d0 d1 d2 d3 d4 df
    all_goals have HXc := HX2.out
    all_goals obtain ⟨x0, x1, x2, x3, x4, xf⟩ := HXc
    all_goals go_upto_region 18 with fail
    all_goals have hY : ∃ Y, Y = (((((u2.setCell ⟨w3.heap.size, 0, none⟩ (.slice A2 n2 c2)).setCell ⟨w3.heap.size, 1, none⟩ (.int .i64 cl2)).setCell ⟨w3.heap.size, 2, none⟩ (.int .i64 tu2)).setCell ⟨w3.heap.size, 3, none⟩ (.int .i64 wh2)).setCell ⟨w3.heap.size, 4, none⟩ (.bool ch2)) := ⟨_, rfl⟩
    all_goals obtain ⟨Y, hY⟩ := hY
    all_goals have HD := aside (by rw [hY]; exact HD2.out.set_ne (by omega) : ChAt Y w.heap.size A n c cl tu wh ch)
    all_goals have HW := aside (by rw [hY]; exact HW2.out.set_ne (by omega) : ChAt Y w2.heap.size A1 n1 c1 cl1 tu1 wh1 ch1)
    all_goals have HX := aside (by rw [hY]; exact chAt_set HX2.out.some_ HX2.out.fz : ChAt Y w3.heap.size A2 n2 c2 cl2 tu2 wh2 ch2)
    all_goals have HVY := aside (by rw [hY]; exact HV2.out.set5 (by omega) sV0.out : ChOut w.heap.size P1.heap.size _ _ _ _ _ _ _ Y _)
    all_goals have HUY := aside (by rw [hY]; exact HU.out.set5 (by omega) sW0.out : ChOut w.heap.size W.heap.size _ _ _ _ _ _ _ Y _)
    all_goals have HB := aside (by rw [hY]; exact set5_below (by omega) HB2.out : Below w.heap.size w Y)
    all_goals have sY : w3.heap.size < Y.heap.size := by rw [hY]; exact Nat.lt_of_lt_of_le s2 (Nat.le_of_eq set5_size.symm)
    all_goals rw [← hY]
    all_goals clear hY HU HB2 HD2 HW2 HX2 HV2 s2 x0 x1 x2 x3 x4 xf
    all_goals go_wp2_with fail
    all_goals refine (err_same _ _ (HG.out.grown HB.out)).mono ?_
    all_goals rintro e u3 ⟨rfl, hb3⟩
    all_goals have z3 := hb3.size
    all_goals have HB := aside (HB.out.trans (hb3.mono HB.out.size))
    all_goals have HD := aside (HD.out.to hb3 (by omega))
    all_goals have HW := aside (HW.out.to hb3 (by omega))
    all_goals have HX := aside (HX.out.to hb3 sY)
    all_goals have HV := aside (HVY.out.below hb3)
    all_goals have HU := aside (HUY.out.below hb3)
    all_goals have sV : w3.heap.size < u3.heap.size := by omega
    all_goals clear hb3 z3 sY HVY HUY sV0 sW0
    all_goals have HWc := HW.out
    all_goals have HXc := HX.out
    all_goals obtain ⟨t0, t1, t2, t3, t4, tf⟩ := HWc
    all_goals obtain ⟨x0, x1, x2, x3, x4, xf⟩ := HXc
    all_goals go_wp2_with fail
    all_goals refine (lanes_out HU.out HV.out).mono ?_
    all_goals rintro e P2 ⟨rfl, hbV⟩
    all_goals have zV := hbV.size
    all_goals have HB := aside (HB.out.trans (hbV.mono HB.out.size))
    all_goals have HD := aside (HD.out.to hbV (by omega))
    all_goals have HW := aside (HW.out.to hbV (by omega))
    all_goals have HX := aside (HX.out.to hbV sV)
    all_goals have sVN : w3.heap.size < P2.heap.size := by omega
    all_goals have sV := sVN
    all_goals clear hbV zV sVN HV HU t0 t1 t2 t3 t4 tf x0 x1 x2 x3 x4 xf
    all_goals have HDc := HD.out
    all_goals obtain ⟨d0, d1, d2, d3, d4, df⟩ := HDc
    all_goals go_wp2_with fail
    all_goals refine (shown_out w.heap.size ps A n c cl tu wh ch who now _ ((Sl.below HP.out HB.out).more HB.out.size) hA.out).mono ?_
    all_goals rintro e u1 ⟨hb1, v, rfl, hv⟩
    all_goals have HV := aside hv
    all_goals obtain ⟨A1, n1, c1, cl1, tu1, wh1, ch1, ps1, rfl, -, -, -, -⟩ := hv
    all_goals have z1 := hb1.size
    all_goals have HB1 := aside (HB.out.trans (hb1.mono HB.out.size))
    all_goals have HD1 := aside (HD.out.to hb1 (by omega))
    all_goals have HW1 := aside (HW.out.to hb1 (by omega))
    all_goals have HX1 := aside (HX.out.to hb1 sV)
    all_goals have s1 : w3.heap.size < u1.heap.size := by omega
    all_goals have sV0 := aside sV
    all_goals clear hb1 z1 sV HB HD HW HX d0 d1 d2 d3 d4 df
    all_goals have HWc := HW1.out
    all_goals obtain ⟨t0, t1, t2, t3, t4, tf⟩ := HWc
    all_goals have bw1 : w2.heap.size < u1.heap.size := by omega
    all_goals go_upto_region 22 with fail
    all_goals have hW : ∃ W, W = (((((u1.setCell ⟨w2.heap.size, 0, none⟩ (.slice A1 n1 c1)).setCell ⟨w2.heap.size, 1, none⟩ (.int .i64 cl1)).setCell ⟨w2.heap.size, 2, none⟩ (.int .i64 tu1)).setCell ⟨w2.heap.size, 3, none⟩ (.int .i64 wh1)).setCell ⟨w2.heap.size, 4, none⟩ (.bool ch1)) := ⟨_, rfl⟩
    all_goals obtain ⟨W, hW⟩ := hW
    all_goals have HD := aside (by rw [hW]; exact HD1.out.set_ne (by omega) : ChAt W w.heap.size A n c cl tu wh ch)
    all_goals have HW := aside (by rw [hW]; exact chAt_set HW1.out.some_ HW1.out.fz : ChAt W w2.heap.size A1 n1 c1 cl1 tu1 wh1 ch1)
    all_goals have HX := aside (by rw [hW]; exact HX1.out.set_ne (by omega) : ChAt W w3.heap.size _ _ _ _ _ _ _)
    all_goals have HVW := aside (by rw [hW]; exact HV.out.set5 (by omega) (by have := sV0.out; omega) : ChOut w.heap.size P2.heap.size _ _ _ _ _ _ _ W _)
    all_goals have HB := aside (by rw [hW]; exact set5_below (by omega) HB1.out : Below w.heap.size w W)
    all_goals have sW : w3.heap.size < W.heap.size := by rw [hW]; exact Nat.lt_of_lt_of_le s1 (Nat.le_of_eq set5_size.symm)
    all_goals rw [← hW]
    all_goals clear hW HV HB1 HD1 HW1 HX1 s1 t0 t1 t2 t3 t4 tf bw1
    all_goals have HDc := HD.out
    all_goals obtain ⟨d0, d1, d2, d3, d4, df⟩ := HDc
    all_goals go_wp2_with fail
    all_goals refine (show_out w.heap.size ps A n c cl tu wh ch who now _ ((Sl.below HP.out HB.out).more HB.out.size)).mono ?_
    all_goals rintro e u2 ⟨hb2, v, rfl, hv⟩
    all_goals have HU := aside hv
    all_goals obtain ⟨A2, n2, c2, cl2, tu2, wh2, ch2, ps2, rfl, -, -, -, -⟩ := hv
    all_goals have z2 := hb2.size
    all_goals have HB2 := aside (HB.out.trans (hb2.mono HB.out.size))
    all_goals have HD2 := aside (HD.out.to hb2 (by omega))
    all_goals have HW2 := aside (HW.out.to hb2 (by omega))
    all_goals have HX2 := aside (HX.out.to hb2 sW)
    all_goals have HV2 := aside (HVW.out.below hb2)
    all_goals have s2 : w3.heap.size < u2.heap.size := by omega
    all_goals have sW0 := aside sW
    all_goals clear hb2 z2 sW HB HD HW HX HVW d0 d1 d2 d3 d4 df
    all_goals have HXc := HX2.out
    all_goals obtain ⟨x0, x1, x2, x3, x4, xf⟩ := HXc
    all_goals go_upto_region 23 with fail
    all_goals have hY : ∃ Y, Y = (((((u2.setCell ⟨w3.heap.size, 0, none⟩ (.slice A2 n2 c2)).setCell ⟨w3.heap.size, 1, none⟩ (.int .i64 cl2)).setCell ⟨w3.heap.size, 2, none⟩ (.int .i64 tu2)).setCell ⟨w3.heap.size, 3, none⟩ (.int .i64 wh2)).setCell ⟨w3.heap.size, 4, none⟩ (.bool ch2)) := ⟨_, rfl⟩
    all_goals obtain ⟨Y, hY⟩ := hY
    all_goals have HD := aside (by rw [hY]; exact HD2.out.set_ne (by omega) : ChAt Y w.heap.size A n c cl tu wh ch)
    all_goals have HW := aside (by rw [hY]; exact HW2.out.set_ne (by omega) : ChAt Y w2.heap.size A1 n1 c1 cl1 tu1 wh1 ch1)
    all_goals have HX := aside (by rw [hY]; exact chAt_set HX2.out.some_ HX2.out.fz : ChAt Y w3.heap.size A2 n2 c2 cl2 tu2 wh2 ch2)
    all_goals have HVY := aside (by rw [hY]; exact HV2.out.set5 (by omega) sV0.out : ChOut w.heap.size P2.heap.size _ _ _ _ _ _ _ Y _)
    all_goals have HUY := aside (by rw [hY]; exact HU.out.set5 (by omega) sW0.out : ChOut w.heap.size W.heap.size _ _ _ _ _ _ _ Y _)
    all_goals have HB := aside (by rw [hY]; exact set5_below (by omega) HB2.out : Below w.heap.size w Y)
    all_goals have sY : w3.heap.size < Y.heap.size := by rw [hY]; exact Nat.lt_of_lt_of_le s2 (Nat.le_of_eq set5_size.symm)
    all_goals rw [← hY]
    all_goals clear hY HU HB2 HD2 HW2 HX2 HV2 s2 x0 x1 x2 x3 x4 xf
    all_goals go_wp2_with fail
    all_goals refine (err_same _ _ (HG.out.grown HB.out)).mono ?_
    all_goals rintro e u3 ⟨rfl, hb3⟩
    all_goals have z3 := hb3.size
    all_goals have HB := aside (HB.out.trans (hb3.mono HB.out.size))
    all_goals have HD := aside (HD.out.to hb3 (by omega))
    all_goals have HW := aside (HW.out.to hb3 (by omega))
    all_goals have HX := aside (HX.out.to hb3 sY)
    all_goals have HV := aside (HVY.out.below hb3)
    all_goals have HU := aside (HUY.out.below hb3)
    all_goals have sV : w3.heap.size < u3.heap.size := by omega
    all_goals clear hb3 z3 sY HVY HUY sV0 sW0
    all_goals have HWc := HW.out
    all_goals have HXc := HX.out
    all_goals obtain ⟨t0, t1, t2, t3, t4, tf⟩ := HWc
    all_goals obtain ⟨x0, x1, x2, x3, x4, xf⟩ := HXc
    all_goals go_wp2_with fail
    all_goals refine (lanes_out HU.out HV.out).mono ?_
    all_goals rintro e P3 ⟨rfl, hbV⟩
    all_goals have zV := hbV.size
    all_goals have HB := aside (HB.out.trans (hbV.mono HB.out.size))
    all_goals have HD := aside (HD.out.to hbV (by omega))
    all_goals have HW := aside (HW.out.to hbV (by omega))
    all_goals have HX := aside (HX.out.to hbV sV)
    all_goals have sVN : w3.heap.size < P3.heap.size := by omega
    all_goals have sV := sVN
    all_goals clear hbV zV sVN HV HU t0 t1 t2 t3 t4 tf x0 x1 x2 x3 x4 xf
    all_goals have HDc := HD.out
    all_goals obtain ⟨d0, d1, d2, d3, d4, df⟩ := HDc
    all_goals have hpe := pair_eq
    all_goals go_wp2_with fail
    all_goals refine (final_out ps A n c cl tu wh ch now _ ((Sl.below HP.out HB.out).more HB.out.size)).mono ?_
    all_goals rintro e u1 ⟨hb1, y1, y2, rfl, e1⟩
    all_goals have z1 := hb1.size
    all_goals have HB1 := aside (HB.out.trans (hb1.mono HB.out.size))
    all_goals have HD1 := aside (HD.out.to hb1 (by omega))
    all_goals have l1 : w.heap.size < u1.heap.size := by omega
    all_goals have E1 := aside e1
    all_goals clear hb1 z1 HB HD HW HX d0 d1 d2 d3 d4 df e1
    all_goals have HDc := HD1.out
    all_goals obtain ⟨d0, d1, d2, d3, d4, df⟩ := HDc
    all_goals go_wp2_with fail
    all_goals refine (ends_out ps A n c cl tu wh ch now _ (((Sl.below HP.out HB1.out).more HB1.out.size).alloc (Nat.le_refl _) _ |>.more (by simp))).mono ?_
    all_goals rintro e u2 ⟨hb2, q1, q2, rfl, e2⟩
    all_goals have e3 := e2.trans E1.out.symm
    all_goals simp only [Prod.mk.injEq] at e3
    all_goals obtain ⟨rfl, rfl⟩ := e3
    all_goals have z2 := hb2.size
    all_goals simp only [World.size_alloc] at z2
    all_goals have r0 := (hb2.cell (p := ⟨u1.heap.size, 0, none⟩) (by simp)).trans (World.cell?_alloc_at _ _ _ _ rfl)
    all_goals have r1 := (hb2.cell (p := ⟨u1.heap.size, 1, none⟩) (by simp)).trans (World.cell?_alloc_at _ _ _ _ rfl)
    all_goals have HB2 := aside (HB1.out.trans (((Below.refl _ _).alloc HB1.out.size _).trans (hb2.mono (by have := HB1.out.size; simp; omega))))
    all_goals have l2 : u1.heap.size < u2.heap.size := by omega
    all_goals clear hb2 z2 HB1 HD1 d0 d1 d2 d3 d4 df e2 E1
    all_goals simp at r0 r1
    all_goals go_wp2_with fail
    all_goals refine (err_same _ _ (HG.out.grown (HB2.out.alloc HB2.out.size _))).mono ?_
    all_goals rintro e u3 ⟨rfl, hb3⟩
    all_goals have z3 := hb3.size
    all_goals simp only [World.size_alloc] at z3
    all_goals have f0 := (hb3.cell (p := ⟨u2.heap.size, 0, none⟩) (by simp)).trans (World.cell?_alloc_at _ _ _ _ rfl)
    all_goals have f1 := (hb3.cell (p := ⟨u2.heap.size, 1, none⟩) (by simp)).trans (World.cell?_alloc_at _ _ _ _ rfl)
    all_goals have g0 := (hb3.cell (p := ⟨u1.heap.size, 0, none⟩) (by simp; omega)).trans ((World.cell?_alloc_lt _ _ ⟨u1.heap.size, 0, none⟩ l2).trans r0)
    all_goals have g1 := (hb3.cell (p := ⟨u1.heap.size, 1, none⟩) (by simp; omega)).trans ((World.cell?_alloc_lt _ _ ⟨u1.heap.size, 1, none⟩ l2).trans r1)
    all_goals simp at f0 f1
    all_goals have HB3 := aside (HB2.out.trans (((Below.refl _ _).alloc HB2.out.size _).trans (hb3.mono (by have := HB2.out.size; simp; omega))))
    all_goals clear hb3 HB2 r0 r1
    all_goals go_wp2
    all_goals go_ret
    all_goals exact ⟨by first | rfl | simp, HB3.out⟩
end Go.Proofs.YtpkclbemgmaahaaDoor
