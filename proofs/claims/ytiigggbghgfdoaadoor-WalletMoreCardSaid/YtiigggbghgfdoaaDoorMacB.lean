/- mac.Mac: the walk. Conditions: named in each theorem. -/
import Derived.Test.YtiigggbghgfdoaaDoorMacA
import Derived.Test.YtiigggbghgfdoaaDoorShaW
import Derived.StillTailTactics
namespace Go.Proofs.YtiigggbghgfdoaaDoor
open Go.RowKit Go.ChangeShapes Go.WideShapes Go.ChangeAt

/-- A block of bytes. -/
def BlkY (w : World) (b : Nat) (T : TypeId) (l : List Nat) : Prop := w.heap[b]? = some (.cells (rowY l) T (0, 0))
theorem BlkY.lt {w : World} {b : Nat} {T : TypeId} {l : List Nat} (h : BlkY w b T l) : b < w.heap.size := (Array.getElem?_eq_some_iff.1 h).1
theorem BlkY.below {w w' : World} {b N : Nat} {T : TypeId} {l : List Nat} (h : BlkY w b T l) (hb : Below N w w') (hN : b < N) : BlkY w' b T l := (hb.block b hN).trans h
theorem BlkY.alloc {w : World} {b : Nat} {T : TypeId} {l : List Nat} (h : BlkY w b T l) (o : Obj) : BlkY (w.alloc o) b T l := (Below.heap_alloc _ _ _ h.lt).trans h
theorem BlkY.new (w : World) (T : TypeId) (l : List Nat) : BlkY (w.alloc (.cells (rowY l) T)) w.heap.size T l := heap_alloc_new _ _
theorem rowY_get {l : List Nat} {j : Nat} (h : j < l.length) : (rowY l)[j]? = some (.int .u8 (l.getD j 0 : Nat)) := by
  simp [rowY, List.getD_eq_getElem?_getD, List.getElem?_eq_getElem h]
theorem BlkY.cell {w : World} {b : Nat} {T : TypeId} {l : List Nat} (h : BlkY w b T l) {j : Nat} (hj : j < l.length) : w.cell? ⟨b, j, none⟩ = some (.int .u8 (l.getD j 0 : Nat)) := (cell_of_row w b j _ _ _ h).trans (rowY_get hj)
theorem BlkY.fz {w : World} {b : Nat} {T : TypeId} {l : List Nat} (h : BlkY w b T l) (j : Nat) : w.frozen? ⟨b, j, none⟩ = false := frozen_of_row w b j _ T h
theorem BlkY.set {w : World} {b : Nat} {T : TypeId} {l : List Nat} (h : BlkY w b T l) (j x : Nat) : BlkY (w.setCell ⟨b, j, none⟩ (.int .u8 (x : Int))) b T (l.set j x) := by
  unfold BlkY
  rw [← rowY_set]
  exact heap_setCell_same w b j _ T _ h
theorem BlkY.other {w : World} {b : Nat} {T : TypeId} {l : List Nat} (h : BlkY w b T l) (g j : Nat) (v : Value) (hne : b ≠ g) : BlkY (w.setCell ⟨g, j, none⟩ v) b T l := (Below.heap_setCell _ ⟨g, j, none⟩ _ _ hne).trans h
theorem BlkY.sl {w : World} {b B : Nat} {T : TypeId} {l : List Nat} {n : Nat} (h : BlkY w b T l) (hl : l.length = n) (hB : b < B) : YSl w B (some ⟨b, 0, none⟩) n l :=
  YSl.of hl hB fun k hk => by rw [Nat.zero_add]; exact h.cell (by omega)
/-- 'append(v, s...)', v full: a new row. -/
theorem wpList_full {P : Program} {ops : Array Oper} {rest : List Oper} {o : Oper} {a : Act} {Q : Exit → Act → World → Prop} {w : World} {e : TypeId}
    (hgd : o.guard = none) (s x : Operand) (t : TypeId) (ho : o.op = .call { callee := .builtin .append, args := #[s, x], argTypes := #[t, t] })
    (z : Value) (bytes : Nat) (ht : P.underlying t = some (.slice e)) (hinfo : (P.info? e).map (fun i => (i.zero, i.size, i.bytes)) = some (some z, 1, bytes)) (hzs : z.cells.size = 1)
    (B1 : Nat) (A : Option Addr) (n : Nat) (xs : List Value) (hs : a.eval s = .slice A n n) (hA : Sl w B1 1 A n xs) (hn0 : 0 < n)
    (B2 : Nat) (A2 : Option Addr) (m c2 : Nat) (ys : List Value) (hx : a.eval x = .slice A2 m c2) (hy : Sl w B2 1 A2 m ys) (h1 : ∀ u ∈ ys, u.oneCell' = true) (hm0 : 0 < m)
    (hb : (n + m) * bytes ≤ 140737488355328) (hm : n + m ≤ maxLen)
    (h : ∀ A' c' w', Sl w' w'.heap.size 1 A' (n + m) (xs ++ ys) → Below w.heap.size w w' → wpList P ops Q rest (a.put o.dst (.slice A' (n + m) c')) w') :
    wpList P ops Q (o :: rest) a w := by
  obtain ⟨i0, hI, hIz, hIs, hIb⟩ := info_parts hinfo
  obtain ⟨g, og, rfl, hg, hcell⟩ := hA.cells hn0
  obtain ⟨b, off, rfl, hbb, hcell2⟩ := hy.cells hm0
  have hxl : xs.length = n := by simpa using hA.len
  have hyl : ys.length = m := by simpa using hy.len
  refine wpList_append_grows w hgd s x t ho e i0 z 1 bytes ht hI hIz hIs hIb hzs (by decide) (some ⟨g, og, none⟩) n n xs hs (fun h => by cases h) (by omega) (fun b' hb' j u hj => ?_) ⟨b, off, none⟩ m c2 ys hx (by omega) (fun j u hj => by rw [add_plain]; exact hcell2 j u hj) h1 (by omega) hm hb ?_
  · injection hb' with hb'
    rw [← hb', add_plain]
    exact hcell j u hj
  · intro v' w' hown hgr
    obtain ⟨A', c', rfl, hc1, hc2⟩ := own_slice hown
    exact h A' c' w' (Sl.own hown) ⟨hgr.os, hgr.tape, hgr.output, hgr.size, fun k hk => hgr.block k hk (by simp)⟩
theorem mac_small {v : List Nat} {bs : List Nat} {k : Nat} {a0 a1 a2 a3 a4 a5 a6 a7 : Nat} (h : blocksN v bs k = [a0, a1, a2, a3, a4, a5, a6, a7]) (hs : Small v) : Small [a0, a1, a2, a3, a4, a5, a6, a7] := by rw [← h]; exact blocksN_small bs hs k
set_option maxHeartbeats 20000000 in
set_option maxRecDepth 100000 in
theorem mac_any (ks : List Nat) (K : Option Addr) (kn kc : Nat) (ms : List Nat) (M : Option Addr) (mn mc : Nat) (w : World) (hk : YSl w w.heap.size K kn ks) (hm : YSl w w.heap.size M mn ms) (hkn : kn ≤ 64) (hmn : mn ≤ 1000) (hkb : ∀ x ∈ ks, x < 256) (hmb : ∀ x ∈ ms, x < 256) (hg : RoundsAt w) :
    Calls Tryd.prog 32 #[.slice K kn kc, .slice M mn mc] w (fun e w' => e = .returned (digV (macL ks ms)) ∧ Below w.heap.size w w') := by
  have hkl := YSl.len1 hk
  have hml := YSl.len1 hm
  have hr : 1 < w.heap.size := by
    obtain ⟨T, fr, -, h2⟩ := hg
    exact h2
  have HK := aside hk
  have HM := aside hm
  have HKl := aside hkl
  have HMl := aside hml
  have HKb := aside hkb
  have HMb := aside hmb
  have HG := aside hg
  have hknz : (kn : Int) ≤ 64 := by omega
  clear hk hm hkl hml hkb hmb hg
  go_enter Tryd.func32, Tryd.ntmps32
  go_wp2_with fail
  have B1 : Hid (Below w.heap.size w (((w.alloc (.cells (rowY (List.replicate 32 0)) 23)).alloc (.cells (rowY (List.replicate 64 0)) 85)).alloc (.cells (rowY (List.replicate 64 0)) 85))) := aside ((((Below.refl _ _).alloc (Nat.le_refl _) _).alloc (by simp) _).alloc (by simp; omega) _)
  have D0 : Hid (BlkY (((w.alloc (.cells (rowY (List.replicate 32 0)) 23)).alloc (.cells (rowY (List.replicate 64 0)) 85)).alloc (.cells (rowY (List.replicate 64 0)) 85)) w.heap.size 23 (List.replicate 32 0)) := aside (((BlkY.new w _ _).alloc _).alloc _)
  have D1 : Hid (BlkY (((w.alloc (.cells (rowY (List.replicate 32 0)) 23)).alloc (.cells (rowY (List.replicate 64 0)) 85)).alloc (.cells (rowY (List.replicate 64 0)) 85)) (w.heap.size + 1) 85 (padN 92 ks 0)) := aside (by
    rw [padN_zero]
    have h := (BlkY.new (w.alloc (.cells (rowY (List.replicate 32 0)) 23)) 85 (List.replicate 64 0)).alloc (.cells (rowY (List.replicate 64 0)) 85)
    rwa [show (w.alloc (.cells (rowY (List.replicate 32 0)) 23)).heap.size = w.heap.size + 1 by simp] at h)
  have D2 : Hid (BlkY (((w.alloc (.cells (rowY (List.replicate 32 0)) 23)).alloc (.cells (rowY (List.replicate 64 0)) 85)).alloc (.cells (rowY (List.replicate 64 0)) 85)) (w.heap.size + 1 + 1) 85 (padN 54 ks 0)) := aside (by
    rw [padN_zero]
    have h := BlkY.new ((w.alloc (.cells (rowY (List.replicate 32 0)) 23)).alloc (.cells (rowY (List.replicate 64 0)) 85)) 85 (List.replicate 64 0)
    rwa [show ((w.alloc (.cells (rowY (List.replicate 32 0)) 23)).alloc (.cells (rowY (List.replicate 64 0)) 85)).heap.size = w.heap.size + 1 + 1 by simp] at h)
  have Z1 : Hid ((((w.alloc (.cells (rowY (List.replicate 32 0)) 23)).alloc (.cells (rowY (List.replicate 64 0)) 85)).alloc (.cells (rowY (List.replicate 64 0)) 85)).heap.size = w.heap.size + 3) := aside (by simp)
  change Code.wp _ _ _ _ (((w.alloc (.cells (rowY (List.replicate 32 0)) 23)).alloc (.cells (rowY (List.replicate 64 0)) 85)).alloc (.cells (rowY (List.replicate 64 0)) 85))
  generalize (((w.alloc (.cells (rowY (List.replicate 32 0)) 23)).alloc (.cells (rowY (List.replicate 64 0)) 85)).alloc (.cells (rowY (List.replicate 64 0)) 85)) = w1 at B1 D0 D1 D2 Z1 ⊢
  obtain ⟨B0, hB0⟩ : ∃ B0, B0 = w.heap.size := ⟨_, rfl⟩
  have EB := aside hB0
  simp only [← hB0] at D0 D1 D2 Z1 ⊢
  rw [← hB0] at hr
  clear hB0
  go_loopw [18] (fun v18 wr => ∃ i : Nat, i ≤ 64 ∧ v18 = .int .i64 i ∧ Hid (BlkY wr B0 23 (List.replicate 32 0)) ∧ Hid (BlkY wr (B0 + 1) 85 (padN 92 ks i)) ∧ Hid (BlkY wr (B0 + 1 + 1) 85 (padN 54 ks i)) ∧ Hid (Below w.heap.size w wr) ∧ Hid (B0 + 3 ≤ wr.heap.size)) (fun v18 _ => 64 - (Go.RowKit.intOf v18).toNat)
  case atStart => exact ⟨0, by omega, rfl, D0, D1, D2, B1, aside (by rw [Z1.out]; exact Nat.le_refl _)⟩
  case round =>
    clear D0 D1 D2 Z1 B1
    obtain ⟨i, hi, rfl, D0, D1, D2, HB, HZ⟩ := hrel
    by_cases hi6 : i < 64
    · have i0 : (i : Int) < 64 := by omega
      have c1 := D1.out.cell (j := i) (by rw [padN_len]; omega)
      have c2 := D2.out.cell (j := i) (by rw [padN_len]; omega)
      have f1 := D1.out.fz i
      have f2 := D2.out.fz i
      have hxb : ks.getD i 0 < 256 := getD_lt HKb.out (by decide) i
      have x1 : bits .xor .u8 ((ks.getD i 0 : Nat) : Int) 92 = ((ks.getD i 0 ^^^ 92 : Nat) : Int) := u8_xor_nat _ 92 hxb (by decide)
      have x2 : bits .xor .u8 ((ks.getD i 0 : Nat) : Int) 54 = ((ks.getD i 0 ^^^ 54 : Nat) : Int) := u8_xor_nat _ 54 hxb (by decide)
      have hne : B0 + 1 + 1 ≠ B0 + 1 := by omega
      have N0 : Hid (BlkY ((wr.setCell ⟨B0 + 1, i, none⟩ (.int .u8 ((ks.getD i 0 ^^^ 92 : Nat) : Int))).setCell ⟨B0 + 1 + 1, i, none⟩ (.int .u8 ((ks.getD i 0 ^^^ 54 : Nat) : Int))) B0 23 (List.replicate 32 0)) := aside ((D0.out.other _ _ _ (by omega)).other _ _ _ (by omega))
      have N1 : Hid (BlkY ((wr.setCell ⟨B0 + 1, i, none⟩ (.int .u8 ((ks.getD i 0 ^^^ 92 : Nat) : Int))).setCell ⟨B0 + 1 + 1, i, none⟩ (.int .u8 ((ks.getD i 0 ^^^ 54 : Nat) : Int))) (B0 + 1) 85 (padN 92 ks (i + 1))) := aside (by rw [← padN_set hi6]; exact (D1.out.set i _).other _ _ _ (by omega))
      have N2 : Hid (BlkY ((wr.setCell ⟨B0 + 1, i, none⟩ (.int .u8 ((ks.getD i 0 ^^^ 92 : Nat) : Int))).setCell ⟨B0 + 1 + 1, i, none⟩ (.int .u8 ((ks.getD i 0 ^^^ 54 : Nat) : Int))) (B0 + 1 + 1) 85 (padN 54 ks (i + 1))) := aside (by rw [← padN_set hi6]; exact (D2.out.other _ _ _ (by omega)).set i _)
      have HBn : Hid (Below w.heap.size w ((wr.setCell ⟨B0 + 1, i, none⟩ (.int .u8 ((ks.getD i 0 ^^^ 92 : Nat) : Int))).setCell ⟨B0 + 1 + 1, i, none⟩ (.int .u8 ((ks.getD i 0 ^^^ 54 : Nat) : Int)))) := aside ((HB.out.setCell (p := ⟨B0 + 1, i, none⟩) (show w.heap.size ≤ B0 + 1 by rw [EB.out]; omega) _).setCell (p := ⟨B0 + 1 + 1, i, none⟩) (show w.heap.size ≤ B0 + 1 + 1 by rw [EB.out]; omega) _)
      have HZn : Hid (B0 + 3 ≤ ((wr.setCell ⟨B0 + 1, i, none⟩ (.int .u8 ((ks.getD i 0 ^^^ 92 : Nat) : Int))).setCell ⟨B0 + 1 + 1, i, none⟩ (.int .u8 ((ks.getD i 0 ^^^ 54 : Nat) : Int))).heap.size) := aside (by simpa using HZ.out)
      have c2' : (wr.setCell ⟨B0 + 1, i, none⟩ (.int .u8 ((ks.getD i 0 ^^^ 92 : Nat) : Int))).cell? ⟨B0 + 1 + 1, i, none⟩ = some (.int .u8 ((padN 54 ks i).getD i 0 : Nat)) := (D2.out.other _ _ _ hne).cell (by rw [padN_len]; omega)
      have f2' : (wr.setCell ⟨B0 + 1, i, none⟩ (.int .u8 ((ks.getD i 0 ^^^ 92 : Nat) : Int))).frozen? ⟨B0 + 1 + 1, i, none⟩ = false := (D2.out.other _ _ _ hne).fz i
      by_cases hik : i < kn
      · have ik0 : (i : Int) < (kn : Int) := by omega
        obtain ⟨b, off, hKe, hbl, hcell⟩ := YSl.at1 (Sl.below HK.out HB.out) (by omega)
        have ck := hcell i hik
        generalize ks.getD i 0 = x at *
        subst hKe
        clear hcell hbl hxb D0 D1 D2 HB HZ
        go_wp2
        exact ⟨⟨i + 1, by omega, by go_num, N0, N1, N2, HBn, HZn⟩, by simp [Go.RowKit.intOf]; omega⟩
      · have ik0 : ((i : Int) < (kn : Int)) = False := by simp only [eq_iff_iff, iff_false]; omega
        have hx0 : ks.getD i 0 = 0 := by
          rw [List.getD_eq_getElem?_getD, List.getElem?_eq_none (by have := HKl.out; omega)]
          rfl
        rw [hx0] at x1 x2 N0 N1 N2 HBn HZn c2' f2'
        clear hxb D0 D1 D2 HB HZ hx0
        go_wp2
        exact ⟨⟨i + 1, by omega, by go_num, N0, N1, N2, HBn, HZn⟩, by simp [Go.RowKit.intOf]; omega⟩
    · obtain rfl : i = 64 := by omega
      clear hi6
      have hrz : 1 < wr.heap.size := by have := HZ.out; omega
      have HGr : Hid (RoundsAt wr) := aside (HG.out.below HB.out)
      have hw0 : w.heap.size ≤ wr.heap.size := HB.out.size
      have hB2 : B0 + 1 + 1 < wr.heap.size := by have := HZ.out; omega
      have P1 := aside (padN_small (x := 92) (k := ks) (by decide) HKb.out 64)
      have P2 := aside (padN_small (x := 54) (k := ks) (by decide) HKb.out 64)
      have hin := padN_len 54 ks 64
      have HPm := aside (fun (m : List Nat) => sha_app (a := padN 54 ks 64) (m := m) hin)
      obtain ⟨I, hI⟩ : ∃ I, I = padN 54 ks 64 := ⟨_, rfl⟩
      rw [← hI] at D2 P2 HPm hin
      have HI := aside hI
      clear hI
      go_wp2_with fail
      refine (new_hash wr).mono ?_
      rintro e w2 ⟨b, rfl, hb, hh, hb2⟩
      have HB2 := aside (HB.out.trans (hb2.mono hw0))
      have HBr := aside hb2
      have HH := aside hh
      have hgb : 1 < b := by omega
      have HG2 : Hid (RoundsAt w2) := aside (HG.out.below HB2.out)
      have HY2 : Hid (YSl w2 b (some ⟨B0 + 1 + 1, 0, none⟩) 64 I) := aside ((D2.out.below hb2 hB2).sl hin (by omega))
      have hwb : w.heap.size ≤ b := by omega
      clear hh hb2
      go_wp2_with fail
      refine (write_room b startL rfl start_small I (some ⟨B0 + 1 + 1, 0, none⟩) 64 64 none 0 0 (by omega) w2 (show HashAt w2 b startL (.slice none 0 0) ((0 : Nat) : Int) from HH.out) (RoomS.nil _ _) HY2.out (by omega) P2.out HG2.out hgb).mono ?_
      rintro e w3 ⟨rfl, hb3, G, c3, v0, v1, v2, v3, v4, v5, v6, v7, hv, hh3, hy3, hr3⟩
      have HB3 : Hid (Below w.heap.size w w3) := aside (HB2.out.trans (hb3.mono hwb))
      have HBr3 : Hid (Below wr.heap.size wr w3) := aside (HBr.out.trans (hb3.mono hb))
      have HH3 : Hid (HashAt w3 b [v0, v1, v2, v3, v4, v5, v6, v7] (.slice G 0 c3) ((64 : Nat) : Int)) := aside hh3
      have HV : Hid (blocksN startL I 1 = [v0, v1, v2, v3, v4, v5, v6, v7]) := aside hv
      have HR3 := aside hr3
      have HG3 : Hid (RoundsAt w3) := aside (HG.out.below HB3.out)
      have HS3 : Hid (Small [v0, v1, v2, v3, v4, v5, v6, v7]) := aside (mac_small hv start_small)
      have HY3 : Hid (YSl w3 b M mn ms) := aside ((Sl.below HM.out HB3.out).more hwb)
      clear hb3 hh3 hy3 hr3 hv
      go_wp2_with fail
      refine (write_room b [v0, v1, v2, v3, v4, v5, v6, v7] rfl HS3.out ms M mn mc G c3 64 (by omega) w3 HH3.out HR3.out HY3.out (by omega) HMb.out HG3.out hgb).mono ?_
      rintro e w4 ⟨rfl, hb4, G4, c4, u0, u1, u2, u3, u4, u5, u6, u7, hu, hh4, hy4, hr4⟩
      have HB4 : Hid (Below w.heap.size w w4) := aside (HB3.out.trans (hb4.mono hwb))
      have HBr4 : Hid (Below wr.heap.size wr w4) := aside (HBr3.out.trans (hb4.mono hb))
      have HH4 := aside hh4
      have HU := aside hu
      have HY4 := aside hy4
      have HG4 : Hid (RoundsAt w4) := aside (HG.out.below HB4.out)
      have HS4 : Hid (Small [u0, u1, u2, u3, u4, u5, u6, u7]) := aside (mac_small hu HS3.out)
      clear hb4 hh4 hy4 hr4 hu
      go_wp2_with fail
      refine (hsum_any b u0 u1 u2 u3 u4 u5 u6 u7 HS4.out (ms.drop (64 * (mn / 64))) G4 (mn % 64) c4 (64 + mn) w4 HH4.out HY4.out (Nat.mod_lt _ (by decide)) (by omega) (fun x hx => HMb.out x (List.mem_of_mem_drop hx)) HG4.out).mono ?_
      rintro e w5 ⟨rfl, hb5⟩
      have hsh : outL (blocksN [u0, u1, u2, u3, u4, u5, u6, u7] (tailL (ms.drop (64 * (mn / 64))) (64 + mn)) ((tailL (ms.drop (64 * (mn / 64))) (64 + mn)).length / 64)) = shaL (I ++ ms) := by
        rw [HPm.out ms, HMl.out, HV.out, HU.out]
      rw [hsh]
      have HB5 : Hid (Below w.heap.size w w5) := aside (HB4.out.trans (hb5.mono HB4.out.size))
      have HBr5 : Hid (Below wr.heap.size wr w5) := aside (HBr4.out.trans (hb5.mono HBr4.out.size))
      clear hb5 hsh HH HBr HB2 HG2 HY2 HB3 HBr3 HH3 HV HR3 HG3 HS3 HY3 HB4 HBr4 HH4 HU HY4 HG4 HS4
      obtain ⟨X, hX⟩ : ∃ X, X = shaL (I ++ ms) := ⟨_, rfl⟩
      have hXl : X.length = 32 := by rw [hX]; exact shaL_len _
      have HXb : Hid (∀ x ∈ X, x < 256) := aside (by rw [hX]; exact shaL_small _)
      rw [← hX]
      have HX := aside hX
      clear hX
      have HS9 : Hid ((Tryd.prog.info? 23).map (·.size) = some (rowY X).size) := aside (by rw [rowY_size, hXl]; kernel_rfl)
      have HS8 : Hid ((rowY (List.replicate 32 0)).size = (rowY X).size) := aside (by rw [rowY_size, rowY_size, hXl]; rfl)
      have DX := aside (BlkY.new w5 23 (List.replicate 32 0))
      go_upto_region 17 with (first
        | (refine wpList_store_row rfl 23 (.tmp 11) (.tmp 46) rfl w5.heap.size (rowY X) rfl rfl 23 (rowY (List.replicate 32 0)) DX.out HS9.out HS8.out (rowY_one _) ?_)
        | fail)
      have HB6 : Hid (Below w.heap.size w ((w5.alloc (.cells (rowY (List.replicate 32 0)) 23)).setRow w5.heap.size (rowY X))) := aside (below_setRow (HB5.out.alloc HB5.out.size _) _ HB5.out.size _)
      have DX6 : Hid (BlkY ((w5.alloc (.cells (rowY (List.replicate 32 0)) 23)).setRow w5.heap.size (rowY X)) w5.heap.size 23 X) := aside (setRow_heap _ _ _ _ _ _ DX.out)
      have hB05 : B0 + 1 + 1 < w5.heap.size := Nat.lt_of_lt_of_le hB2 HBr5.out.size
      have D06 : Hid (BlkY ((w5.alloc (.cells (rowY (List.replicate 32 0)) 23)).setRow w5.heap.size (rowY X)) B0 23 (List.replicate 32 0)) := aside ((setRow_other _ _ _ _ (by omega)).trans ((D0.out.below HBr5.out (by omega)).alloc _))
      have D16 : Hid (BlkY ((w5.alloc (.cells (rowY (List.replicate 32 0)) 23)).setRow w5.heap.size (rowY X)) (B0 + 1) 85 (padN 92 ks 64)) := aside ((setRow_other _ _ _ _ (by omega)).trans ((D1.out.below HBr5.out (by omega)).alloc _))
      have Z6 : Hid (w5.heap.size < ((w5.alloc (.cells (rowY (List.replicate 32 0)) 23)).setRow w5.heap.size (rowY X)).heap.size) := aside DX6.out.lt
      change Code.wp _ _ _ _ ((w5.alloc (.cells (rowY (List.replicate 32 0)) 23)).setRow w5.heap.size (rowY X))
      generalize ((w5.alloc (.cells (rowY (List.replicate 32 0)) 23)).setRow w5.heap.size (rowY X)) = w6 at HB6 DX6 D06 D16 Z6 ⊢
      obtain ⟨bx, hbx⟩ : ∃ bx, bx = w5.heap.size := ⟨_, rfl⟩
      rw [← hbx] at DX6 Z6 hB05 ⊢
      clear hbx HB5 HBr5 DX HS9 HS8 D0 D1 D2
      go_still_tail 2, (by kernel_rfl)
      change wpList _ _ _ _ _ w6.drew
      have HB7 : Hid (Below w.heap.size w w6.drew) := aside (below_drawn HB6.out 1)
      have DX7 : Hid (BlkY w6.drew bx 23 X) := aside DX6.out
      have D07 : Hid (BlkY w6.drew B0 23 (List.replicate 32 0)) := aside D06.out
      have D17 : Hid (BlkY w6.drew (B0 + 1) 85 (padN 92 ks 64)) := aside D16.out
      generalize w6.drew = w7 at HB7 DX7 D07 D17 ⊢
      clear HB6 DX6 D06 D16 Z6
      have HO7 : Hid (YSl w7 w7.heap.size (some ⟨B0 + 1, 0, none⟩) 64 (padN 92 ks 64)) := aside (D17.out.sl (padN_len _ _ _) D17.out.lt)
      have HX7 : Hid (YSl w7 w7.heap.size (some ⟨bx, 0, none⟩) 32 X) := aside (DX7.out.sl hXl DX7.out.lt)
      have HX1 : Hid (∀ u ∈ X.flatMap byV, u.oneCell' = true) := aside (fun u hu => by
        obtain ⟨x, -, hx⟩ := List.mem_flatMap.1 hu
        simp only [byV, List.mem_singleton] at hx
        rw [hx]; rfl)
      go_wp2_with (first
        | (at_builtin; refine wpList_full rfl (.tmp 47) (.tmp 48) 49 rfl (.int .u8 0) 1 Tryd.underlying49 byteInfo rfl _ _ 64 _ rfl HO7.out (by decide) _ _ 32 _ _ rfl HX7.out HX1.out (by decide) (by decide) (by decide) ?_; intro A8 c8 w8 hs8 hb8; have HS8 := aside hs8; have HB8 := aside hb8; clear hs8 hb8)
        | fail)
      have hY8 : YSl w8 w8.heap.size A8 96 (padN 92 ks 64 ++ X) := by
        have h := HS8.out
        rw [← List.flatMap_append] at h
        exact h
      have hB8 : Below w.heap.size w w8 := HB7.out.trans (HB8.out.mono HB7.out.size)
      have hby : ∀ x ∈ padN 92 ks 64 ++ X, x < 256 := fun x hx => by
        rcases List.mem_append.1 hx with h | h
        · exact P1.out x h
        · exact HXb.out x h
      have HSh := aside (sha_any (padN 92 ks 64 ++ X) A8 96 c8 w8 hY8 (by decide) hby (HG.out.below hB8))
      have HMc : Hid (shaL (padN 92 ks 64 ++ X) = macL ks ms) := aside (by rw [HX.out, HI.out]; rfl)
      have HB8' := aside hB8
      have D08 := aside (D07.out.below HB8.out D07.out.lt)
      clear hY8 hby hB8 HS8
      refine HSh.out.mono ?_
      rintro e w9 ⟨rfl, hb9⟩
      rw [HMc.out]
      have HB9 : Hid (Below w.heap.size w w9) := aside (HB8'.out.trans (hb9.mono HB8'.out.size))
      have D09 := aside (D08.out.below hb9 D08.out.lt)
      have HS9 : Hid ((Tryd.prog.info? 23).map (·.size) = some (rowY (macL ks ms)).size) := aside (by rw [rowY_size, macL_len]; kernel_rfl)
      have HS8 : Hid ((rowY (List.replicate 32 0)).size = (rowY (macL ks ms)).size) := aside (by rw [rowY_size, rowY_size, macL_len]; rfl)
      clear hb9 HSh HMc
      go_wp2_with (first
        | (refine wpList_store_row rfl 23 (.tmp 4) (.tmp 50) rfl B0 (rowY (macL ks ms)) rfl rfl 23 (rowY (List.replicate 32 0)) D09.out HS9.out HS8.out (rowY_one _) ?_)
        | fail)
      refine bodyPost_ret (results_cell_row rfl _ _ B0 23 (rowY (macL ks ms)) (0, 0) _ rfl (setRow_heap w9 B0 _ _ _ _ D09.out) Tryd.underlying23 rfl HS9.out) rfl ?_
      refine ⟨rfl, ?_⟩
      exact below_setRow HB9.out _ (by rw [EB.out]; exact Nat.le_refl _) _
end Go.Proofs.YtiigggbghgfdoaaDoor
