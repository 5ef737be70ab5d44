/- Digests: Hasher.Write onto a hasher that has taken whole blocks. Conditions: named in each theorem. -/
import Derived.Test.YtiigggbghgfdoaaDoorShaE
import Derived.Test.YtiigggbghgfdoaaDoorRoom
namespace Go.Proofs.YtiigggbghgfdoaaDoor
open Go.RowKit Go.ChangeShapes Go.WideShapes Go.ChangeAt

theorem heap8 {w : World} {b g : Nat} (h : g ≠ b) (u0 u1 u2 u3 u4 u5 u6 u7 : Nat) :
    ((((((((w.setCell ⟨b, 0, none⟩ (.int .u32 (u0 : Int))).setCell ⟨b, 1, none⟩ (.int .u32 (u1 : Int))).setCell ⟨b, 2, none⟩ (.int .u32 (u2 : Int))).setCell ⟨b, 3, none⟩ (.int .u32 (u3 : Int))).setCell ⟨b, 4, none⟩ (.int .u32 (u4 : Int))).setCell ⟨b, 5, none⟩ (.int .u32 (u5 : Int))).setCell ⟨b, 6, none⟩ (.int .u32 (u6 : Int))).setCell ⟨b, 7, none⟩ (.int .u32 (u7 : Int))).heap[g]? = w.heap[g]? := by
  simp only [Below.heap_setCell _ _ _ _ (show g ≠ (⟨b, 0, none⟩ : Addr).block from h), Below.heap_setCell _ _ _ _ (show g ≠ (⟨b, 1, none⟩ : Addr).block from h), Below.heap_setCell _ _ _ _ (show g ≠ (⟨b, 2, none⟩ : Addr).block from h), Below.heap_setCell _ _ _ _ (show g ≠ (⟨b, 3, none⟩ : Addr).block from h), Below.heap_setCell _ _ _ _ (show g ≠ (⟨b, 4, none⟩ : Addr).block from h), Below.heap_setCell _ _ _ _ (show g ≠ (⟨b, 5, none⟩ : Addr).block from h), Below.heap_setCell _ _ _ _ (show g ≠ (⟨b, 6, none⟩ : Addr).block from h), Below.heap_setCell _ _ _ _ (show g ≠ (⟨b, 7, none⟩ : Addr).block from h)]
set_option maxHeartbeats 4000000 in
set_option maxRecDepth 100000 in
theorem write_room (b : Nat) (s : List Nat) (hs : s.length = 8) (hsm : Small s) (bs : List Nat) (A : Option Addr) (n c : Nat) (G0 : Option Addr) (c0 cnt : Nat) (hcnt : cnt ≤ 1000000) (w : World) (hh : HashAt w b s (.slice G0 0 c0) cnt) (hr : RoomS w (b + 1) G0 c0) (h : YSl w b A n bs) (hn : n ≤ 1000000) (hby : ∀ x ∈ bs, x < 256) (hg : RoundsAt w) (hgb : 1 < b) :
    Calls Tryd.prog 48 #[.pointer (some ⟨b, 0, none⟩), .slice A n c] w (fun e w' => e = .returned (.tuple #[]) ∧ Below b w w' ∧ ∃ G c' v0 v1 v2 v3 v4 v5 v6 v7, blocksN s bs (n / 64) = [v0, v1, v2, v3, v4, v5, v6, v7] ∧ HashAt w' b [v0, v1, v2, v3, v4, v5, v6, v7] (.slice G (n % 64) c') ((cnt + n : Nat) : Int) ∧ YSl w' w'.heap.size G (n % 64) (bs.drop (64 * (n / 64))) ∧ RoomS w' (b + 1) G c') := by
  obtain ⟨a0, a1, a2, a3, a4, a5, a6, a7, rfl⟩ := eight hs
  obtain ⟨h8, h9, hfr⟩ := hh.w
  have f9 := hfr 9
  have f8 := hfr 8
  have e1 : IntKind.i64.wrap ((cnt : Int) + (n : Int)) = ((cnt + n : Nat) : Int) := by rw [IntKind.wrap_i64]; omega
  obtain ⟨cn, hcn⟩ : ∃ cn, cn = cnt + n := ⟨_, rfl⟩
  rw [← hcn] at e1 ⊢
  have HCn := aside hcn
  clear hcn hcnt
  go_enter Tryd.func48, Tryd.ntmps48
  have hb : b < w.heap.size := (Array.getElem?_eq_some_iff.1 hh).1
  have B1 : Below b w (w.setCell ⟨b, 9, none⟩ (.int .i64 cn)) := (Below.refl b w).setCell (show b ≤ b from Nat.le_refl b) _
  have HY := aside (Sl.below h B1)
  have HH : Hid (HashAt (w.setCell ⟨b, 9, none⟩ (.int .i64 cn)) b [a0, a1, a2, a3, a4, a5, a6, a7] (.slice G0 0 c0) cn) := aside (by
    have := heap_setCell_same w b 9 _ _ (.int .i64 cn) hh
    exact this)
  have h1 : ∀ u ∈ bs.flatMap byV, u.oneCell' = true := by
    intro u hu
    obtain ⟨x, -, hx⟩ := List.mem_flatMap.1 hu
    simp only [byV, List.mem_singleton] at hx
    rw [hx]; rfl
  have HB1 := aside B1
  have HR1 : Hid (RoomS (w.setCell ⟨b, 9, none⟩ (.int .i64 cn)) (b + 1) G0 c0) := aside (hr.keep fun g hg _ => Below.heap_setCell _ _ _ _ (show g ≠ b by omega))
  have hbN : b + 1 ≤ (w.setCell ⟨b, 9, none⟩ (.int .i64 cn)).heap.size := by
    have h9 : (w.setCell ⟨b, 9, none⟩ (.int .i64 cn)).heap.size = w.heap.size := by simp
    omega
  have H1 := aside h1
  have HHo := aside hh
  have HYo := aside h
  have HSm := aside hsm
  have HBy := aside hby
  have HG := aside hg
  have HGb := aside hgb
  clear B1 h1 hh hr h hsm hby hg hgb
  go_wp2_with (first
    | (at_builtin; refine wpList_fill rfl (.tmp 17) (.tmp 18) 49 rfl (.int .u8 0) 1 Tryd.underlying49 byteInfo rfl (b + 1) G0 c0 rfl HR1.out b A n c _ rfl HY.out H1.out (by omega) (by unfold maxLen; omega) hbN ?_; intro G cg w2 hsl hro hcg hb2; have hq : HashAt w2 b [a0, a1, a2, a3, a4, a5, a6, a7] (.slice G0 0 c0) cn := (hb2.block b (Nat.lt_succ_self b)).trans HH.out; have k8 := hq.w.1; have kf := hq.w.2.2 8; have HQ := aside hq; have HSl := aside hsl; have HRo := aside hro; have HB2 := aside hb2; clear hq hsl hro hb2)
    | fail)
  go_loopw [] (fun wr => ∃ (k m : Nat) (G' : Option Addr) (c' : Nat) (v0 v1 v2 v3 v4 v5 v6 v7 : Nat), m + 64 * k = n ∧ Hid (blocksN [a0, a1, a2, a3, a4, a5, a6, a7] bs k = [v0, v1, v2, v3, v4, v5, v6, v7]) ∧ Hid (HashAt wr b [v0, v1, v2, v3, v4, v5, v6, v7] (.slice G' m c') cn) ∧ Hid (YSl wr wr.heap.size G' m (bs.drop (64 * k))) ∧ m ≤ c' ∧ Hid (RoomS wr (b + 1) G' c') ∧ Hid (Below b w wr)) (fun wr => lenC (wr.cell? ⟨b, 8, none⟩))
  case atStart =>
    refine ⟨0, n, G, cg, a0, a1, a2, a3, a4, a5, a6, a7, by omega, aside rfl, aside (HQ.out.rest _), ?_, by omega, aside (HRo.out.keep fun g hg _ => Below.heap_setCell _ _ _ _ (show g ≠ b by omega)), aside ((HB1.out.trans (HB2.out.mono (Nat.le_succ b))).setCell (show b ≤ b from Nat.le_refl b) _)⟩
    have h0 : YSl w2 w2.heap.size G n bs := HSl.out
    exact aside ((YSl.farKeep h0 HRo.out.1 (fun p h1 h2 => far_set (show b < p.block by omega))).more (by simp))
  case round =>
    obtain ⟨k, m, G1, c1, v0, v1, v2, v3, v4, v5, v6, v7, hm, HV, HH1, HY1, hc1, HF1, HB3⟩ := hrel
    obtain ⟨⟨q0, q1, q2, q3, q4, q5, q6, q7⟩, -⟩ := HH1.out.cs
    have q8 := HH1.out.w.1
    by_cases m64 : 64 ≤ m
    · have m1 : (64 : Int) ≤ (m : Int) := by omega
      have hm64 : m ≥ 64 := m64
      have HRg : Hid (RoundsAt wr) := aside (HG.out.low HGb.out HB3.out)
      have HSv : Hid (Small [v0, v1, v2, v3, v4, v5, v6, v7]) := aside (by rw [← HV.out]; exact blocksN_small _ HSm.out _)
      have HBb : Hid (∀ x ∈ bs.drop (64 * k), x < 256) := aside (fun x hx => HBy.out x (List.mem_of_mem_drop hx))
      have HYd : Hid (YSl wr.drew wr.drew.heap.size G1 m (bs.drop (64 * k))) := aside (FSl.drewN HY1.out 1)
      have HRd : Hid (RoundsAt wr.drew) := aside HRg.out
      have hbr : b < wr.heap.size := (Array.getElem?_eq_some_iff.1 HH1.out).1
      have HL := aside (show lenC (wr.cell? ⟨b, 8, none⟩) = m by rw [q8]; rfl)
      go_wp2_with fail
      go_region_with (first
        | (refine (block_eight (bs.drop (64 * k)) G1 m c1 _ HYd.out m64 HBb.out HSv.out HRd.out).mono ?_; rintro e w' ⟨u0, u1, u2, u3, u4, u5, u6, u7, hu, rfl, hbw⟩; have hq' : HashAt w' b [v0, v1, v2, v3, v4, v5, v6, v7] (.slice G1 m c1) cn := (hbw.block b hbr).trans HH1.out; obtain ⟨⟨t0, t1, t2, t3, t4, t5, t6, t7⟩, g0, g1, g2, g3, g4, g5, g6, g7⟩ := hq'.cs)
        | fail)
      all_goals have HN := aside (HashAt.put8 ((hbw.block b hbr).trans HH1.out : HashAt w' b [v0, v1, v2, v3, v4, v5, v6, v7] (.slice G1 m c1) cn) u0 u1 u2 u3 u4 u5 u6 u7)
      all_goals have HBz := aside (below8 ((HB3.out.trans (below_drawn (Below.refl b wr) 1)).trans (hbw.mono (Nat.le_of_lt hbr))) (Nat.le_refl b) u0 u1 u2 u3 u4 u5 u6 u7)
      all_goals have HYz := aside (((YSl.farKeep HY1.out HF1.out.1 (fun p h1 h2 => (far8 (w := w') (show b < p.block by omega) u0 u1 u2 u3 u4 u5 u6 u7).trans (hbw.cell h2))).more hbw.size).more (Nat.le_of_eq (size8 w' b u0 u1 u2 u3 u4 u5 u6 u7).symm))
      all_goals have HRz := aside (HF1.out.keep (w' := ((((((((w'.setCell ⟨b, 0, none⟩ (.int .u32 (u0 : Int))).setCell ⟨b, 1, none⟩ (.int .u32 (u1 : Int))).setCell ⟨b, 2, none⟩ (.int .u32 (u2 : Int))).setCell ⟨b, 3, none⟩ (.int .u32 (u3 : Int))).setCell ⟨b, 4, none⟩ (.int .u32 (u4 : Int))).setCell ⟨b, 5, none⟩ (.int .u32 (u5 : Int))).setCell ⟨b, 6, none⟩ (.int .u32 (u6 : Int))).setCell ⟨b, 7, none⟩ (.int .u32 (u7 : Int)))) fun g hg h2 => (heap8 (w := w') (show g ≠ b by omega) u0 u1 u2 u3 u4 u5 u6 u7).trans (hbw.block g h2))
      all_goals generalize ((((((((w'.setCell ⟨b, 0, none⟩ (.int .u32 (u0 : Int))).setCell ⟨b, 1, none⟩ (.int .u32 (u1 : Int))).setCell ⟨b, 2, none⟩ (.int .u32 (u2 : Int))).setCell ⟨b, 3, none⟩ (.int .u32 (u3 : Int))).setCell ⟨b, 4, none⟩ (.int .u32 (u4 : Int))).setCell ⟨b, 5, none⟩ (.int .u32 (u5 : Int))).setCell ⟨b, 6, none⟩ (.int .u32 (u6 : Int))).setCell ⟨b, 7, none⟩ (.int .u32 (u7 : Int))) = wz at HN HBz HYz HRz ⊢
      all_goals have n8 := HN.out.w.1
      all_goals have n8f := HN.out.w.2.2 8
      all_goals have hl : (64 : Int) ≤ (c1 : Int) := by omega
      all_goals go_wp2_with fail
      all_goals refine ⟨⟨k + 1, m - 64, _, c1 - 64, u0, u1, u2, u3, u4, u5, u6, u7, by omega, aside (by show blockL (blocksN _ bs k) _ = _; rw [HV.out]; exact hu), aside (HN.out.rest _), ?_, by omega, aside ((HRz.out.shift 64 (by omega)).keep fun g hg _ => Below.heap_setCell _ _ _ _ (show g ≠ b by omega)), aside (HBz.out.setCell (show b ≤ b from Nat.le_refl b) _)⟩, ?_⟩
      all_goals first
        | (rw [← drop64]; exact aside ((YSl.farKeep (YSl.shift HYz.out m64 _ (fun h b o e => by rw [if_neg (by omega), e]; rfl)) (far_if HF1.out.1) (fun p h1 h2 => far_set (show b < p.block by omega))).more (by simp)))
        | (rw [(HN.out.rest _).w.1, HL.out]; show m - 64 < m; omega)
    · have m1 : ((64 : Int) ≤ (m : Int)) = False := by simp only [eq_iff_iff, iff_false]; omega
      obtain rfl : m = n % 64 := by omega
      obtain rfl : k = n / 64 := by omega
      go_wp2
      refine bodyPost_end (results_none rfl _ _ _) rfl ?_
      exact ⟨rfl, HB3.out, G1, c1, v0, v1, v2, v3, v4, v5, v6, v7, HV.out, HH1.out, HY1.out, HF1.out⟩
end Go.Proofs.YtiigggbghgfdoaaDoor
