/- Digests: a hasher takes bytes: the walk. Conditions: named in each theorem. -/
import Derived.Test.YtiigggbghgfdoaaDoorShaD
import Derived.Deep.RegionWith
namespace Go.Proofs.YtiigggbghgfdoaaDoor
open Go.RowKit Go.ChangeShapes Go.WideShapes Go.ChangeAt

theorem HashAt.w {w : World} {b : Nat} {a c d e f g h x : Nat} {rest : Value} {cnt : Int} (hh : HashAt w b [a, c, d, e, f, g, h, x] rest cnt) :
    w.cell? ⟨b, 8, none⟩ = some rest ∧ w.cell? ⟨b, 9, none⟩ = some (.int .i64 cnt) ∧ ∀ o, w.frozen? ⟨b, o, none⟩ = false := by
  refine ⟨?_, ?_, fun o => frozen_of_row w b o _ _ hh⟩
  · rw [cell_of_row w b 8 _ _ _ hh]; rfl
  · rw [cell_of_row w b 9 _ _ _ hh]; rfl
theorem HashAt.cs {w : World} {b : Nat} {a0 a1 a2 a3 a4 a5 a6 a7 : Nat} {rest : Value} {cnt : Int} (hh : HashAt w b [a0, a1, a2, a3, a4, a5, a6, a7] rest cnt) :
    (w.cell? ⟨b, 0, none⟩ = some (.int .u32 (a0 : Int)) ∧ w.cell? ⟨b, 1, none⟩ = some (.int .u32 (a1 : Int)) ∧ w.cell? ⟨b, 2, none⟩ = some (.int .u32 (a2 : Int)) ∧ w.cell? ⟨b, 3, none⟩ = some (.int .u32 (a3 : Int)) ∧ w.cell? ⟨b, 4, none⟩ = some (.int .u32 (a4 : Int)) ∧ w.cell? ⟨b, 5, none⟩ = some (.int .u32 (a5 : Int)) ∧ w.cell? ⟨b, 6, none⟩ = some (.int .u32 (a6 : Int)) ∧ w.cell? ⟨b, 7, none⟩ = some (.int .u32 (a7 : Int))) ∧ (w.frozen? ⟨b, 0, none⟩ = false ∧ w.frozen? ⟨b, 1, none⟩ = false ∧ w.frozen? ⟨b, 2, none⟩ = false ∧ w.frozen? ⟨b, 3, none⟩ = false ∧ w.frozen? ⟨b, 4, none⟩ = false ∧ w.frozen? ⟨b, 5, none⟩ = false ∧ w.frozen? ⟨b, 6, none⟩ = false ∧ w.frozen? ⟨b, 7, none⟩ = false) := by
  have fr := fun o => frozen_of_row w b o _ _ hh
  refine ⟨⟨?_, ?_, ?_, ?_, ?_, ?_, ?_, ?_⟩, fr 0, fr 1, fr 2, fr 3, fr 4, fr 5, fr 6, fr 7⟩
  · rw [cell_of_row w b 0 _ _ _ hh]; rfl
  · rw [cell_of_row w b 1 _ _ _ hh]; rfl
  · rw [cell_of_row w b 2 _ _ _ hh]; rfl
  · rw [cell_of_row w b 3 _ _ _ hh]; rfl
  · rw [cell_of_row w b 4 _ _ _ hh]; rfl
  · rw [cell_of_row w b 5 _ _ _ hh]; rfl
  · rw [cell_of_row w b 6 _ _ _ hh]; rfl
  · rw [cell_of_row w b 7 _ _ _ hh]; rfl
theorem HashAt.put {w : World} {b : Nat} {s : List Nat} {rest : Value} {cnt : Int} (hh : HashAt w b s rest cnt) (i x : Nat) (hi : i < s.length) : HashAt (w.setCell ⟨b, i, none⟩ (.int .u32 (x : Int))) b (s.set i x) rest cnt := by
  have h := heap_setCell_same w b i _ _ (.int .u32 (x : Int)) hh
  have e : (s.map W ++ [rest, .int .i64 cnt]).toArray.setIfInBounds i (.int .u32 (x : Int)) = ((s.set i x).map W ++ [rest, .int .i64 cnt]).toArray := by
    apply Array.ext'
    simp [hi, List.map_set, W]
  rw [e] at h
  exact h
theorem HashAt.put8 {w : World} {b : Nat} {a0 a1 a2 a3 a4 a5 a6 a7 : Nat} {rest : Value} {cnt : Int} (hh : HashAt w b [a0, a1, a2, a3, a4, a5, a6, a7] rest cnt) (u0 u1 u2 u3 u4 u5 u6 u7 : Nat) :
    HashAt ((((((((w.setCell ⟨b, 0, none⟩ (.int .u32 (u0 : Int))).setCell ⟨b, 1, none⟩ (.int .u32 (u1 : Int))).setCell ⟨b, 2, none⟩ (.int .u32 (u2 : Int))).setCell ⟨b, 3, none⟩ (.int .u32 (u3 : Int))).setCell ⟨b, 4, none⟩ (.int .u32 (u4 : Int))).setCell ⟨b, 5, none⟩ (.int .u32 (u5 : Int))).setCell ⟨b, 6, none⟩ (.int .u32 (u6 : Int))).setCell ⟨b, 7, none⟩ (.int .u32 (u7 : Int))) b [u0, u1, u2, u3, u4, u5, u6, u7] rest cnt :=
  ((((((((hh.put 0 u0 (by simp)).put 1 u1 (by simp)).put 2 u2 (by simp)).put 3 u3 (by simp)).put 4 u4 (by simp)).put 5 u5 (by simp)).put 6 u6 (by simp)).put 7 u7 (by simp))
theorem YSl.of {w : World} {B n b off : Nat} {bs : List Nat} (hl : bs.length = n) (hb : b < B) (h : ∀ k, k < n → w.cell? ⟨b, off + k, none⟩ = some (.int .u8 (bs.getD k 0 : Nat))) : YSl w B (some ⟨b, off, none⟩) n bs := by
  refine ⟨by rw [flat_len byV_len, hl], fun hn => ⟨b, off, rfl, hb, fun j u hu => ?_⟩⟩
  have hj : j < bs.length := by
    have := (List.getElem?_eq_some_iff.1 hu).1
    rw [flat_len byV_len] at this
    omega
  have e := flat_get byV_len 0 bs (k := j) (j := 0) hj (by decide)
  rw [Nat.mul_one, Nat.add_zero] at e
  rw [e] at hu
  injection hu with hu
  rw [← hu]
  exact h j (by omega)
/-- How long a slice in a cell is. -/
def lenC : Option Value → Nat
  | some (.slice _ n _) => n
  | _ => 0
theorem byteInfo : (Tryd.prog.info? 5).map (fun i => (i.zero, i.size, i.bytes)) = some (some (.int .u8 0), 1, 1) := by kernel_rfl

theorem HashAt.rest {w : World} {b : Nat} {a0 a1 a2 a3 a4 a5 a6 a7 : Nat} {rest : Value} {cnt : Int} (hh : HashAt w b [a0, a1, a2, a3, a4, a5, a6, a7] rest cnt) (v : Value) :
    HashAt (w.setCell ⟨b, 8, none⟩ v) b [a0, a1, a2, a3, a4, a5, a6, a7] v cnt := heap_setCell_same w b 8 _ _ v hh
theorem YSl.farKeep {w w' : World} {B N n : Nat} {A : Option Addr} {bs : List Nat} (h : YSl w B A n bs) (hf : Far N A) (hk : ∀ p : Addr, N ≤ p.block → p.block < B → w'.cell? p = w.cell? p) : YSl w' B A n bs :=
  ⟨Sl.len h, fun hn => by
    obtain ⟨b, off, e, hb, hc⟩ := Sl.cells h hn
    exact ⟨b, off, e, hb, fun j u hu => (hk ⟨b, off + j, none⟩ (hf _ _ _ e) hb).trans (hc j u hu)⟩⟩
theorem far_set {w : World} {b i : Nat} {v : Value} {p : Addr} (h : b < p.block) : (w.setCell ⟨b, i, none⟩ v).cell? p = w.cell? p :=
  World.cell?_setCell_other w ⟨b, i, none⟩ p v (fun e => by subst e; exact absurd h (Nat.lt_irrefl b))
theorem far8 {w : World} {b : Nat} {p : Addr} (h : b < p.block) (u0 u1 u2 u3 u4 u5 u6 u7 : Nat) :
    ((((((((w.setCell ⟨b, 0, none⟩ (.int .u32 (u0 : Int))).setCell ⟨b, 1, none⟩ (.int .u32 (u1 : Int))).setCell ⟨b, 2, none⟩ (.int .u32 (u2 : Int))).setCell ⟨b, 3, none⟩ (.int .u32 (u3 : Int))).setCell ⟨b, 4, none⟩ (.int .u32 (u4 : Int))).setCell ⟨b, 5, none⟩ (.int .u32 (u5 : Int))).setCell ⟨b, 6, none⟩ (.int .u32 (u6 : Int))).setCell ⟨b, 7, none⟩ (.int .u32 (u7 : Int))).cell? p = w.cell? p := by
  rw [far_set h, far_set h, far_set h, far_set h, far_set h, far_set h, far_set h, far_set h]
theorem below8 {B : Nat} {a w : World} {b : Nat} (hb : Below B a w) (h : B ≤ b) (u0 u1 u2 u3 u4 u5 u6 u7 : Nat) :
    Below B a ((((((((w.setCell ⟨b, 0, none⟩ (.int .u32 (u0 : Int))).setCell ⟨b, 1, none⟩ (.int .u32 (u1 : Int))).setCell ⟨b, 2, none⟩ (.int .u32 (u2 : Int))).setCell ⟨b, 3, none⟩ (.int .u32 (u3 : Int))).setCell ⟨b, 4, none⟩ (.int .u32 (u4 : Int))).setCell ⟨b, 5, none⟩ (.int .u32 (u5 : Int))).setCell ⟨b, 6, none⟩ (.int .u32 (u6 : Int))).setCell ⟨b, 7, none⟩ (.int .u32 (u7 : Int))) :=
  (((((((hb.setCell (show B ≤ b from h) _).setCell (show B ≤ b from h) _).setCell (show B ≤ b from h) _).setCell (show B ≤ b from h) _).setCell (show B ≤ b from h) _).setCell (show B ≤ b from h) _).setCell (show B ≤ b from h) _).setCell (show B ≤ b from h) _
theorem size8 (w : World) (b u0 u1 u2 u3 u4 u5 u6 u7 : Nat) :
    ((((((((w.setCell ⟨b, 0, none⟩ (.int .u32 (u0 : Int))).setCell ⟨b, 1, none⟩ (.int .u32 (u1 : Int))).setCell ⟨b, 2, none⟩ (.int .u32 (u2 : Int))).setCell ⟨b, 3, none⟩ (.int .u32 (u3 : Int))).setCell ⟨b, 4, none⟩ (.int .u32 (u4 : Int))).setCell ⟨b, 5, none⟩ (.int .u32 (u5 : Int))).setCell ⟨b, 6, none⟩ (.int .u32 (u6 : Int))).setCell ⟨b, 7, none⟩ (.int .u32 (u7 : Int))).heap.size = w.heap.size := by simp
theorem RoundsAt.low {w w' : World} {B : Nat} (h : RoundsAt w) (hl : 1 < B) (hb : Below B w w') : RoundsAt w' := by
  obtain ⟨T, fr, h1, h2⟩ := h
  exact ⟨T, fr, (hb.block _ hl).trans h1, Nat.lt_of_lt_of_le h2 hb.size⟩
theorem getD_drop (bs : List Nat) (a k : Nat) : (bs.drop a).getD k 0 = bs.getD (a + k) 0 := by simp [List.getD_eq_getElem?_getD]
/-- The slice without its first 64 bytes. -/
theorem YSl.shift {w : World} {B m : Nat} {G : Option Addr} {bs : List Nat} (h : YSl w B G m bs) (hm : 64 ≤ m) (G' : Option Addr) (hG : 64 < m → ∀ b o, G = some ⟨b, o, none⟩ → G' = some ⟨b, o + 64, none⟩) : YSl w B G' (m - 64) (bs.drop 64) := by
  have hl := YSl.len1 h
  by_cases h0 : m = 64
  · have e : bs.drop 64 = [] := by simp; omega
    rw [e, h0]
    exact Sl.nil_
  · obtain ⟨b, off, rfl, hb, hc⟩ := YSl.at1 h (by omega)
    rw [hG (by omega) b off rfl]
    refine YSl.of (by simp; omega) hb fun k hk => ?_
    rw [getD_drop, show off + 64 + k = off + (64 + k) by omega]
    exact hc (64 + k) (by omega)

theorem far_if {N c : Nat} {G : Option Addr} (h : Far N G) : Far N (if c = 64 then G else Option.map (fun x => (⟨x.block, x.off + 64, none⟩ : Addr)) G) := by
  split
  · exact h
  · rintro b o s e
    cases G with
    | none => simp at e
    | some g =>
      simp only [Option.map_some, Option.some.injEq, Addr.mk.injEq] at e
      exact e.1 ▸ h g.block g.off g.spot rfl
theorem drop64 (bs : List Nat) (k : Nat) : (bs.drop (64 * k)).drop 64 = bs.drop (64 * (k + 1)) := by
  rw [List.drop_drop, Nat.mul_add, Nat.mul_one]

set_option maxHeartbeats 4000000 in
set_option maxRecDepth 100000 in
theorem write_any (b : Nat) (s : List Nat) (hs : s.length = 8) (hsm : Small s) (bs : List Nat) (A : Option Addr) (n c : Nat) (w : World) (hh : HashAt w b s (.slice none 0 0) 0) (h : YSl w b A n bs) (hn : n ≤ 1000000) (hby : ∀ x ∈ bs, x < 256) (hg : RoundsAt w) (hgb : 1 < b) :
    Calls Tryd.prog 48 #[.pointer (some ⟨b, 0, none⟩), .slice A n c] w (fun e w' => e = .returned (.tuple #[]) ∧ Below b w w' ∧ ∃ G c' v0 v1 v2 v3 v4 v5 v6 v7, blocksN s bs (n / 64) = [v0, v1, v2, v3, v4, v5, v6, v7] ∧ HashAt w' b [v0, v1, v2, v3, v4, v5, v6, v7] (.slice G (n % 64) c') n ∧ YSl w' w'.heap.size G (n % 64) (bs.drop (64 * (n / 64)))) := by
  obtain ⟨a0, a1, a2, a3, a4, a5, a6, a7, rfl⟩ := eight hs
  obtain ⟨h8, h9, hfr⟩ := hh.w
  have f9 := hfr 9
  have f8 := hfr 8
  have e1 : IntKind.i64.wrap ((n : Int)) = (n : Int) := by rw [IntKind.wrap_i64]; omega
  go_enter Tryd.func48, Tryd.ntmps48
  have hb : b < w.heap.size := (Array.getElem?_eq_some_iff.1 hh).1
  have B1 : Below b w (w.setCell ⟨b, 9, none⟩ (.int .i64 n)) := (Below.refl b w).setCell (show b ≤ b from Nat.le_refl b) _
  have HY := aside (Sl.below h B1)
  have HH : Hid (HashAt (w.setCell ⟨b, 9, none⟩ (.int .i64 n)) b [a0, a1, a2, a3, a4, a5, a6, a7] (.slice none 0 0) n) := aside (by
    have := heap_setCell_same w b 9 _ _ (.int .i64 n) hh
    exact this)
  have h1 : ∀ u ∈ bs.flatMap byV, u.oneCell' = true := by
    intro u hu
    obtain ⟨x, -, hx⟩ := List.mem_flatMap.1 hu
    simp only [byV, List.mem_singleton] at hx
    rw [hx]; rfl
  have HB1 := aside B1
  have H1 := aside h1
  have HHo := aside hh
  have HYo := aside h
  have HSm := aside hsm
  have HBy := aside hby
  have HG := aside hg
  have HGb := aside hgb
  clear B1 h1 hh h hsm hby hg hgb
  go_wp2_with (first
    | (at_builtin; refine wpList_concat rfl (.tmp 17) (.tmp 18) 49 rfl w.heap.size (.int .u8 0) 1 1 Tryd.underlying49 byteInfo rfl (by decide) _ 0 [] rfl (⟨by simp, .inl ⟨rfl, rfl⟩⟩) b A n c _ rfl HY.out H1.out (by omega) (by unfold maxLen; omega) (by simp) ?_; intro G cg w2 hc2 hc2' hown hb2 hg2; simp only [Nat.zero_add, List.nil_append] at hown; have hq : HashAt w2 b [a0, a1, a2, a3, a4, a5, a6, a7] (.slice none 0 0) n := (hb2.block b hb).trans HH.out; have k8 := hq.w.1; have kf := hq.w.2.2 8; have HQ := aside hq; have HO := aside hown; have HB2 := aside hb2; clear hq hown hb2 hg2)
    | fail)
  go_loopw [] (fun wr => ∃ (k m : Nat) (G' : Option Addr) (c' : Nat) (v0 v1 v2 v3 v4 v5 v6 v7 : Nat), m + 64 * k = n ∧ Hid (blocksN [a0, a1, a2, a3, a4, a5, a6, a7] bs k = [v0, v1, v2, v3, v4, v5, v6, v7]) ∧ Hid (HashAt wr b [v0, v1, v2, v3, v4, v5, v6, v7] (.slice G' m c') n) ∧ Hid (YSl wr wr.heap.size G' m (bs.drop (64 * k))) ∧ m ≤ c' ∧ Hid (Far w.heap.size G') ∧ Hid (Below b w wr)) (fun wr => lenC (wr.cell? ⟨b, 8, none⟩))
  case atStart =>
    refine ⟨0, n, G, cg, a0, a1, a2, a3, a4, a5, a6, a7, by omega, aside rfl, aside (HQ.out.rest _), ?_, by omega, aside (far_own HO.out), aside ((HB1.out.trans (HB2.out.mono (Nat.le_of_lt hb))).setCell (show b ≤ b from Nat.le_refl b) _)⟩
    have h0 : YSl w2 w2.heap.size G n bs := Sl.own HO.out
    exact aside ((YSl.farKeep h0 (far_own HO.out) (fun p h1 h2 => far_set (show b < p.block by omega))).more (by simp))
  case round =>
    obtain ⟨k, m, G1, c1, v0, v1, v2, v3, v4, v5, v6, v7, hm, HV, HH1, HY1, hc1, HF1, HB3⟩ := hrel
    obtain ⟨⟨q0, q1, q2, q3, q4, q5, q6, q7⟩, -⟩ := HH1.out.cs
    have q8 := HH1.out.w.1
    by_cases m64 : 64 ≤ m
    · have m1 : (64 : Int) ≤ (m : Int) := by omega
      have hm64 : m ≥ 64 := m64
      have HRg : Hid (RoundsAt wr) := aside (HG.out.low HGb.out HB3.out)
      have HSv : Hid (Small [v0, v1, v2, v3, v4, v5, v6, v7]) := aside (by rw [← HV.out]; exact blocksN_small _ HSm.out _)
      have HBb : Hid (∀ x ∈ bs.drop (64 * k), x < 256) := aside (fun x hx => HBy.out x (List.mem_of_mem_drop hx))
      have HYd : Hid (YSl wr.drew wr.drew.heap.size G1 m (bs.drop (64 * k))) := aside (FSl.drewN HY1.out 1)
      have HRd : Hid (RoundsAt wr.drew) := aside HRg.out
      have hbr : b < wr.heap.size := (Array.getElem?_eq_some_iff.1 HH1.out).1
      have HL := aside (show lenC (wr.cell? ⟨b, 8, none⟩) = m by rw [q8]; rfl)
      go_wp2_with fail
      go_region_with (first
        | (refine (block_eight (bs.drop (64 * k)) G1 m c1 _ HYd.out m64 HBb.out HSv.out HRd.out).mono ?_; rintro e w' ⟨u0, u1, u2, u3, u4, u5, u6, u7, hu, rfl, hbw⟩; have hq' : HashAt w' b [v0, v1, v2, v3, v4, v5, v6, v7] (.slice G1 m c1) n := (hbw.block b hbr).trans HH1.out; obtain ⟨⟨t0, t1, t2, t3, t4, t5, t6, t7⟩, g0, g1, g2, g3, g4, g5, g6, g7⟩ := hq'.cs)
        | fail)
      all_goals have HN := aside (HashAt.put8 ((hbw.block b hbr).trans HH1.out : HashAt w' b [v0, v1, v2, v3, v4, v5, v6, v7] (.slice G1 m c1) n) u0 u1 u2 u3 u4 u5 u6 u7)
      all_goals have HBz := aside (below8 ((HB3.out.trans (below_drawn (Below.refl b wr) 1)).trans (hbw.mono (Nat.le_of_lt hbr))) (Nat.le_refl b) u0 u1 u2 u3 u4 u5 u6 u7)
      all_goals have HYz := aside (((YSl.farKeep HY1.out HF1.out (fun p h1 h2 => (far8 (w := w') (show b < p.block by omega) u0 u1 u2 u3 u4 u5 u6 u7).trans (hbw.cell h2))).more hbw.size).more (Nat.le_of_eq (size8 w' b u0 u1 u2 u3 u4 u5 u6 u7).symm))
      all_goals generalize ((((((((w'.setCell ⟨b, 0, none⟩ (.int .u32 (u0 : Int))).setCell ⟨b, 1, none⟩ (.int .u32 (u1 : Int))).setCell ⟨b, 2, none⟩ (.int .u32 (u2 : Int))).setCell ⟨b, 3, none⟩ (.int .u32 (u3 : Int))).setCell ⟨b, 4, none⟩ (.int .u32 (u4 : Int))).setCell ⟨b, 5, none⟩ (.int .u32 (u5 : Int))).setCell ⟨b, 6, none⟩ (.int .u32 (u6 : Int))).setCell ⟨b, 7, none⟩ (.int .u32 (u7 : Int))) = wz at HN HBz HYz ⊢
      all_goals have n8 := HN.out.w.1
      all_goals have n8f := HN.out.w.2.2 8
      all_goals have hl : (64 : Int) ≤ (c1 : Int) := by omega
      all_goals go_wp2_with fail
      all_goals refine ⟨⟨k + 1, m - 64, _, c1 - 64, u0, u1, u2, u3, u4, u5, u6, u7, by omega, aside (by show blockL (blocksN _ bs k) _ = _; rw [HV.out]; exact hu), aside (HN.out.rest _), ?_, by omega, aside (far_if HF1.out), aside (HBz.out.setCell (show b ≤ b from Nat.le_refl b) _)⟩, ?_⟩
      all_goals first
        | (rw [← drop64]; exact aside ((YSl.farKeep (YSl.shift HYz.out m64 _ (fun h b o e => by rw [if_neg (by omega), e]; rfl)) (far_if HF1.out) (fun p h1 h2 => far_set (show b < p.block by omega))).more (by simp)))
        | (rw [(HN.out.rest _).w.1, HL.out]; show m - 64 < m; omega)
    · have m1 : ((64 : Int) ≤ (m : Int)) = False := by simp only [eq_iff_iff, iff_false]; omega
      obtain rfl : m = n % 64 := by omega
      obtain rfl : k = n / 64 := by omega
      go_wp2
      refine bodyPost_end (results_none rfl _ _ _) rfl ?_
      exact ⟨rfl, HB3.out, G1, c1, v0, v1, v2, v3, v4, v5, v6, v7, HV.out, HH1.out, HY1.out⟩
end Go.Proofs.YtiigggbghgfdoaaDoor
