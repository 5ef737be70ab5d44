/- The reference's digests: plain law: the document's way comes to the same digest. Conditions: named in each theorem. The reference's digests: the digest of bytes: the walk. Conditions: named in each theorem. -/
import Derived.Test.YtbpabjhcjffkmaaGreatDoorRefC
import Derived.Test.YtbpabjhcjffkmaaGreatDoorShaG
/- The reference's digests: plain law: the document's way comes to the same digest. Conditions: named in each theorem. -/
namespace Go.Proofs.YtbpabjhcjffkmaaGreatDoor
open Go.RowKit Go.ChangeShapes Go.WideShapes Go.ChangeAt

theorem firstW_congr {bs cs : List Nat} (h : ∀ j, j < 64 → bs.getD j 0 = cs.getD j 0) : ∀ k, k ≤ 16 → firstW bs k = firstW cs k
 | 0, _ => rfl
 | k + 1, hk => by
  rw [firstW, firstW, firstW_congr h k (by omega), h (4 * k) (by omega), h (4 * k + 1) (by omega), h (4 * k + 2) (by omega), h (4 * k + 3) (by omega)]
theorem moreW_congr {bs cs : List Nat} (h : ∀ j, j < 64 → bs.getD j 0 = cs.getD j 0) : ∀ k, moreW bs k = moreW cs k
 | 0 => firstW_congr h 16 (Nat.le_refl _)
 | k + 1 => by rw [moreW, moreW, moreW_congr h k]
theorem roundsN_congr {bs cs : List Nat} (s : List Nat) (h : ∀ j, j < 64 → bs.getD j 0 = cs.getD j 0) : ∀ k, roundsN s bs k = roundsN s cs k
 | 0 => rfl
 | k + 1 => by rw [roundsN, roundsN, roundsN_congr s h k, moreW_congr h 48]
theorem blockL_congr {bs cs : List Nat} (s : List Nat) (h : ∀ j, j < 64 → bs.getD j 0 = cs.getD j 0) : blockL s bs = blockL s cs := by
 unfold blockL
 rw [roundsN_congr s h 64]
theorem blocksN_split (s T : List Nat) (p : Nat) : ∀ q, blocksN s T (p + q) = blocksN (blocksN s T p) (T.drop (64 * p)) q
 | 0 => rfl
 | q + 1 => by
  rw [← Nat.add_assoc, blocksN, blocksN_split s T p q, blocksN, List.drop_drop]
  congr 2
  omega
theorem blocksN_front (s bs more : List Nat) : ∀ p, 64 * p ≤ bs.length → blocksN s (bs ++ more) p = blocksN s bs p
 | 0, _ => rfl
 | p + 1, hp => by
  rw [blocksN, blocksN, blocksN_front s bs more p (by omega)]
  refine blockL_congr _ fun j hj => ?_
  rw [List.getD_eq_getElem?_getD, List.getD_eq_getElem?_getD, List.getElem?_drop, List.getElem?_drop, List.getElem?_append_left (by omega)]
/-- All that is digested. -/
def wholeL (bs : List Nat) : List Nat := bs ++ [128] ++ List.replicate (zerosOf bs.length) 0 ++ longL bs.length
theorem wholeL_len (bs : List Nat) : (wholeL bs).length = bs.length + 1 + zerosOf bs.length + 8 := by simp [wholeL, longL]; omega
theorem wholeL_mod (bs : List Nat) : (wholeL bs).length % 64 = 0 := by
 rw [wholeL_len]
 have := zeros_mod bs.length
 omega
theorem wholeL_small {bs : List Nat} (h : ∀ x ∈ bs, x < 256) : ∀ x ∈ wholeL bs, x < 256 := tailL_small bs.length h
theorem shaL_whole (bs : List Nat) : outL (blocksN startL (wholeL bs) ((wholeL bs).length / 64)) = shaL bs := by
 obtain ⟨p, hp⟩ : ∃ p, p = bs.length / 64 := ⟨_, rfl⟩
 have hr : (bs.drop (64 * p)).length = bs.length - 64 * p := by simp
 have hz : zerosOf (bs.drop (64 * p)).length = zerosOf bs.length := by
  rw [hr]
  unfold zerosOf
  omega
 have ht : (wholeL bs).drop (64 * p) = tailL (bs.drop (64 * p)) bs.length := by
  unfold wholeL tailL
  rw [hz, List.append_assoc, List.append_assoc, List.drop_append_of_le_length (by omega), ← List.append_assoc, ← List.append_assoc]
 have hl : (wholeL bs).length / 64 = p + (tailL (bs.drop (64 * p)) bs.length).length / 64 := by
  rw [← ht, List.length_drop]
  have := wholeL_mod bs
  have := wholeL_len bs
  omega
 have hf : blocksN startL (wholeL bs) p = blocksN startL bs p := by
  unfold wholeL
  rw [List.append_assoc, List.append_assoc]
  exact blocksN_front _ _ _ p (by omega)
 unfold shaL
 rw [← hp, hl, blocksN_split, hf, ht]
theorem putL_long {n : Nat} (h : n ≤ 1000000) : putL (n * 8) 8 = longL n := by
 have e : n * 8 % 18446744073709551616 = n * 8 := Nat.mod_eq_of_lt (by omega)
 unfold longL
 rw [e]
 unfold putL putK
 simp [List.range, List.range.loop]
end Go.Proofs.YtbpabjhcjffkmaaGreatDoor

/- The reference's digests: the digest of bytes: the walk. Conditions: named in each theorem. -/
namespace Go.Proofs.YtbpabjhcjffkmaaGreatDoor
open Go.RowKit Go.ChangeShapes Go.WideShapes Go.ChangeAt

theorem ones (bs : List Nat) : ∀ u ∈ bs.flatMap byV, u.oneCell' = true := by
 intro u hu
 obtain ⟨x, -, hx⟩ := List.mem_flatMap.1 hu
 simp only [byV, List.mem_singleton] at hx
 rw [hx]; rfl
theorem yrow_concat {w : World} {base : Nat} {v : Value} {n m : Nat} {bs cs : List Nat} (hm : m = n) (h : w.ownsRow base 5 1 v n (bs.flatMap byV ++ cs.flatMap byV)) : YRow w base v m (bs ++ cs) := by
 subst hm
 unfold YRow
 rw [List.flatMap_append]
 exact h
set_option maxHeartbeats 4000000 in
set_option maxRecDepth 100000 in
theorem rsum_any (bs : List Nat) (A : Option Addr) (n c : Nat) (w : World) (h : YSl w w.heap.size A n bs) (hn : n ≤ 1000000) (hby : ∀ x ∈ bs, x < 256) :
  Calls Tryz.prog 22 #[.slice A n c] w (fun e w' => e = .returned (digV (shaL bs)) ∧ Below w.heap.size w w') := by
 have hlen := YSl.len1 h
 have HY := aside h
 have HBy := aside hby
 have H1 := aside (ones bs)
 clear h hby
 go_enter Tryz.func22, Tryz.ntmps22
 go_upto_region 1 with fail
 have B1 : Hid (Below w.heap.size w (w.alloc (.cells (rowY (List.replicate 32 0)) 23))) := aside ((Below.refl _ _).alloc (Nat.le_refl _) _)
 have D1 : Hid ((w.alloc (.cells (rowY (List.replicate 32 0)) 23)).heap[w.heap.size]? = some (.cells (rowY (List.replicate 32 0)) 23 (0, 0))) := aside (heap_alloc_new _ _)
 have Hz1 : Hid ((w.alloc (.cells (rowY (List.replicate 32 0)) 23)).heap.size = w.heap.size + 1) := aside (by simp)
 obtain ⟨B0, hB0⟩ : ∃ B0, B0 = w.heap.size := ⟨_, rfl⟩
 have EB := aside hB0
 change Code.wp _ _ _ _ (w.alloc (.cells (rowY (List.replicate 32 0)) 23))
 simp only [← hB0] at D1 Hz1 B1 HY ⊢
 generalize w.alloc (.cells (rowY (List.replicate 32 0)) 23) = w1 at B1 D1 Hz1 ⊢
 have HY1 : Hid (YSl w1 B0 A n bs) := aside (Sl.below HY.out B1.out)
 clear hB0
 go_upto_region 2 with (first
  | (at_builtin; refine wpList_concat rfl (.tmp 11) (.tmp 12) 67 rfl w1.heap.size (.int .u8 0) 1 1 Tryz.underlying67 byteInfo rfl (by decide) _ 0 [] rfl ⟨rfl, .inr ⟨w1.heap.size, 0, #[], rfl, Nat.le_refl _, heap_alloc_new _ _, Nat.le_refl _, Nat.zero_le _, rfl, rfl⟩⟩ B0 A n c _ rfl (Sl.alloc HY1.out (by have := Hz1.out; omega) _) H1.out (by omega) (by unfold maxLen; omega) (by simp) ?_; intro G2 c2 w2 hc2 hc2' hown hb2 hg2; simp only [Nat.zero_add, List.nil_append] at hown hc2; have HO2 := aside hown; have HB2 : Hid (Below w1.heap.size w1 w2) := aside (((Below.refl _ _).alloc (Nat.le_refl _) _).trans hb2); clear hown hb2 hg2)
  | (at_builtin; refine wpList_push rfl (.tmp 13) (.tmp 14) 67 rfl w1.heap.size (.int .u8 0) 1 1 Tryz.underlying67 byteInfo rfl (by decide) _ n _ rfl rfl rfl (by decide) HO2.out (by omega) (by unfold maxLen; omega) HB2.out.size ?_; intro G3 c3 w3 hc3 hc3' hown hb3 hz3 hg3; have HO3 : Hid (YRow w3 w1.heap.size (.slice G3 (n + 1) c3) (n + 1) (bs ++ [128])) := aside (YRow.push rfl rfl hown); have HB3 := aside (HB2.out.trans hb3); clear hown hb3 hg3 hz3)
  | fail)
 have hz : zerosOf n < 64 := by unfold zerosOf; omega
 clear HO2 HB2
 go_loopw [3] (fun v3 wr => ∃ (k m : Nat) (A : Option Addr) (c : Nat), m = n + 1 + k ∧ k ≤ zerosOf n ∧ v3 = .slice A m c ∧ m ≤ c ∧ Hid (YRow wr w1.heap.size (.slice A m c) m (bs ++ [128] ++ List.replicate k 0)) ∧ Hid (Below w1.heap.size w1 wr)) (fun v3 _ => n + 1 + zerosOf n - lenV v3)
 case atStart => exact ⟨0, n + 1, G3, c3, by omega, by omega, rfl, by omega, aside (by simpa using HO3.out), HB3⟩
 case round =>
  clear HO3 HB3 hc3 hc3'
  obtain ⟨k, m, G4, c4, hm, hk, rfl, hc4, HO4, HB4⟩ := hrel
  by_cases k1 : k < zerosOf n
  ·have e1 : (((m : Int) % 64) != 56) = true := by
    have := zeros_not k1
    simp only [bne_iff_ne, ne_eq]
    omega
   have hm1 : m ≤ 1000070 := by omega
   have Hm := aside hm
   clear hm
   go_wp2_with (first
    | (at_builtin; refine wpList_push rfl (.tmp 20) (.tmp 21) 67 rfl w1.heap.size (.int .u8 0) 1 1 Tryz.underlying67 byteInfo rfl (by decide) _ m _ rfl rfl rfl (by decide) HO4.out (by omega) (by unfold maxLen; omega) HB4.out.size ?_; intro G5 c5 w5 hc5 hc5' hown hb5 hz5 hg5; have HO5 : Hid (YRow w5 w1.heap.size (.slice G5 (m + 1) c5) (m + 1) (bs ++ [128] ++ List.replicate k 0 ++ [0])) := aside (YRow.push rfl rfl hown); have HB5 := aside (HB4.out.trans hb5); clear hown hb5 hg5 hz5)
    | fail)
   have hm := Hm.out
   refine ⟨⟨k + 1, m + 1, G5, c5, by omega, by omega, rfl, hc5, aside ?_, HB5⟩, by show n + 1 + zerosOf n - (m + 1) < n + 1 + zerosOf n - m; omega⟩
   rw [List.replicate_succ', ← List.append_assoc]
   exact HO5.out
  ·obtain rfl : k = zerosOf n := by omega
   have e1 : (((m : Int) % 64) != 56) = false := by
    have := zeros_mod n
    simp only [bne_eq_false_iff_eq]
    omega
   have HT : Hid (YRow wr w1.heap.size (.slice G4 m c4) m (bs ++ [128] ++ List.replicate (zerosOf bs.length) 0)) := aside (by rw [hlen]; exact HO4.out)
   have hm1 : m ≤ 1000070 := by omega
   have hm8 : (m + 8) % 64 = 0 := by
    have := zeros_mod n
    omega
   have Hm := aside hm
   have e8 : IntKind.i64.wrap ((n : Int) * 8) = ((n * 8 : Nat) : Int) := by rw [IntKind.wrap_i64]; omega
   obtain ⟨n8, hn8⟩ : ∃ n8, n8 = n * 8 := ⟨_, rfl⟩
   rw [← hn8] at e8
   have HL : Hid (putL n8 8 = longL n) := aside (by rw [hn8]; exact putL_long hn)
   have l8 : n8 < 9223372036854775808 := by omega
   clear hm k1 hk HO4 hn8
   go_upto_region 5 with (first
    | (go_at_call 46; refine (put_any n8 8 l8 (by decide) _).mono ?_; rintro e w4 ⟨rfl, hr4, hb4, hz4⟩)
    | fail)
   rw [HL.out] at hr4
   have HYl : Hid (YSl w4 w4.heap.size (some ⟨wr.heap.size, 0, none⟩) 8 (longL n)) := aside (RowY.ysl hr4)
   have HT4 : Hid (YRow w4 w1.heap.size (.slice G4 m c4) m (bs ++ [128] ++ List.replicate (zerosOf bs.length) 0)) := aside (own_below HT.out hb4)
   have HB4' : Hid (Below w1.heap.size w1 w4) := aside (HB4.out.trans (hb4.mono HB4.out.size))
   clear HT HB4 hr4 hb4 hz4 e8
   have H2 := aside (ones (longL n))
   go_upto_region 6 with (first
    | (at_builtin; refine wpList_concat rfl (.tmp 30) (.tmp 31) 67 rfl w1.heap.size (.int .u8 0) 1 1 Tryz.underlying67 byteInfo rfl (by decide) _ m _ rfl HT4.out w4.heap.size _ 8 8 _ rfl HYl.out H2.out (by omega) (by unfold maxLen; omega) HB4'.out.size ?_; intro G5 c5 w5 hc5 hc5' hown hb5 hg5; have HO5 : Hid (YRow w5 w1.heap.size (.slice G5 (m + 8) c5) (m + 8) (wholeL bs)) := aside (by unfold wholeL; rw [← hlen] at hown; exact yrow_concat rfl hown); have HB5 := aside (HB4'.out.trans hb5); clear hown hb5 hg5)
    | fail)
   obtain ⟨M, hM⟩ : ∃ M, M = m + 8 := ⟨_, rfl⟩
   rw [← hM] at hm8 HO5 hc5 ⊢
   have hMl : M ≤ 1000078 := by omega
   have HTl : Hid ((wholeL bs).length = M) := aside (by have := HO5.out.1; simp [byV] at this; have h2 := YSl.len1 (Sl.own HO5.out); omega)
   have HTs : Hid (∀ x ∈ wholeL bs, x < 256) := aside (wholeL_small HBy.out)
   have R6 : Hid (RowI (w5.alloc (.cells (rowI startL) 3)) w5.heap.size 3 startL) := aside (RowI.new _ _ _)
   have B6 : Hid (Below w5.heap.size w5 (w5.alloc (.cells (rowI startL) 3))) := aside ((Below.refl _ _).alloc (Nat.le_refl _) _)
   have Z6 : Hid ((w5.alloc (.cells (rowI startL) 3)).heap.size = w5.heap.size + 1) := aside (by simp)
   clear HT4 HB4' HYl H2 hM Hm HL l8 hm1
   go_upto_region 7 with fail
   change Code.wp _ _ _ _ (w5.alloc (.cells (rowI startL) 3))
   generalize w5.alloc (.cells (rowI startL) 3) = w6 at R6 B6 Z6 ⊢
   go_upto_region 8 with (first
    | (go_at_call 47; refine (rounds_any _).mono ?_; rintro e w7 ⟨rfl, hr7, hb7⟩)
    | fail)
   have HK7 : Hid (VSl w7 w7.heap.size (some ⟨w6.heap.size, 0, none⟩) 64 roundK) := aside (RowI.sl hr7)
   have R7 : Hid (RowI w7 w5.heap.size 3 startL) := aside (RowI.below R6.out hb7 (by have := Z6.out; omega))
   have H57 := B6.out.trans (hb7.mono B6.out.size)
   have HY7 : Hid (YSl w7 w7.heap.size G5 M (wholeL bs)) := aside (Sl.more (Sl.below (Sl.own HO5.out) H57) H57.size)
   have HB7 : Hid (Below w1.heap.size w1 w7) := aside (HB5.out.trans (H57.mono HB5.out.size))
   have HS5 : Hid (w5.heap.size < w7.heap.size) := aside (by have := hb7.size; have := Z6.out; omega)
   obtain ⟨hb0, hhb0⟩ : ∃ hb0, hb0 = w5.heap.size := ⟨_, rfl⟩
   rw [← hhb0] at R7 HS5 ⊢
   obtain ⟨kb, hkb⟩ : ∃ kb, kb = w6.heap.size := ⟨_, rfl⟩
   rw [← hkb] at HK7 ⊢
   have HWl : Hid (hb0 < w7.heap.size) := HS5
   clear hr7 hb7 H57 R6 B6 Z6 HO5 HB5 hhb0 hkb
   have hc5M : c5 ≤ 9223372036854775807 := by unfold maxLen at hc5'; omega
   have hM9 : 9 ≤ M := by have := HTl.out; rw [wholeL_len] at this; omega
   obtain ⟨gb, go, rfl, hgb, -⟩ := YSl.at1 HY7.out (by omega)
   go_wp2_with fail
   go_loopw [6, 8] (fun v6 v8 wr => ∃ (k hb hc : Nat), 64 * k ≤ M ∧ v8 = .int .i64 (64 * k : Nat) ∧ v6 = .slice (some ⟨hb, 0, none⟩) 8 hc ∧ Hid (RowI wr hb 3 (blocksN startL (wholeL bs) k)) ∧ Hid (Below w7.heap.size w7 wr)) (fun _ v8 _ => M - (Go.RowKit.intOf v8).toNat)
   case atStart => exact ⟨0, hb0, 8, by omega, rfl, rfl, R7, aside (Below.refl _ _)⟩
   case round =>
    clear R7
    obtain ⟨k, hb, hc, hk, rfl, rfl, HR, HB⟩ := hrel
    by_cases k1 : 64 * k < M
    ·obtain ⟨j, hj⟩ : ∃ j, j = 64 * k := ⟨_, rfl⟩
     have HF : Hid (blocksN startL (wholeL bs) (k + 1) = blockL (blocksN startL (wholeL bs) k) ((wholeL bs).drop j)) := aside (by rw [hj]; rfl)
     have hj64 : j + 64 ≤ M := by omega
     have HJ := aside hj
     rw [← hj]
     have j1 : (j : Int) < (M : Int) := by omega
     have e1 : IntKind.i64.wrap ((j : Int) + 64) = ((j + 64 : Nat) : Int) := by rw [IntKind.wrap_i64]; omega
     have hjc : j + 64 ≤ c5 := by omega
     clear hj k1 hk
     go_wp2_with fail
     have HP7 := YSl.part (k := j) (m := 64) HY7.out hj64 (by decide)
     have hl8 := blocksN_len (s := startL) (wholeL bs) rfl k
     have hVH := RowI.sl HR.out
     rw [hl8] at hVH
     refine (rblock_any (blocksN startL (wholeL bs) k) hl8 (blocksN_small _ start_small k) hb hc kb 64 (((wholeL bs).drop j).take 64) (some ⟨gb, go + j, none⟩) 64 (c5 - j) wr hVH (Sl.more (Sl.below HK7.out HB.out) HB.out.size) (Sl.more (Sl.below HP7 HB.out) HB.out.size) (Nat.le_refl _) (by omega) (by unfold maxLen; omega) (fun x hx => HTs.out x (List.mem_of_mem_drop (List.mem_of_mem_take hx)))).mono ?_
     rintro e w8 ⟨hb', hc', rfl, hge, hr8, hb8⟩
     have hR8 : Hid (RowI w8 hb' 3 (blocksN startL (wholeL bs) (k + 1))) := aside (by
      rw [HF.out, blockL_congr (cs := ((wholeL bs).drop j).take 64) _ (fun i hi => by rw [List.getD_eq_getElem?_getD, List.getD_eq_getElem?_getD, List.getElem?_take_of_lt hi])]
      exact hr8)
     have hB8 : Hid (Below w7.heap.size w7 w8) := aside (HB.out.trans (hb8.mono HB.out.size))
     clear hr8 hb8 hVH HP7 hl8 HR HB hge
     go_wp2_with fail
     have := HJ.out
     have e3 : 64 * (k + 1) = j + 64 := by omega
     exact ⟨⟨k + 1, hb', hc', by omega, by rw [e3]; go_num, rfl, hR8, hB8⟩, by simp [Go.RowKit.intOf]; omega⟩
    ·have hkM : k = (wholeL bs).length / 64 := by rw [HTl.out]; omega
     have hk64 : ((64 * k : Nat) : Int) = (M : Int) := by omega
     rw [hk64]
     have hl8 := blocksN_len (s := startL) (wholeL bs) rfl k
     have hss := blocksN_small (s := startL) (wholeL bs) start_small k
     have HSH : Hid (outL (blocksN startL (wholeL bs) k) = shaL bs) := aside (by rw [hkM]; exact shaL_whole bs)
     generalize blocksN startL (wholeL bs) k = S at HR hl8 hss HSH
     have HSS := aside hss
     have HS8 := aside hl8
     clear hss hl8 hk64 k1 hk hkM
     go_upto_region 13 with fail
     have D8 : Hid (OutAt (wr.alloc (.cells (rowY (List.replicate 32 0)) 23)) wr.heap.size 0 S) := aside (by unfold OutAt; simpa using heap_alloc_new _ _)
     have B8 : Hid (Below wr.heap.size wr (wr.alloc (.cells (rowY (List.replicate 32 0)) 23))) := aside ((Below.refl _ _).alloc (Nat.le_refl _) _)
     obtain ⟨D, hD⟩ : ∃ D, D = wr.heap.size := ⟨_, rfl⟩
     have HDl : Hid (B0 < D) := aside (by have h1 := HB.out.size; have h2 := HB7.out.size; have h3 := Hz1.out; omega)
     have HR8 : Hid (RowI (wr.alloc (.cells (rowY (List.replicate 32 0)) 23)) hb 3 S) := aside (RowI.below HR.out B8.out HR.out.lt)
     have hhD : hb < D := by rw [hD]; exact HR.out.lt
     have HB0 : Hid (Below B0 w (wr.alloc (.cells (rowY (List.replicate 32 0)) 23))) := aside (B1.out.trans (((HB7.out.trans (HB.out.mono HB7.out.size)).trans (B8.out.mono (by have h1 := HB.out.size; have h2 := HB7.out.size; omega))).mono (by have := Hz1.out; omega)))
     have HD0 : Hid ((wr.alloc (.cells (rowY (List.replicate 32 0)) 23)).heap[B0]? = some (.cells (rowY (List.replicate 32 0)) 23 (0, 0))) := aside ((((HB7.out.trans (HB.out.mono HB7.out.size)).trans (B8.out.mono (by have h1 := HB.out.size; have h2 := HB7.out.size; omega))).block B0 (by have := Hz1.out; omega)).trans D1.out)
     change Code.wp _ _ _ _ (wr.alloc (.cells (rowY (List.replicate 32 0)) 23))
     simp only [← hD] at D8 ⊢
     clear B8 HR HB HB7 hD
     generalize wr.alloc (.cells (rowY (List.replicate 32 0)) 23) = w9 at D8 HR8 HB0 HD0 ⊢
     go_wp2_with fail
     go_loopw [10] (fun v10 wr => ∃ (i : Nat), i ≤ 32 ∧ v10 = .int .i64 i ∧ Hid (OutAt wr D i S) ∧ Hid (RowI wr hb 3 S) ∧ Hid (Below B0 w wr) ∧ Hid (wr.heap[B0]? = some (.cells (rowY (List.replicate 32 0)) 23 (0, 0)))) (fun v10 _ => 32 - (Go.RowKit.intOf v10).toNat)
     case atStart => exact ⟨0, by omega, rfl, D8, HR8, HB0, HD0⟩
     case round =>
      clear D8 HR8 HB0 HD0
      obtain ⟨i, hi, rfl, D8, HR8, HB0, HD0⟩ := hrel
      by_cases i32 : i < 32
      ·have HSd : Hid (B0 ≠ D) := aside (by have := HDl.out; omega)
       obtain ⟨a, ha⟩ : ∃ a, a = i / 4 := ⟨_, rfl⟩
       have c0 := HR8.out.at_ (j := a) (by rw [HS8.out]; omega)
       have sx := HSS.out a
       obtain ⟨o0, o1⟩ := OutAt.at_ D8.out HS8.out i32
       have HPut : Hid (∀ (y : Nat) (X : Int), (outL S)[i]? = some y → X = (y : Int) → OutAt (wr.setCell ⟨D, i, none⟩ (.int .u8 X)) D (i + 1) S) := aside (fun y X h1 h2 => OutAt.put D8.out HS8.out i32 h1 h2)
       have HG : Hid (∀ r, r < 4 → (outL S)[4 * a + r]? = [S.getD a 0 / 16777216 % 256, S.getD a 0 / 65536 % 256, S.getD a 0 / 256 % 256, S.getD a 0 % 256][r]?) := aside (fun r hr => outL_get S a r (by rw [HS8.out]; omega) hr)
       generalize S.getD a 0 = x at c0 sx HG
       have HE : Hid (∀ X : Int, RowI (wr.setCell ⟨D, i, none⟩ (.int .u8 X)) hb 3 S ∧ Below B0 w (wr.setCell ⟨D, i, none⟩ (.int .u8 X)) ∧ (wr.setCell ⟨D, i, none⟩ (.int .u8 X)).heap[B0]? = some (.cells (rowY (List.replicate 32 0)) 23 (0, 0))) := aside (fun X => ⟨HR8.out.other _ _ _ (by omega), HB0.out.setCell (by have := HDl.out; show B0 ≤ D; omega) _, (heap_setCell_other wr ⟨D, i, none⟩ B0 _ HSd.out).trans HD0.out⟩)
       have e1 : (i : Int) / 4 = (a : Int) := by omega
       have a8 : a < 8 := by omega
       clear D8 HR8 HB0 HD0
       rcases (show i = 4 * a ∨ i = 4 * a + 1 ∨ i = 4 * a + 2 ∨ i = 4 * a + 3 by omega) with h4 | h4 | h4 | h4
       ·have e2 : (i : Int) % 4 = 0 := by omega
        have hg : Hid ((outL S)[i]? = some (x / 16777216 % 256)) := aside (by rw [h4]; exact HG.out 0 (by decide))
        clear h4 ha HG
        go_wp2_with fail
        exact ⟨⟨i + 1, by omega, by go_num, aside (HPut.out _ _ hg.out (by omega)), aside (HE.out _).1, aside (HE.out _).2.1, aside (HE.out _).2.2⟩, by simp [Go.RowKit.intOf]; omega⟩
       ·have e2 : (i : Int) % 4 = 1 := by omega
        have hg : Hid ((outL S)[i]? = some (x / 65536 % 256)) := aside (by rw [h4]; exact HG.out 1 (by decide))
        clear h4 ha HG
        go_wp2_with fail
        exact ⟨⟨i + 1, by omega, by go_num, aside (HPut.out _ _ hg.out (by omega)), aside (HE.out _).1, aside (HE.out _).2.1, aside (HE.out _).2.2⟩, by simp [Go.RowKit.intOf]; omega⟩
       ·have e2 : (i : Int) % 4 = 2 := by omega
        have hg : Hid ((outL S)[i]? = some (x / 256 % 256)) := aside (by rw [h4]; exact HG.out 2 (by decide))
        clear h4 ha HG
        go_wp2_with fail
        exact ⟨⟨i + 1, by omega, by go_num, aside (HPut.out _ _ hg.out (by omega)), aside (HE.out _).1, aside (HE.out _).2.1, aside (HE.out _).2.2⟩, by simp [Go.RowKit.intOf]; omega⟩
       ·have e2 : (i : Int) % 4 = 3 := by omega
        have hg : Hid ((outL S)[i]? = some (x % 256)) := aside (by rw [h4]; exact HG.out 3 (by decide))
        clear h4 ha HG
        go_wp2_with fail
        exact ⟨⟨i + 1, by omega, by go_num, aside (HPut.out _ _ hg.out (by omega)), aside (HE.out _).1, aside (HE.out _).2.1, aside (HE.out _).2.2⟩, by simp [Go.RowKit.intOf]; omega⟩
      ·obtain rfl : i = 32 := by omega
       have HD9 : Hid (wr.heap[D]? = some (.cells (rowY (shaL bs)) 23 (0, 0))) := aside (by
        have := D8.out
        unfold OutAt at this
        rw [List.take_of_length_le (by rw [outL_len, HS8.out]; decide), HSH.out] at this
        simpa using this)
       have HS9 : Hid ((Tryz.prog.info? 23).map (·.size) = some (rowY (shaL bs)).size) := aside (by rw [rowY_size, shaL_len]; kernel_rfl)
       have HS10 : Hid ((rowY (List.replicate 32 0)).size = (rowY (shaL bs)).size) := aside (by rw [rowY_size, rowY_size, shaL_len]; rfl)
       clear D8 HR8 hi i32
       go_wp2_with (first
        | (refine wpList_load_row rfl 23 (.tmp 9) rfl D rfl 23 (rowY (shaL bs)) (0, 0) _ HD9.out Tryz.underlying23 rfl HS9.out ?_)
        | (refine wpList_store_row rfl 23 (.tmp 2) (.tmp 66) rfl B0 (rowY (shaL bs)) rfl rfl 23 (rowY (List.replicate 32 0)) HD0.out HS9.out HS10.out (rowY_one _) ?_)
        | fail)
       refine bodyPost_ret (results_cell_row rfl _ _ B0 23 (rowY (shaL bs)) (0, 0) _ rfl (setRow_heap wr B0 _ _ _ _ HD0.out) Tryz.underlying23 rfl HS9.out) rfl ?_
       refine ⟨rfl, ?_⟩
       rw [← EB.out]
       exact below_setRow HB0.out _ (Nat.le_refl _) _
end Go.Proofs.YtbpabjhcjffkmaaGreatDoor
