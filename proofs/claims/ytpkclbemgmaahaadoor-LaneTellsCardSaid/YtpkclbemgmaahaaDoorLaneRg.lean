/- moneyerref3.Turned, at every channel. No condition. -/
import Derived.Test.YtpkclbemgmaahaaDoorLaneRb
import Derived.Deep.Cut
namespace Go.Proofs.YtpkclbemgmaahaaDoor
open Go.RowKit Go.ChangeShapes Go.WideShapes Go.ChangeAt

theorem errR2 {w w1 : World} {a1 a2 a3 a4 a5 : Value} {c : Obj} (hB : Below w.heap.size w w1) (hz : w.heap.size ≤ w1.heap.size) : Below w.heap.size w ((((((w1.setCell ⟨w.heap.size + 1, 0, none⟩ a1).setCell ⟨w.heap.size + 1, 1, none⟩ a2).setCell ⟨w.heap.size + 1, 2, none⟩ a3).setCell ⟨w.heap.size + 1, 3, none⟩ a4).setCell ⟨w.heap.size + 1, 4, none⟩ a5).alloc c) :=
  (errR hB).alloc (by simp [World.setCell]; exact hz) _
theorem set5_sizeW {w : World} {b : Nat} {p : Addr} {u v0 v1 v2 v3 v4 : Value} : ((((((w.setCell p u).setCell ⟨b, 0, none⟩ v0).setCell ⟨b, 1, none⟩ v1).setCell ⟨b, 2, none⟩ v2).setCell ⟨b, 3, none⟩ v3).setCell ⟨b, 4, none⟩ v4).heap.size = w.heap.size := by simp [World.setCell]
theorem turned_own {w : World} {base n : Nat} {A : Option Addr} {c : Nat} {ps : List (Int × Int)} {p q : Int} (h : w.ownsRow base 30 2 (.slice A (n + 1) c) (n + 1) (flat ps ++ #[Value.int .i64 p, Value.int .i64 q].toList)) :
    PSl w w.heap.size A (n + 1) (ps ++ [(p, q)]) ∧ Far base A := by
  have e : flat (ps ++ [(p, q)]) = flat ps ++ [.int .i64 p, .int .i64 q] := by simp [flat]
  refine ⟨?_, fun b o hb => ?_⟩
  · unfold PSl
    rw [e]
    exact Sl.own h
  · subst hb
    exact own_block_ge h b rfl

set_option maxHeartbeats 16000000 in
set_option maxRecDepth 100000 in
theorem turned_any (ps : List (Int × Int)) (A : Option Addr) (n c : Nat) (cl tu wh : Int) (ch : Bool) (fr m : Int) (w : World) (hp : PSl w w.heap.size A n ps) :
    Calls Tryd.prog 11 #[chV A n c cl tu wh ch, .int .i64 fr, .int .i64 m] w (fun e w' => Below w.heap.size w w' ∧ ∃ A' c', e = .returned (.tuple #[outV (payQ n ps cl tu wh ch fr m) A' (n + 1) c' cl tu wh ch, .int .i64 (payQ n ps cl tu wh ch fr m)]) ∧ (payQ n ps cl tu wh ch fr m = 0 → PSl w' w'.heap.size A' (n + 1) (payD n ps fr m) ∧ Far w.heap.size A')) := by
  simp only [chV]
  go_enter Tryd.func11, Tryd.ntmps11
  go_wp2_with fail
  refine (fault_any ps _ _ c cl tu wh ch _ (((hp.alloc (Nat.le_refl _) _).more (B' := (w.alloc _).heap.size) (by simp)).alloc (Nat.le_refl _) _ |>.more (by simp))).mono ?_
  rintro e w1 ⟨rfl, hb⟩
  have hB : Below w.heap.size w w1 := (((Below.refl _ _).alloc (Nat.le_refl _) _).alloc (by simp) _).trans (hb.mono (by first | (simp; done) | (simp; omega)))
  have hz := hb.size
  have d0 := hb.cell (p := ⟨w.heap.size, 0, none⟩) (by first | (simp; done) | (simp; omega))
  have d1 := hb.cell (p := ⟨w.heap.size, 1, none⟩) (by first | (simp; done) | (simp; omega))
  have d2 := hb.cell (p := ⟨w.heap.size, 2, none⟩) (by first | (simp; done) | (simp; omega))
  have d3 := hb.cell (p := ⟨w.heap.size, 3, none⟩) (by first | (simp; done) | (simp; omega))
  have d4 := hb.cell (p := ⟨w.heap.size, 4, none⟩) (by first | (simp; done) | (simp; omega))
  have r0 := hb.cell (p := ⟨w.heap.size + 1, 0, none⟩) (by simp)
  have r1 := hb.cell (p := ⟨w.heap.size + 1, 1, none⟩) (by simp)
  have r2 := hb.cell (p := ⟨w.heap.size + 1, 2, none⟩) (by simp)
  have r3 := hb.cell (p := ⟨w.heap.size + 1, 3, none⟩) (by simp)
  have r4 := hb.cell (p := ⟨w.heap.size + 1, 4, none⟩) (by simp)
  have f0 := fun o => hb.frozen (p := ⟨w.heap.size, o, none⟩) (by first | (simp; done) | (simp; omega))
  have f1 := fun o => hb.frozen (p := ⟨w.heap.size + 1, o, none⟩) (by simp)
  simp [go_sem, World.cell?_alloc_past, World.frozen?_alloc_past] at d0 d1 d2 d3 d4 r0 r1 r2 r3 r4 f0 f1 hz
  have k0 : w.heap.size < w1.heap.size := by omega
  have k1 : w.heap.size + 1 < w1.heap.size := by omega
  have HB := aside hB
  have HP := aside hp
  clear hb hp
  by_cases h0 : checkQ n ps cl tu wh ch = 0
  rotate_left
  · have HE : Hid (payQ n ps cl tu wh ch fr m = checkQ n ps cl tu wh ch) := aside (by unfold payQ; rw [if_pos h0])
    have H0 := aside h0
    have e0 : (checkQ n ps cl tu wh ch == 0) = false := by simpa using h0
    have e1 : (checkQ n ps cl tu wh ch != 0) = true := by simpa using h0
    clear h0
    go_wp2
    refine bodyPost_ret (v := .tuple #[chV none 0 0 0 0 0 false, .int .i64 (checkQ n ps cl tu wh ch)]) (by simp only [results, Tryd.results11, chV]; go_simp) rfl ?_
    exact ⟨errR HB.out, none, 0, by rw [HE.out, outV_bad H0.out], fun h => absurd (HE.out.symm.trans h) H0.out⟩
  rw [h0]
  have HK := aside (checkQ_ok h0)
  have HN := aside (turnsQ_ok HK.out.1)
  have hcl0 : 0 ≤ cl := HK.out.2.1
  by_cases hf : fr ≠ 0 ∧ fr ≠ 1
  · have HE : Hid (payQ n ps cl tu wh ch fr m = 2) := aside (by unfold payQ; rw [if_neg (by simp [h0]), if_pos hf])
    have hg2 : fr < 0 ∨ (0 ≤ fr ∧ 1 < fr) := by omega
    clear hf
    rcases hg2 with hg2 | ⟨hg2, hg3⟩
    all_goals go_wp2
    all_goals refine bodyPost_ret (v := .tuple #[chV none 0 0 0 0 0 false, .int .i64 2]) (by simp only [results, Tryd.results11, chV]; go_simp) rfl ?_
    all_goals exact ⟨errR HB.out, none, 0, by rw [HE.out, outV_bad (by decide)], fun h => absurd (HE.out.symm.trans h) (by decide)⟩
  have hf0 : 0 ≤ fr := by omega
  have hf1 : fr ≤ 1 := by omega
  by_cases hc : cl = 0
  rotate_left
  · have HE : Hid (payQ n ps cl tu wh ch fr m = 11) := aside (by unfold payQ; rw [if_neg (by simp [h0]), if_neg hf, if_pos hc])
    have hc' : 0 < cl := by omega
    clear hf h0 hc hB
    go_wp2
    refine bodyPost_ret (v := .tuple #[chV none 0 0 0 0 0 false, .int .i64 11]) (by simp only [results, Tryd.results11, chV]; go_simp) rfl ?_
    exact ⟨errR HB.out, none, 0, by rw [HE.out, outV_bad (by decide)], fun h => absurd (HE.out.symm.trans h) (by decide)⟩
  have hcz := HK.out.2.2.2.2.2.2.2.1 hc
  by_cases hm : MoneyIn m
  rotate_left
  · have HE : Hid (payQ n ps cl tu wh ch fr m = 2) := aside (by unfold payQ; rw [if_neg (by simp [h0]), if_neg hf, if_neg (by simpa using hc), if_pos hm])
    have HM := aside hm
    subst hc
    clear hf h0 hm hB hcz
    go_wp2_with (first | (go_at_call 19; refine (money_bad _ HM.out _).mono ?_; rintro e w' ⟨rfl, rfl⟩) | fail)
    refine bodyPost_ret (v := .tuple #[chV none 0 0 0 0 0 false, .int .i64 2]) (by simp only [results, Tryd.results11, chV]; go_simp) rfl ?_
    exact ⟨errR HB.out, none, 0, by rw [HE.out, outV_bad (by decide)], fun h => absurd (HE.out.symm.trans h) (by decide)⟩
  have HM := aside hm
  obtain ⟨h1, h2, hall⟩ := HN.out
  have hlen := HP.out.len
  obtain ⟨b, off, rfl, hlt, c0, c1⟩ := HP.out.at_ (k := n - 1) (by omega)
  change w.cell? _ = some (.int .i64 (lastP n ps).1) at c0
  change w.cell? _ = some (.int .i64 (lastP n ps).2) at c1
  have e0 := (hB.cell (p := ⟨b, off + (n - 1) * 2, none⟩) hlt).trans c0
  have e1 := (hB.cell (p := ⟨b, off + (n - 1) * 2 + 1, none⟩) hlt).trans c1
  have k2 : b < w1.heap.size := by omega
  obtain ⟨k, hk⟩ : ∃ k, n = k + 1 := ⟨n - 1, by omega⟩
  rw [show n - 1 = k by omega] at e0 e1
  have ws : IntKind.i64.wrap ((n : Int) - 1) = (k : Int) := by rw [IntKind.wrap_i64]; omega
  have ws' : wrap64 ((n : Int) - 1) = (k : Int) := by unfold wrap64; omega
  have i1 : (k : Int) < (n : Int) := by omega
  have i2 : (0 : Int) ≤ (k : Int) := by omega
  have hmem := hall _ (lastP_mem hlen h1)
  have hL : ∀ z, lastP n ps = z → payD n ps fr m = ps ++ [paid fr m z] := fun z hz => by unfold payD; rw [hz]
  have HKN := aside hk
  by_cases hlow : (if fr = 0 then (lastP n ps).1 else (lastP n ps).2) < m
  · have HE : Hid (payQ n ps cl tu wh ch fr m = 9) := aside (by unfold payQ; rw [if_neg (by simp [h0]), if_neg hf, if_neg (by simpa using hc), if_neg (by simpa using hm), if_pos hlow])
    subst hc
    generalize lastP n ps = p at e0 e1 hlow
    obtain ⟨x, y⟩ := p
    simp only [] at e0 e1 hlow
    clear hall h0 hB hm hf hcz hk hmem hL c0 c1 h1 h2 hlen
    have hfr : fr = 0 ∧ x < m ∨ fr = 1 ∧ y < m := by
      by_cases hz : fr = 0
      · rw [if_pos hz] at hlow; exact .inl ⟨hz, hlow⟩
      · rw [if_neg hz] at hlow; exact .inr ⟨by omega, hlow⟩
    clear hlow hf0 hf1
    rcases hfr with ⟨rfl, hlow⟩ | ⟨rfl, hlow⟩
    all_goals go_wp2_with (first | (go_at_call 19; refine (money_ok _ HM.out _).mono ?_; rintro e w' ⟨rfl, rfl⟩) | fail)
    all_goals refine bodyPost_ret (v := .tuple #[chV none 0 0 0 0 0 false, .int .i64 9]) (by simp only [results, Tryd.results11, chV]; go_simp) rfl ?_
    all_goals exact ⟨errR2 HB.out (Nat.le_of_lt k0), none, 0, by rw [HE.out, outV_bad (by decide)], fun h => absurd (HE.out.symm.trans h) (by decide)⟩
  by_cases hn : n = 50
  · have HE : Hid (payQ n ps cl tu wh ch fr m = 4) := aside (by unfold payQ; rw [if_neg (by simp [h0]), if_neg hf, if_neg (by simpa using hc), if_neg (by simpa using hm), if_neg hlow, if_pos hn])
    subst hc
    have b5 : ((n : Int) == 50) = true := by simp; omega
    generalize lastP n ps = p at e0 e1 hlow
    obtain ⟨x, y⟩ := p
    simp only [] at e0 e1 hlow
    clear hall h0 hB hm hf hcz hk hmem hL c0 c1 h1 h2 hlen hn
    have hfr : fr = 0 ∧ m ≤ x ∨ fr = 1 ∧ m ≤ y := by
      by_cases hz : fr = 0
      · rw [if_pos hz] at hlow; exact .inl ⟨hz, by omega⟩
      · rw [if_neg hz] at hlow; exact .inr ⟨by omega, by omega⟩
    clear hlow hf0 hf1
    rcases hfr with ⟨rfl, hlow⟩ | ⟨rfl, hlow⟩
    all_goals go_wp2_with (first | (go_at_call 19; refine (money_ok _ HM.out _).mono ?_; rintro e w' ⟨rfl, rfl⟩) | fail)
    all_goals refine bodyPost_ret (v := .tuple #[chV none 0 0 0 0 0 false, .int .i64 4]) (by simp only [results, Tryd.results11, chV]; go_simp) rfl ?_
    all_goals exact ⟨errR2 HB.out (Nat.le_of_lt k0), none, 0, by rw [HE.out, outV_bad (by decide)], fun h => absurd (HE.out.symm.trans h) (by decide)⟩
  have HE : Hid (payQ n ps cl tu wh ch fr m = 0) := aside (by unfold payQ; rw [if_neg (by simp [h0]), if_neg hf, if_neg (by simpa using hc), if_neg (by simpa using hm), if_neg hlow, if_neg hn])
  have b5 : ((n : Int) == 50) = false := by simp; omega
  obtain ⟨rfl, rfl, rfl⟩ := hcz
  subst hc
  have HPW0 := aside (Sl.more (Sl.below HP.out hB) (show w.heap.size ≤ w1.heap.size by omega))
  have HLP : Hid (lastP n ps = lastP n ps) := aside rfl
  generalize lastP n ps = p at e0 e1 hlow hmem hL HLP
  obtain ⟨x, y⟩ := p
  simp only [] at e0 e1 hlow hmem
  obtain ⟨⟨m0, m1⟩, ⟨m2, m3⟩, -⟩ := hmem
  have hL2 := aside (hL _ HLP.out.symm)
  have h22 := aside h2
  have hfr : fr = 0 ∧ m ≤ x ∨ fr = 1 ∧ m ≤ y := by
    by_cases hz : fr = 0
    · rw [if_pos hz] at hlow; exact .inl ⟨hz, by omega⟩
    · rw [if_neg hz] at hlow; exact .inr ⟨by omega, by omega⟩
  obtain ⟨mm0, mm1⟩ := hm
  clear hlow hf0 hf1 hall h0 hB hf hk hL c0 c1 h1 h2 hlen hn
  rcases hfr with ⟨rfl, hlow⟩ | ⟨rfl, hlow⟩
  · have wx : wrap64 (x - m) = x - m := by unfold wrap64; omega
    have wy : wrap64 (y + m) = y + m := by unfold wrap64; omega
    go_upto_region 18 with (first | (go_at_call 19; refine (money_ok _ HM.out _).mono ?_; rintro e w' ⟨rfl, rfl⟩) | fail)
    obtain ⟨W, hW⟩ : ∃ W, W = w'.alloc (.cells #[.int .i64 (x - m), .int .i64 (y + m)] 30) := ⟨_, rfl⟩
    have BW : Below w'.heap.size w' W := by rw [hW]; exact (Below.refl _ _).alloc (Nat.le_refl _) _
    have s0 : W.cell? ⟨w'.heap.size, 0, none⟩ = some (.int .i64 (x - m)) := by rw [hW]; exact World.cell?_alloc_at _ _ _ _ rfl
    have s1 : W.cell? ⟨w'.heap.size, 1, none⟩ = some (.int .i64 (y + m)) := by rw [hW]; exact World.cell?_alloc_at _ _ _ _ rfl
    have hW2 : w'.heap.size < W.heap.size := by rw [hW]; simp
    rw [← hW]
    clear hW
    have q0 := (BW.cell (p := ⟨w.heap.size, 0, none⟩) k0).trans d0
    have q1 := (BW.cell (p := ⟨w.heap.size, 1, none⟩) k0).trans d1
    have q2 := (BW.cell (p := ⟨w.heap.size, 2, none⟩) k0).trans d2
    have q3 := (BW.cell (p := ⟨w.heap.size, 3, none⟩) k0).trans d3
    have q4 := (BW.cell (p := ⟨w.heap.size, 4, none⟩) k0).trans d4
    have p0 := (BW.cell (p := ⟨w.heap.size + 1, 0, none⟩) k1).trans r0
    have p1 := (BW.cell (p := ⟨w.heap.size + 1, 1, none⟩) k1).trans r1
    have p2 := (BW.cell (p := ⟨w.heap.size + 1, 2, none⟩) k1).trans r2
    have p3 := (BW.cell (p := ⟨w.heap.size + 1, 3, none⟩) k1).trans r3
    have p4 := (BW.cell (p := ⟨w.heap.size + 1, 4, none⟩) k1).trans r4
    have g0 := fun o => (BW.frozen (p := ⟨w.heap.size, o, none⟩) k0).trans (f0 o)
    have g1 := fun o => (BW.frozen (p := ⟨w.heap.size + 1, o, none⟩) k1).trans (f1 o)
    have HBW := aside (HB.out.trans (BW.mono (by omega)))
    have HPW := aside (Sl.more (Sl.below HPW0.out BW) (show w'.heap.size ≤ W.heap.size by omega))
    have l0 : w.heap.size < W.heap.size := by omega
    have l1 : w.heap.size + 1 < W.heap.size := by omega
    have HNN := aside h22.out
    clear d0 d1 d2 d3 d4 r0 r1 r2 r3 r4 f0 f1 HB BW e0 e1
    go_wp2_with (at_builtin; refine wpList_concat rfl _ _ 22 rfl W.heap.size (.agg #[.int .i64 0, .int .i64 0]) 2 16 Tryd.underlying22 pairInfo rfl (by decide) (.slice none 0 0) 0 [] rfl ⟨rfl, .inl ⟨rfl, rfl⟩⟩ W.heap.size (some ⟨b, off, none⟩) n c (flat ps) rfl HPW.out (flat_one ps) (by have := HNN.out; omega) (by have := HNN.out; unfold maxLen; omega) (Nat.le_refl _) ?_)
    intro A2 c2 w2 _ _ hown hb2 _
    have hown := aside hown
    have t0 := (hb2.cell (p := ⟨w.heap.size, 0, none⟩) l0).trans q0
    have t1 := (hb2.cell (p := ⟨w.heap.size, 1, none⟩) l0).trans q1
    have t2 := (hb2.cell (p := ⟨w.heap.size, 2, none⟩) l0).trans q2
    have t3 := (hb2.cell (p := ⟨w.heap.size, 3, none⟩) l0).trans q3
    have t4 := (hb2.cell (p := ⟨w.heap.size, 4, none⟩) l0).trans q4
    have v0 := (hb2.cell (p := ⟨w.heap.size + 1, 0, none⟩) l1).trans p0
    have v1 := (hb2.cell (p := ⟨w.heap.size + 1, 1, none⟩) l1).trans p1
    have v2 := (hb2.cell (p := ⟨w.heap.size + 1, 2, none⟩) l1).trans p2
    have v3 := (hb2.cell (p := ⟨w.heap.size + 1, 3, none⟩) l1).trans p3
    have v4 := (hb2.cell (p := ⟨w.heap.size + 1, 4, none⟩) l1).trans p4
    have u0 := (hb2.cell (p := ⟨w'.heap.size, 0, none⟩) hW2).trans s0
    have u1 := (hb2.cell (p := ⟨w'.heap.size, 1, none⟩) hW2).trans s1
    have gg0 := fun o => (hb2.frozen (p := ⟨w.heap.size, o, none⟩) l0).trans (g0 o)
    have gg1 := fun o => (hb2.frozen (p := ⟨w.heap.size + 1, o, none⟩) l1).trans (g1 o)
    have z2 := hb2.size
    have L0 := Nat.lt_of_lt_of_le l0 z2
    have L1 := Nat.lt_of_lt_of_le l1 z2
    have LH := Nat.lt_of_lt_of_le hW2 z2
    have HB2 := aside (HBW.out.trans (hb2.mono (Nat.le_of_lt l0)))
    have HZ2 := aside z2
    clear q0 q1 q2 q3 q4 p0 p1 p2 p3 p4 g0 g1 s0 s1 hb2 HBW
    go_wp2_with (at_builtin; refine wpList_push rfl _ _ 22 rfl W.heap.size (.agg #[.int .i64 0, .int .i64 0]) 2 16 Tryd.underlying22 pairInfo rfl (by decide) (.slice A2 n c2) n (flat ps) rfl rfl rfl rfl hown.out (by have := HNN.out; omega) (by have := HNN.out; unfold maxLen; omega) HZ2.out ?_)
    intro A3 c3 w3 _ _ hown3 hb3 _ hg3
    have HO := aside (turned_own hown3)
    have t0 := (hb3.cell (p := ⟨w.heap.size, 0, none⟩) l0).trans t0
    have t1 := (hb3.cell (p := ⟨w.heap.size, 1, none⟩) l0).trans t1
    have t2 := (hb3.cell (p := ⟨w.heap.size, 2, none⟩) l0).trans t2
    have t3 := (hb3.cell (p := ⟨w.heap.size, 3, none⟩) l0).trans t3
    have t4 := (hb3.cell (p := ⟨w.heap.size, 4, none⟩) l0).trans t4
    have v0 := (hb3.cell (p := ⟨w.heap.size + 1, 0, none⟩) l1).trans v0
    have v1 := (hb3.cell (p := ⟨w.heap.size + 1, 1, none⟩) l1).trans v1
    have v2 := (hb3.cell (p := ⟨w.heap.size + 1, 2, none⟩) l1).trans v2
    have v3 := (hb3.cell (p := ⟨w.heap.size + 1, 3, none⟩) l1).trans v3
    have v4 := (hb3.cell (p := ⟨w.heap.size + 1, 4, none⟩) l1).trans v4
    have gg0 := fun o => (hb3.frozen (p := ⟨w.heap.size, o, none⟩) l0).trans (gg0 o)
    have gg1 := fun o => (hb3.frozen (p := ⟨w.heap.size + 1, o, none⟩) l1).trans (gg1 o)
    have z3 := hb3.size
    have L0 := Nat.lt_of_lt_of_le L0 z3
    have L1 := Nat.lt_of_lt_of_le L1 z3
    have HB3 := aside (HB2.out.trans (hb3.mono (Nat.le_of_lt l0)))
    clear hown3 hb3 hg3 u0 u1 HB2
    go_wp2
    refine bodyPost_ret (v := .tuple #[chV A3 (n + 1) c3 0 0 0 false, .int .i64 0]) (by simp only [results, Tryd.results11, chV]; go_simp) rfl ?_
    refine ⟨?_, A3, c3, by rw [HE.out, outV_ok], fun _ => ?_⟩
    · refine set5_below (Nat.le_succ _) ?_
      exact HB3.out.setCell (by exact Nat.le_refl _) _
    · rw [hL2.out, show paid 0 m (x, y) = (x - m, y + m) from rfl, set5_sizeW]
      refine ⟨PSl.set5 (N := W.heap.size) ?_ HO.out.2 l1, HO.out.2.mono (Nat.le_of_lt l0)⟩
      exact PSl.setC HO.out.1 HO.out.2 l0 _
  · have wx : wrap64 (x + m) = x + m := by unfold wrap64; omega
    have wy : wrap64 (y - m) = y - m := by unfold wrap64; omega
    go_upto_region 18 with (first | (go_at_call 19; refine (money_ok _ HM.out _).mono ?_; rintro e w' ⟨rfl, rfl⟩) | fail)
    obtain ⟨W, hW⟩ : ∃ W, W = w'.alloc (.cells #[.int .i64 (x + m), .int .i64 (y - m)] 30) := ⟨_, rfl⟩
    have BW : Below w'.heap.size w' W := by rw [hW]; exact (Below.refl _ _).alloc (Nat.le_refl _) _
    have s0 : W.cell? ⟨w'.heap.size, 0, none⟩ = some (.int .i64 (x + m)) := by rw [hW]; exact World.cell?_alloc_at _ _ _ _ rfl
    have s1 : W.cell? ⟨w'.heap.size, 1, none⟩ = some (.int .i64 (y - m)) := by rw [hW]; exact World.cell?_alloc_at _ _ _ _ rfl
    have hW2 : w'.heap.size < W.heap.size := by rw [hW]; simp
    rw [← hW]
    clear hW
    have q0 := (BW.cell (p := ⟨w.heap.size, 0, none⟩) k0).trans d0
    have q1 := (BW.cell (p := ⟨w.heap.size, 1, none⟩) k0).trans d1
    have q2 := (BW.cell (p := ⟨w.heap.size, 2, none⟩) k0).trans d2
    have q3 := (BW.cell (p := ⟨w.heap.size, 3, none⟩) k0).trans d3
    have q4 := (BW.cell (p := ⟨w.heap.size, 4, none⟩) k0).trans d4
    have p0 := (BW.cell (p := ⟨w.heap.size + 1, 0, none⟩) k1).trans r0
    have p1 := (BW.cell (p := ⟨w.heap.size + 1, 1, none⟩) k1).trans r1
    have p2 := (BW.cell (p := ⟨w.heap.size + 1, 2, none⟩) k1).trans r2
    have p3 := (BW.cell (p := ⟨w.heap.size + 1, 3, none⟩) k1).trans r3
    have p4 := (BW.cell (p := ⟨w.heap.size + 1, 4, none⟩) k1).trans r4
    have g0 := fun o => (BW.frozen (p := ⟨w.heap.size, o, none⟩) k0).trans (f0 o)
    have g1 := fun o => (BW.frozen (p := ⟨w.heap.size + 1, o, none⟩) k1).trans (f1 o)
    have HBW := aside (HB.out.trans (BW.mono (by omega)))
    have HPW := aside (Sl.more (Sl.below HPW0.out BW) (show w'.heap.size ≤ W.heap.size by omega))
    have l0 : w.heap.size < W.heap.size := by omega
    have l1 : w.heap.size + 1 < W.heap.size := by omega
    have HNN := aside h22.out
    clear d0 d1 d2 d3 d4 r0 r1 r2 r3 r4 f0 f1 HB BW e0 e1
    go_wp2_with (at_builtin; refine wpList_concat rfl _ _ 22 rfl W.heap.size (.agg #[.int .i64 0, .int .i64 0]) 2 16 Tryd.underlying22 pairInfo rfl (by decide) (.slice none 0 0) 0 [] rfl ⟨rfl, .inl ⟨rfl, rfl⟩⟩ W.heap.size (some ⟨b, off, none⟩) n c (flat ps) rfl HPW.out (flat_one ps) (by have := HNN.out; omega) (by have := HNN.out; unfold maxLen; omega) (Nat.le_refl _) ?_)
    intro A2 c2 w2 _ _ hown hb2 _
    have hown := aside hown
    have t0 := (hb2.cell (p := ⟨w.heap.size, 0, none⟩) l0).trans q0
    have t1 := (hb2.cell (p := ⟨w.heap.size, 1, none⟩) l0).trans q1
    have t2 := (hb2.cell (p := ⟨w.heap.size, 2, none⟩) l0).trans q2
    have t3 := (hb2.cell (p := ⟨w.heap.size, 3, none⟩) l0).trans q3
    have t4 := (hb2.cell (p := ⟨w.heap.size, 4, none⟩) l0).trans q4
    have v0 := (hb2.cell (p := ⟨w.heap.size + 1, 0, none⟩) l1).trans p0
    have v1 := (hb2.cell (p := ⟨w.heap.size + 1, 1, none⟩) l1).trans p1
    have v2 := (hb2.cell (p := ⟨w.heap.size + 1, 2, none⟩) l1).trans p2
    have v3 := (hb2.cell (p := ⟨w.heap.size + 1, 3, none⟩) l1).trans p3
    have v4 := (hb2.cell (p := ⟨w.heap.size + 1, 4, none⟩) l1).trans p4
    have u0 := (hb2.cell (p := ⟨w'.heap.size, 0, none⟩) hW2).trans s0
    have u1 := (hb2.cell (p := ⟨w'.heap.size, 1, none⟩) hW2).trans s1
    have gg0 := fun o => (hb2.frozen (p := ⟨w.heap.size, o, none⟩) l0).trans (g0 o)
    have gg1 := fun o => (hb2.frozen (p := ⟨w.heap.size + 1, o, none⟩) l1).trans (g1 o)
    have z2 := hb2.size
    have L0 := Nat.lt_of_lt_of_le l0 z2
    have L1 := Nat.lt_of_lt_of_le l1 z2
    have LH := Nat.lt_of_lt_of_le hW2 z2
    have HB2 := aside (HBW.out.trans (hb2.mono (Nat.le_of_lt l0)))
    have HZ2 := aside z2
    clear q0 q1 q2 q3 q4 p0 p1 p2 p3 p4 g0 g1 s0 s1 hb2 HBW
    go_wp2_with (at_builtin; refine wpList_push rfl _ _ 22 rfl W.heap.size (.agg #[.int .i64 0, .int .i64 0]) 2 16 Tryd.underlying22 pairInfo rfl (by decide) (.slice A2 n c2) n (flat ps) rfl rfl rfl rfl hown.out (by have := HNN.out; omega) (by have := HNN.out; unfold maxLen; omega) HZ2.out ?_)
    intro A3 c3 w3 _ _ hown3 hb3 _ hg3
    have HO := aside (turned_own hown3)
    have t0 := (hb3.cell (p := ⟨w.heap.size, 0, none⟩) l0).trans t0
    have t1 := (hb3.cell (p := ⟨w.heap.size, 1, none⟩) l0).trans t1
    have t2 := (hb3.cell (p := ⟨w.heap.size, 2, none⟩) l0).trans t2
    have t3 := (hb3.cell (p := ⟨w.heap.size, 3, none⟩) l0).trans t3
    have t4 := (hb3.cell (p := ⟨w.heap.size, 4, none⟩) l0).trans t4
    have v0 := (hb3.cell (p := ⟨w.heap.size + 1, 0, none⟩) l1).trans v0
    have v1 := (hb3.cell (p := ⟨w.heap.size + 1, 1, none⟩) l1).trans v1
    have v2 := (hb3.cell (p := ⟨w.heap.size + 1, 2, none⟩) l1).trans v2
    have v3 := (hb3.cell (p := ⟨w.heap.size + 1, 3, none⟩) l1).trans v3
    have v4 := (hb3.cell (p := ⟨w.heap.size + 1, 4, none⟩) l1).trans v4
    have gg0 := fun o => (hb3.frozen (p := ⟨w.heap.size, o, none⟩) l0).trans (gg0 o)
    have gg1 := fun o => (hb3.frozen (p := ⟨w.heap.size + 1, o, none⟩) l1).trans (gg1 o)
    have z3 := hb3.size
    have L0 := Nat.lt_of_lt_of_le L0 z3
    have L1 := Nat.lt_of_lt_of_le L1 z3
    have HB3 := aside (HB2.out.trans (hb3.mono (Nat.le_of_lt l0)))
    clear hown3 hb3 hg3 u0 u1 HB2
    go_wp2
    refine bodyPost_ret (v := .tuple #[chV A3 (n + 1) c3 0 0 0 false, .int .i64 0]) (by simp only [results, Tryd.results11, chV]; go_simp) rfl ?_
    refine ⟨?_, A3, c3, by rw [HE.out, outV_ok], fun _ => ?_⟩
    · refine set5_below (Nat.le_succ _) ?_
      exact HB3.out.setCell (by exact Nat.le_refl _) _
    · rw [hL2.out, show paid 1 m (x, y) = (x + m, y - m) from rfl, set5_sizeW]
      refine ⟨PSl.set5 (N := W.heap.size) ?_ HO.out.2 l1, HO.out.2.mono (Nat.le_of_lt l0)⟩
      exact PSl.setC HO.out.1 HO.out.2 l0 _
end Go.Proofs.YtpkclbemgmaahaaDoor
