/- slices.symMergeCmpFunc. Conditions: named in each theorem. -/
import Derived.Test.YtbpabjhcjffkmaaGreatDoorSrtC
import Derived.Deep.Cut
namespace Go.Proofs.YtbpabjhcjffkmaaGreatDoor.Pk
open Go.RowKit Go.ChangeShapes Go.WideShapes Go.ChangeAt

/-- Merging is known of halves that are together fewer than N. -/
def SymOk (gf : Int → Int) (Ok : Int → Prop) (g nb len c N : Nat) : Prop := ∀ (A L R B : List Int) (a m b : Nat) (W : World), L.length + R.length < N → 0 < L.length → 0 < R.length → L.Pairwise (LtG gf) → R.Pairwise (LtG gf) → (∀ x ∈ L, ∀ y ∈ R, x < y) → (∀ x ∈ L ++ R, Ok x) →
 (A ++ (L ++ (R ++ B))).length = len → a = A.length → m = A.length + L.length → b = A.length + L.length + R.length → CmpC g W nb gf Ok → RowAt W g (A ++ (L ++ (R ++ B))) →
 Calls Tryz.prog 127 #[.slice (some ⟨g, 0, none⟩) len c, .int .i64 a, .int .i64 m, .int .i64 b, cmpV nb] W (MergeD gf g A (L ++ R) B W)
set_option maxHeartbeats 40000000 in
set_option maxRecDepth 100000 in
theorem sym_gen (A L R B : List Int) (gf : Int → Int) (Ok : Int → Prop) (hsL : L.Pairwise (LtG gf)) (hsR : R.Pairwise (LtG gf)) (hO : ∀ x ∈ L, ∀ y ∈ R, x < y) (hOk : ∀ x ∈ L ++ R, Ok x) (hL1 : 1 < L.length) (hR1 : 1 < R.length) (g nb len c : Nat) (hlen : (A ++ (L ++ (R ++ B))).length = len) (hl : len ≤ 1000)
  (a m b : Nat) (ha : a = A.length) (hm : m = A.length + L.length) (hb : b = A.length + L.length + R.length) (W : World) (hc : CmpC g W nb gf Ok) (h : RowAt W g (A ++ (L ++ (R ++ B)))) (ih : SymOk gf Ok g nb len c (L.length + R.length)) :
  Calls Tryz.prog 127 #[.slice (some ⟨g, 0, none⟩) len c, .int .i64 a, .int .i64 m, .int .i64 b, cmpV nb] W (MergeD gf g A (L ++ R) B W) := by
 obtain ⟨l, hll⟩ : ∃ l, l = L.length := ⟨_, rfl⟩
 obtain ⟨q, hqq⟩ : ∃ q, q = R.length := ⟨_, rfl⟩
 obtain ⟨nn, hnn⟩ : ∃ nn, nn = (l + q) / 2 := ⟨_, rfl⟩
 obtain ⟨md, hmd⟩ : ∃ md, md = a + nn := ⟨_, rfl⟩
 obtain ⟨n2, hn2⟩ : ∃ n2, n2 = md + m := ⟨_, rfl⟩
 obtain ⟨lo, hi, hpr⟩ : ∃ lo hi, PartR l q lo hi := by
  by_cases hc : l > (l + q) / 2
  ·exact ⟨_, _, .inl ⟨hc, rfl, rfl⟩⟩
  ·exact ⟨_, _, .inr ⟨by omega, rfl, rfl⟩⟩
 have hlq : (A ++ (L ++ (R ++ B))).length = len := hlen
 have hdim : m = a + l ∧ b = a + l + q ∧ b ≤ len ∧ 1 < l ∧ 1 < q := by
  simp only [List.length_append] at hlen
  omega
 have hloh : lo ≤ hi ∧ hi ≤ l ∧ hi ≤ nn := by unfold PartR at hpr; omega
 have HD := aside hdim
 have HLo := aside hloh
 have HN := aside (And.intro hnn (And.intro hmd hn2))
 have HLL := aside (And.intro hll hqq)
 have HPR := aside hpr
 have HA := aside (And.intro ha (And.intro hm hb))
 have HR := aside h
 have HU := aside (Upon.refl g W)
 have HCC := aside hc
 have HsL := aside hsL
 have HsR := aside hsR
 have HO := aside hO
 have HOK := aside hOk
 have HIH := aside ih
 have HF := aside (Fnd.start (f := FP gf L R nn) hloh.1)
 have HNL : Hid (∀ k, k < l → nth (A ++ (L ++ (R ++ B))) (a + k) = nth L k) := aside (fun k hk => by
  rw [nth_app2 (by omega), nth_app1 (by omega)]
  congr 1
  omega)
 have HNR : Hid (∀ k, k < q → nth (A ++ (L ++ (R ++ B))) (m + k) = nth R k) := aside (fun k hk => by
  rw [nth_app2 (by omega), nth_app2 (by omega), nth_app1 (by omega)]
  congr 1
  omega)
 have HYS := aside (rfl : A ++ (L ++ (R ++ B)) = A ++ (L ++ (R ++ B)))
 obtain ⟨ys, hys⟩ : ∃ ys, ys = A ++ (L ++ (R ++ B)) := ⟨_, rfl⟩
 rw [← hys] at HR HNL HNR hlq
 have HYE := aside hys
 have e1 : IntKind.i64.wrap ((m : Int) - (a : Int)) = (l : Int) := by rw [IntKind.wrap_i64]; omega
 have e1b : ((l : Int) == 1) = false := by simp; omega
 have e2 : IntKind.i64.wrap ((b : Int) - (m : Int)) = (q : Int) := by rw [IntKind.wrap_i64]; omega
 have e2b : ((q : Int) == 1) = false := by simp; omega
 have e3 : ((a : Int) + (b : Int)) / 2 = (md : Int) := by omega
 have e4 : IntKind.i64.wrap ((md : Int) + (m : Int)) = (n2 : Int) := by rw [IntKind.wrap_i64]; omega
 have hz1 : a < len ∧ m < len ∧ b ≤ len ∧ md ≤ len := by omega
 have e5 : IntKind.i64.wrap ((n2 : Int) - 1) = ((n2 - 1 : Nat) : Int) := by rw [IntKind.wrap_i64]; omega
 obtain ⟨pp, hpp⟩ : ∃ pp, pp = n2 - 1 := ⟨_, rfl⟩
 rw [← hpp] at e5
 have HPP := aside hpp
 clear hys HYS h hlen hsL hsR hO hOk hc ha hm hb hll hqq hnn hmd hn2 hpr hdim hloh ih hpp hL1 hR1
 go_enter Tryz.func127, Tryz.ntmps127
 go_upto_if 140 with fail
 (try simp only [e3, e4])
 go_cut [20, 21] from 25 (fun v20 v21 wx => v20 = .int .i64 ((a + lo : Nat) : Int) ∧ v21 = .int .i64 ((a + hi : Nat) : Int) ∧ wx = W)
 case first =>
  as_aux_lemma =>
  have hpr := HPR.out
  have hN := HN.out
  have hD := HD.out
  rcases hpr with ⟨h1, h2, h3⟩ | ⟨h1, h2, h3⟩
  ·have g1 : (md : Int) < (m : Int) := by omega
   have g2 : IntKind.i64.wrap ((n2 : Int) - (b : Int)) = ((a + lo : Nat) : Int) := by rw [IntKind.wrap_i64]; omega
   have g3 : Hid ((md : Int) = ((a + hi : Nat) : Int)) := aside (by omega)
   clear hN hD h1 h2 h3 e1 e1b e2 e2b e5
   go_wp2_with fail
   go_meet
   exact ⟨rfl, by rw [g3.out], rfl⟩
  ·have g1 : (m : Int) ≤ (md : Int) := by omega
   have g2 : Hid ((a : Int) = ((a + lo : Nat) : Int) ∧ (m : Int) = ((a + hi : Nat) : Int)) := aside (by omega)
   clear hN hD h1 h2 h3 e1 e1b e2 e2b e5
   go_wp2_with fail
   go_meet
   exact ⟨by rw [← g2.out.1], by rw [← g2.out.2], rfl⟩
 case rest =>
  as_aux_lemma =>
  obtain ⟨rfl, rfl, hw⟩ := hcut
  have hw2 := hw.symm
  subst hw2
  clear hw
  clear e1 e1b e2 e2b e3 e4
  go_wp2_with fail
  go_loopw [20, 21] (fun v20 v21 wr => ∃ (i j : Nat), i ≤ j ∧ j ≤ hi ∧ v20 = .int .i64 ((a + i : Nat) : Int) ∧ v21 = .int .i64 ((a + j : Nat) : Int) ∧ Hid (Fnd (FP gf L R nn) lo hi i j) ∧ Hid (RowAt wr g ys) ∧ Hid (Upon g W wr)) (fun v20 v21 _ => (Go.RowKit.intOf v21).toNat - (Go.RowKit.intOf v20).toNat)
  case atStart => exact ⟨lo, hi, HLo.out.1, Nat.le_refl _, rfl, rfl, HF, HR, HU⟩
  case round =>
   clear HF HR HU
   obtain ⟨i, j, hij, hj, rfl, rfl, HF, HR, HU⟩ := hrel
   by_cases hlt : i < j
   ·obtain ⟨si, hsi⟩ : ∃ s, s = a + i := ⟨_, rfl⟩
    obtain ⟨sj, hsj⟩ : ∃ s, s = a + j := ⟨_, rfl⟩
    rw [← hsi, ← hsj]
    obtain ⟨hh, hhh⟩ : ∃ q, q = (si + sj) / 2 := ⟨_, rfl⟩
    obtain ⟨ck, hck⟩ : ∃ q, q = (i + j) / 2 := ⟨_, rfl⟩
    have hcb : hh = a + ck ∧ i ≤ ck ∧ ck < j := by omega
    have hD := HD.out
    have hN := HN.out
    have hLo := HLo.out
    have hin := HPR.out.in_ (c := ck) (by have := HF.out.li; omega) (by omega) (by omega)
    obtain ⟨pc, hpc⟩ : ∃ q, q = pp - hh := ⟨_, rfl⟩
    have hpR : pc = m + (nn - 1 - ck) ∧ nn - 1 - ck < q ∧ ck < l ∧ pp < 3000 ∧ hh ≤ pp := by have := HPP.out; omega
    have e3 : ((si : Int) + (sj : Int)) / 2 = (hh : Int) := by omega
    have e6 : IntKind.i64.wrap ((pp : Int) - (hh : Int)) = (pc : Int) := by rw [IntKind.wrap_i64]; omega
    have i0 : (si : Int) < (sj : Int) := by omega
    have hRS : Hid (Ok (nth ys pc) ∧ Ok (nth ys hh) ∧ (gf (nth ys hh) < gf (nth ys pc) → Fnd (FP gf L R nn) lo hi i ck) ∧ (¬ gf (nth ys hh) < gf (nth ys pc) → Fnd (FP gf L R nn) lo hi (ck + 1) j)) := aside (by
     rw [hpR.1, hcb.1, HNR.out _ hpR.2.1, HNL.out _ hpR.2.2.1]
     have hLL := HLL.out
     have mL : nth L ck ∈ L := nth_mem (by omega)
     have mR : nth R (nn - 1 - ck) ∈ R := nth_mem (by omega)
     have hold := HO.out _ mL _ mR
     have hmo : Mono (FP gf L R nn) lo hi := by
      have h := mono_P HsL.out HsR.out (lo := lo) (hi := hi) (by rw [← hLL.1, ← hLL.2]; exact HPR.out) (by omega)
      rwa [← hLL.1, ← hLL.2, ← hN.1] at h
     have hiff : FP gf L R nn ck ↔ ¬ gf (nth L ck) < gf (nth R (nn - 1 - ck)) := not_congr (ltG_older hold)
     exact ⟨HOK.out _ (List.mem_append.2 (.inr mR)), HOK.out _ (List.mem_append.2 (.inl mL)), fun hl => HF.out.left hmo hcb.2.1 hcb.2.2 (fun hf => hiff.1 hf hl), fun hl => HF.out.right hmo hcb.2.1 hcb.2.2 (hiff.2 hl)⟩)
    have hhl : hh < len := by omega
    have hpl : pc < len := by omega
    have hhlz : (hh : Int) < (len : Int) := by omega
    have hplz : (pc : Int) < (len : Int) := by omega
    have m1 := hRS.out.1
    have m2 := hRS.out.2.1
    have hwi : IntKind.i64.wrap ((hh : Int) + 1) = ((hh + 1 : Nat) : Int) := by rw [IntKind.wrap_i64]; omega
    have HCB := aside hcb
    have HSI := aside (And.intro hsi hsj)
    clear hsi hsj hhh hck HF hcb hpc hpR hin hD hN hLo e5
    go_wp2_with fail
    (try rw [e3])
    have hrd : RowAt wr.drew g ys := HR.out.same rfl
    have HRD := aside hrd
    have HCL : Hid (∀ W', RowAt W' g ys → W'.cell? ⟨g, pc, none⟩ = some (.int .i64 (nth ys pc)) ∧ W'.cell? ⟨g, hh, none⟩ = some (.int .i64 (nth ys hh))) := aside (fun W' h => ⟨(h.cell (by omega)).1, (h.cell (by omega)).1⟩)
    have hs0 := HCL.out _ hrd
    obtain ⟨y, hy⟩ : ∃ y, y = nth ys pc := ⟨_, rfl⟩
    obtain ⟨z, hz⟩ : ∃ z, z = nth ys hh := ⟨_, rfl⟩
    obtain ⟨r, hr⟩ : ∃ r, r = cmpI (gf z) (gf y) := ⟨_, rfl⟩
    have HRR : Hid (r < 0 ↔ gf (nth ys hh) < gf (nth ys pc)) := aside (by rw [hr, hy, hz]; exact cmpI_neg)
    have HC2 : Hid (∀ W', Upon g W W' → Calls Tryz.prog 66 #[.int .i64 y, .int .i64 z, .pointer (some ⟨nb, 0, none⟩)] W' (fun e w' => e = .returned (.int .i64 r) ∧ Below W'.heap.size W' w')) := aside (fun W' hu => by rw [hr, hy, hz]; exact HCC.out W' _ _ hu m1 m2)
    have HS0 : wr.drew.cell? ⟨g, pc, none⟩ = some (.int .i64 y) ∧ wr.drew.cell? ⟨g, hh, none⟩ = some (.int .i64 z) := by rw [hy, hz]; exact hs0
    have HCL2 : Hid (∀ W', RowAt W' g ys → W'.cell? ⟨g, pc, none⟩ = some (.int .i64 y) ∧ W'.cell? ⟨g, hh, none⟩ = some (.int .i64 z)) := aside (by rw [hy, hz]; exact HCL.out)
    clear hs0 hrd hr hy hz HCL m1 m2
    go_region_held3 (fun X => X.cell? ⟨g, pc, none⟩ = some (.int .i64 y) ∧ X.cell? ⟨g, hh, none⟩ = some (.int .i64 z))
     (with_reducible (first | exact HS0 | exact HS1))
     (first | (go_at_call 66; refine ((HC2.out _ (HU.out.trans (Upon.drew _ g))).mono ?_); rintro e w4 ⟨rfl, hb⟩; have HR4 := aside (HRD.out.below hb); have HU4 := aside ((HU.out.trans (Upon.drew _ g)).trans (Upon.of_below hb g)); have HS1 := HCL2.out _ HR4.out; clear hb))
    clear HS0 HS1
    by_cases hr0 : r < 0
    ·have HN2 := aside (hRS.out.2.2.1 (HRR.out.1 hr0))
     have hd : (!decide (r < 0)) = false := by rw [decide_eq_true hr0]; rfl
     clear hRS e3
     go_wp2
     any_goals (rename_i hx; exfalso; rw [hd] at hx; cases hx; done)
     exact ⟨⟨i, ck, by have := HCB.out; omega, by have := HCB.out; omega, by rw [HSI.out.1], by rw [HCB.out.1], HN2, HR4, HU4⟩, by have := HCB.out; have := HSI.out; simp [Go.RowKit.intOf]; omega⟩
    ·have HN2 := aside (hRS.out.2.2.2 (by have h9 := mt HRR.out.2 hr0; omega))
     have hd : (!decide (r < 0)) = true := by rw [decide_eq_false hr0]; rfl
     clear hRS e3
     go_wp2
     any_goals (rename_i hx; exfalso; rw [hd] at hx; cases hx; done)
     exact ⟨⟨ck + 1, j, by have := HCB.out; omega, hj, by have := HCB.out; congr 1; omega, by rw [HSI.out.2], HN2, HR4, HU4⟩, by have := HCB.out; have := HSI.out; simp [Go.RowKit.intOf]; omega⟩
   ·obtain rfl : i = j := by omega
    have hD := HD.out
    have hN := HN.out
    have hLo := HLo.out
    have hLL := HLL.out
    have hpd := part_done HsL.out HsR.out HO.out (by rw [← hLL.1, ← hLL.2]; exact HPR.out) (by rw [← hLL.1, ← hLL.2, ← hN.1]; exact HF.out)
    rw [← hLL.1, ← hLL.2, ← hN.1] at hpd
    obtain ⟨d1, d2, d3, hmg⟩ := hpd
    obtain ⟨ee, hee⟩ : ∃ e, e = nn - i := ⟨_, rfl⟩
    rw [← hee] at d3 hmg
    obtain ⟨st, hst⟩ : ∃ s, s = a + i := ⟨_, rfl⟩
    obtain ⟨en, hen⟩ : ∃ s, s = m + ee := ⟨_, rfl⟩
    rw [← hst]
    have HST := aside hst
    have w1 : IntKind.i64.wrap ((n2 : Int) - (st : Int)) = (en : Int) := by rw [IntKind.wrap_i64]; omega
    obtain ⟨L1, hL1⟩ : ∃ X, X = L.take i := ⟨_, rfl⟩
    obtain ⟨L2, hL2⟩ : ∃ X, X = L.drop i := ⟨_, rfl⟩
    obtain ⟨R1, hR1⟩ : ∃ X, X = R.take ee := ⟨_, rfl⟩
    obtain ⟨R2, hR2⟩ : ∃ X, X = R.drop ee := ⟨_, rfl⟩
    have hLe : L = L1 ++ L2 := by rw [hL1, hL2, List.take_append_drop]
    have hRe : R = R1 ++ R2 := by rw [hR1, hR2, List.take_append_drop]
    have k1 : L1.length = i := by rw [hL1, List.length_take]; omega
    have k2 : L2.length = l - i := by rw [hL2, List.length_drop]; omega
    have k3 : R1.length = ee := by rw [hR1, List.length_take]; omega
    have k4 : R2.length = q - ee := by rw [hR2, List.length_drop]; omega
    rw [← hL1, ← hL2, ← hR1, ← hR2] at hmg
    have HMG := aside hmg
    have sL := HsL.out
    have sR := HsR.out
    have hO := HO.out
    have hOk := HOK.out
    have hye := HYE.out
    rw [hLe, hRe] at hye hO hOk
    rw [hLe, List.pairwise_append] at sL
    rw [hRe, List.pairwise_append] at sR
    have hrow : ys = (A ++ L1) ++ (L2 ++ (R1 ++ (R2 ++ B))) := by rw [hye]; simp
    have HRr := HR.out
    rw [hrow] at HRr hlq
    have hl1 : ((A ++ L1) ++ (L2 ++ (R1 ++ (R2 ++ B)))).length = len := hlq
    have HA2 := HA.out
    have hdims : st = (A ++ L1).length ∧ m = (A ++ L1).length + L2.length ∧ en = (A ++ L1).length + L2.length + R1.length := by rw [List.length_append]; omega
    have HC1 : Hid (0 < L2.length → 0 < R1.length → Calls Tryz.prog 139 #[.slice (some ⟨g, 0, none⟩) len c, .int .i64 st, .int .i64 m, .int .i64 en, cmpV nb] wr (fun e w' => e = .returned (.tuple #[]) ∧ RowAt w' g ((A ++ L1) ++ (R1 ++ (L2 ++ (R2 ++ B)))) ∧ Upon g wr w')) := aside (fun x1 x2 => rot_any (A ++ L1) L2 R1 (R2 ++ B) x1 x2 g len c hl1 hl (cmpV nb) st m en hdims.1 hdims.2.1 hdims.2.2 wr HRr)
    have eRow : ∀ S : List Int, (A ++ L1) ++ (R1 ++ (L2 ++ (R2 ++ B))) = A ++ (L1 ++ (R1 ++ (L2 ++ (R2 ++ B)))) := fun _ => by simp
    have HNo : Hid (L2.length = 0 ∨ R1.length = 0 → RowAt wr g (A ++ (L1 ++ (R1 ++ (L2 ++ (R2 ++ B)))))) := aside (fun hz => by
     rcases hz with hz | hz
     ·have := List.eq_nil_of_length_eq_zero hz
      rw [this] at HRr ⊢
      simpa using HRr
     ·have := List.eq_nil_of_length_eq_zero hz
      rw [this] at HRr ⊢
      simpa using HRr)
    have hl2 : (A ++ (L1 ++ (R1 ++ (L2 ++ (R2 ++ B))))).length = len := by
     simp only [List.length_append] at hl1 ⊢
     omega
    have HC2 : Hid (∀ W', Upon g W W' → 0 < L1.length → 0 < R1.length → RowAt W' g (A ++ (L1 ++ (R1 ++ (L2 ++ (R2 ++ B))))) → Calls Tryz.prog 127 #[.slice (some ⟨g, 0, none⟩) len c, .int .i64 a, .int .i64 st, .int .i64 md, cmpV nb] W' (MergeD gf g A (L1 ++ R1) (L2 ++ (R2 ++ B)) W')) := aside (fun W' hu x1 x2 hr =>
     HIH.out A L1 R1 (L2 ++ (R2 ++ B)) a st md W' (by omega) x1 x2 sL.1 sR.1 (fun x hx y hy => hO x (by simp [hx]) y (by simp [hy])) (fun x hx => hOk x (by rcases List.mem_append.1 hx with h | h <;> simp [h])) hl2 HA2.1 (by omega) (by omega) (HCC.out.step hu) hr)
    have HC3 : Hid (∀ W' (S1 : List Int), Upon g W W' → S1.length = L1.length + R1.length → 0 < L2.length → 0 < R2.length → RowAt W' g ((A ++ S1) ++ (L2 ++ (R2 ++ B))) → Calls Tryz.prog 127 #[.slice (some ⟨g, 0, none⟩) len c, .int .i64 md, .int .i64 en, .int .i64 b, cmpV nb] W' (MergeD gf g (A ++ S1) (L2 ++ R2) B W')) := aside (fun W' S1 hu hs1 x1 x2 hr =>
     HIH.out (A ++ S1) L2 R2 B md en b W' (by omega) x1 x2 sL.2.1 sR.2.1 (fun x hx y hy => hO x (by simp [hx]) y (by simp [hy])) (fun x hx => hOk x (by rcases List.mem_append.1 hx with h | h <;> simp [h])) (by simp only [List.length_append] at hl2 ⊢; omega) (by rw [List.length_append]; omega) (by rw [List.length_append]; omega) (by rw [List.length_append]; omega) (HCC.out.step hu) hr)
    have HOne : Hid ((L1.length = 0 ∨ R1.length = 0) → (L1 ++ R1).Pairwise (LtG gf)) := aside (fun hz => by
     rcases hz with hz | hz
     ·rw [List.eq_nil_of_length_eq_zero hz]; exact sR.1
     ·rw [List.eq_nil_of_length_eq_zero hz, List.append_nil]; exact sL.1)
    have HTwo : Hid ((L2.length = 0 ∨ R2.length = 0) → (L2 ++ R2).Pairwise (LtG gf)) := aside (fun hz => by
     rcases hz with hz | hz
     ·rw [List.eq_nil_of_length_eq_zero hz]; exact sR.2.1
     ·rw [List.eq_nil_of_length_eq_zero hz, List.append_nil]; exact sL.2.1)
    have HK : Hid (L1.length = i ∧ L2.length = l - i ∧ R1.length = ee ∧ R2.length = q - ee ∧ ee = nn - i ∧ st = a + i ∧ en = m + ee ∧ i ≤ l ∧ i ≤ nn ∧ ee ≤ q ∧ m = a + l ∧ b = a + l + q ∧ md = a + nn) := aside ⟨k1, k2, k3, k4, hee, hst, hen, d1, d2, d3, hD.1, hD.2.1, hN.2.1⟩
    have ix : ((st : Int) < (st : Int)) = False := by simp
    clear hrow HRr hlq hl1 hl2 hdims eRow hye hO hOk sL sR hmg k1 k2 k3 k4 hee hst hen d1 d2 d3 hL1 hL2 hR1 hR2 hLe hRe hD hN hLo hLL HA2 HF hij hlt HYE HNL HNR
    go_upto_region 39 with fail
    go_cut [185] from 25 (fun v185 wx => v185 = .bool (decide (i < l ∧ 0 < ee)) ∧ wx = wr)
    case first =>
     as_aux_lemma =>
     have hK := HK.out
     by_cases hp : i < l
     ·have hpz : (st : Int) < (m : Int) := by omega
      by_cases hq : 0 < ee
      ·have hqz : (m : Int) < (en : Int) := by omega
       clear hK
       go_wp2_with fail
       go_meet
       exact ⟨by rw [decide_eq_true (show _ ∧ _ from ⟨hp, hq⟩)] <;> (first | rfl | (simp [*]; done) | (simp [*]; omega)), rfl⟩
      ·have hqz : (en : Int) ≤ (m : Int) := by omega
       clear hK
       go_wp2_with fail
       go_meet
       exact ⟨by rw [decide_eq_false (fun h : _ ∧ _ => hq h.2)] <;> (first | rfl | (simp [*]; done) | (simp [*]; omega)), rfl⟩
     ·have hpz : (m : Int) ≤ (st : Int) := by omega
      clear hK
      go_wp2_with fail
      go_meet
      exact ⟨by rw [decide_eq_false (fun h : _ ∧ _ => hp h.1)] <;> (first | rfl | (simp [*]; done) | (simp [*]; omega)), rfl⟩
    case rest =>
     as_aux_lemma =>
     obtain ⟨rfl, hw⟩ := hcut
     have hw2 := hw.symm
     subst hw2
     clear hw
     obtain ⟨bb, hbb⟩ : ∃ bb, bb = decide (i < l ∧ 0 < ee) := ⟨_, rfl⟩
     rw [← hbb]
     have HBB := aside hbb
     clear hbb
     go_upto_if 185 with fail
     go_cut [20] from 25 (fun v20 wx => v20 = .int .i64 st ∧ Hid (RowAt wx g (A ++ (L1 ++ (R1 ++ (L2 ++ (R2 ++ B)))))) ∧ Hid (Upon g W wx))
     case first =>
      as_aux_lemma =>
      have hK := HK.out
      cases bb with
      | true =>
       have hpq := of_decide_eq_true HBB.out.symm
       have hp := hpq.1
       have hq := hpq.2
       clear hpq
       have HCr := aside (HC1.out (by omega) (by omega))
       clear hK hp hq
       go_wp2_with fail
       refine HCr.out.mono ?_
       rintro e w1 ⟨rfl, hr1, hu1⟩
       have HRn : Hid (RowAt w1 g (A ++ (L1 ++ (R1 ++ (L2 ++ (R2 ++ B)))))) := aside (by rw [List.append_assoc] at hr1; exact hr1)
       have HUn := aside (HU.out.trans hu1)
       clear hr1 hu1
       go_wp2_with fail
       go_meet
       exact ⟨rfl, HRn, HUn⟩
      | false =>
       have hnn := of_decide_eq_false HBB.out.symm
       have HRn := aside (HNo.out (by omega))
       clear hK hnn
       go_wp2_with fail
       go_meet
       exact ⟨rfl, HRn, HU⟩
     case rest =>
      as_aux_lemma =>
      obtain ⟨rfl, HR, HU⟩ := hcut
      go_upto_region 41 with fail
      go_cut [199] from 25 (fun v199 wx => v199 = .bool (decide (0 < i ∧ 0 < ee)) ∧ wx = wc)
      case first =>
       as_aux_lemma =>
       have hK := HK.out
       by_cases hp : 0 < i
       ·have hpz : (a : Int) < (st : Int) := by omega
        by_cases hq : 0 < ee
        ·have hqz : (st : Int) < (md : Int) := by omega
         clear hK
         go_wp2_with fail
         go_meet
         exact ⟨by rw [decide_eq_true (show _ ∧ _ from ⟨hp, hq⟩)] <;> (first | rfl | (simp [*]; done) | (simp [*]; omega)), rfl⟩
        ·have hqz : (md : Int) ≤ (st : Int) := by omega
         clear hK
         go_wp2_with fail
         go_meet
         exact ⟨by rw [decide_eq_false (fun h : _ ∧ _ => hq h.2)] <;> (first | rfl | (simp [*]; done) | (simp [*]; omega)), rfl⟩
       ·have hpz : (st : Int) ≤ (a : Int) := by omega
        clear hK
        go_wp2_with fail
        go_meet
        exact ⟨by rw [decide_eq_false (fun h : _ ∧ _ => hp h.1)] <;> (first | rfl | (simp [*]; done) | (simp [*]; omega)), rfl⟩
      case rest =>
       as_aux_lemma =>
       obtain ⟨rfl, hw⟩ := hcut
       have hw2 := hw.symm
       subst hw2
       clear hw
       obtain ⟨bb, hbb⟩ : ∃ bb, bb = decide (0 < i ∧ 0 < ee) := ⟨_, rfl⟩
       rw [← hbb]
       have HBB := aside hbb
       clear hbb
       go_upto_if 199 with fail
       go_cut [20] from 25 (fun v20 wx => v20 = .int .i64 st ∧ Hid (∃ S1, RowAt wx g ((A ++ S1) ++ (L2 ++ (R2 ++ B))) ∧ S1.Perm (L1 ++ R1) ∧ S1.Pairwise (LtG gf)) ∧ Hid (Upon g W wx))
       case first =>
        as_aux_lemma =>
        have hK := HK.out
        cases bb with
        | true =>
         have hpq := of_decide_eq_true HBB.out.symm
         have hp := hpq.1
         have hq := hpq.2
         clear hpq
         have HCr := aside (HC2.out _ HU.out (by omega) (by omega) HR.out)
         clear hK hp hq
         go_wp2_with fail
         refine HCr.out.mono ?_
         rintro e w1 ⟨rfl, hex, hu1⟩
         have HRn : Hid (∃ S1, RowAt w1 g ((A ++ S1) ++ (L2 ++ (R2 ++ B))) ∧ S1.Perm (L1 ++ R1) ∧ S1.Pairwise (LtG gf)) := aside (by
          obtain ⟨S, hr, hp, hs⟩ := hex
          exact ⟨S, by rw [List.append_assoc]; exact hr, hp, hs⟩)
         have HUn := aside (HU.out.trans hu1)
         clear hex hu1
         go_wp2_with fail
         go_meet
         exact ⟨rfl, HRn, HUn⟩
        | false =>
         have hnn := of_decide_eq_false HBB.out.symm
         have HRn : Hid (∃ S1, RowAt wc g ((A ++ S1) ++ (L2 ++ (R2 ++ B))) ∧ S1.Perm (L1 ++ R1) ∧ S1.Pairwise (LtG gf)) := aside ⟨L1 ++ R1, by have h := HR.out; simpa using h, List.Perm.refl _, HOne.out (by omega)⟩
         clear hK hnn
         go_wp2_with fail
         go_meet
         exact ⟨rfl, HRn, HU⟩
       case rest =>
        as_aux_lemma =>
        obtain ⟨rfl, HE, HU⟩ := hcut
        have hex := HE.out
        obtain ⟨S1, hr1, hp1, hs1⟩ := hex
        have HR1' := aside hr1
        have HP1 := aside hp1
        have HS1 := aside hs1
        have HSl : Hid (S1.length = L1.length + R1.length) := aside (by rw [hp1.length_eq, List.length_append])
        clear hr1 hp1 hs1 HE
        go_upto_region 43 with fail
        go_cut [213] from 25 (fun v213 wx => v213 = .bool (decide (i < l ∧ ee < q)) ∧ wx = wc)
        case first =>
         as_aux_lemma =>
         have hK := HK.out
         by_cases hp : i < l
         ·have hpz : (md : Int) < (en : Int) := by omega
          by_cases hq : ee < q
          ·have hqz : (en : Int) < (b : Int) := by omega
           clear hK
           go_wp2_with fail
           go_meet
           exact ⟨by rw [decide_eq_true (show _ ∧ _ from ⟨hp, hq⟩)] <;> (first | rfl | (simp [*]; done) | (simp [*]; omega)), rfl⟩
          ·have hqz : (b : Int) ≤ (en : Int) := by omega
           clear hK
           go_wp2_with fail
           go_meet
           exact ⟨by rw [decide_eq_false (fun h : _ ∧ _ => hq h.2)] <;> (first | rfl | (simp [*]; done) | (simp [*]; omega)), rfl⟩
         ·have hpz : (en : Int) ≤ (md : Int) := by omega
          clear hK
          go_wp2_with fail
          go_meet
          exact ⟨by rw [decide_eq_false (fun h : _ ∧ _ => hp h.1)] <;> (first | rfl | (simp [*]; done) | (simp [*]; omega)), rfl⟩
        case rest =>
         as_aux_lemma =>
         obtain ⟨rfl, hw⟩ := hcut
         have hw2 := hw.symm
         subst hw2
         clear hw
         obtain ⟨bb, hbb⟩ : ∃ bb, bb = decide (i < l ∧ ee < q) := ⟨_, rfl⟩
         rw [← hbb]
         have HBB := aside hbb
         clear hbb
         go_upto_if 213 with fail
         have hK := HK.out
         cases bb with
         | true =>
          have hpq := of_decide_eq_true HBB.out.symm
          have hp := hpq.1
          have hq := hpq.2
          clear hpq
          have HCr := aside (HC3.out _ S1 HU.out HSl.out (by omega) (by omega) HR1'.out)
          clear hK hp hq
          go_wp2_with fail
          refine HCr.out.mono ?_
          rintro e w1 ⟨rfl, hex, hu1⟩
          obtain ⟨S2, hr2, hp2, hs2⟩ := hex
          have HR2' := aside hr2
          have HM := aside (HMG.out S1 S2 HP1.out hp2 HS1.out hs2)
          have HUn := aside (HU.out.trans hu1)
          clear hr2 hp2 hs2 hu1
          go_wp2
          go_end0
          refine ⟨rfl, ⟨S1 ++ S2, ?_, HM.out.2, HM.out.1⟩, HUn.out⟩
          have h := HR2'.out
          simpa using h
         | false =>
          have hnn := of_decide_eq_false HBB.out.symm
          have HTw := aside (HTwo.out (by omega))
          clear hK hnn
          go_wp2
          go_end0
          have hm := HMG.out S1 (L2 ++ R2) HP1.out (List.Perm.refl _) HS1.out HTw.out
          refine ⟨rfl, ⟨S1 ++ (L2 ++ R2), ?_, hm.2, hm.1⟩, HU.out⟩
          have h := HR1'.out
          simpa using h

end Go.Proofs.YtbpabjhcjffkmaaGreatDoor.Pk
