/- slices.symMergeCmpFunc where one half is of one place. Conditions: named in each theorem. -/
import Derived.Test.YtbpabjhcjffkmaaGreatDoorSrtB
namespace Go.Proofs.YtbpabjhcjffkmaaGreatDoor.Pk
open Go.RowKit Go.ChangeShapes Go.WideShapes Go.ChangeAt

/-- What a merge leaves. -/
def MergeD (gf : Int → Int) (g : Nat) (A X B : List Int) (W : World) (e : Ending) (w' : World) : Prop := e = .returned (.tuple #[]) ∧ (∃ S, RowAt w' g (A ++ (S ++ B)) ∧ S.Perm X ∧ S.Pairwise (LtG gf)) ∧ Upon g W w'
set_option maxHeartbeats 16000000 in
set_option maxRecDepth 100000 in
theorem sym_oneL (A : List Int) (x : Int) (R B : List Int) (gf : Int → Int) (Ok : Int → Prop) (hs : R.Pairwise (LtG gf)) (hO : ∀ y ∈ R, x < y) (h0 : 0 < R.length) (hOk : ∀ z ∈ [x] ++ R, Ok z) (g nb len c : Nat) (hlen : (A ++ ([x] ++ (R ++ B))).length = len) (hl : len ≤ 1000) (a m b : Nat) (ha : a = A.length) (hm : m = A.length + 1) (hb : b = A.length + 1 + R.length) (W : World) (hc : CmpC g W nb gf Ok) (h : RowAt W g (A ++ ([x] ++ (R ++ B)))) :
  Calls Tryz.prog 127 #[.slice (some ⟨g, 0, none⟩) len c, .int .i64 a, .int .i64 m, .int .i64 b, cmpV nb] W (MergeD gf g A ([x] ++ R) B W) := by
 have hlb : b ≤ len ∧ a < m ∧ m < b := by
  simp only [List.length_append, List.length_cons, List.length_nil] at hlen
  omega
 have HR := aside h
 have HU := aside (Upon.refl g W)
 have HCC := aside hc
 have HSo := aside hs
 have HO := aside hO
 have HOK := aside hOk
 have HD := aside (And.intro ha (And.intro hm hb))
 have HF := aside (Fnd.start (f := FR gf x R) (Nat.zero_le R.length))
 have hla : (A ++ ([x] ++ (R ++ B))).length = len := hlen
 obtain ⟨q0, hq0⟩ : ∃ q, q = R.length := ⟨_, rfl⟩
 skip
 have hbq : b = m + q0 ∧ m = a + 1 := by omega
 have HQ0 := aside hq0
 have HBQ := aside hbq
 rw [← hq0] at HF
 have HNX : Hid (nth (A ++ ([x] ++ (R ++ B))) a = x) := aside (by rw [nth_app2 (by omega), show a - A.length = 0 by omega]; rfl)
 have HNR : Hid (∀ k, k < q0 → nth (A ++ ([x] ++ (R ++ B))) (m + k) = nth R k) := aside (fun k hk => by
  rw [nth_app2 (by omega), nth_app2 (by simp only [List.length_cons, List.length_nil]; omega), nth_app1 (by simp only [List.length_cons, List.length_nil]; omega)]
  congr 1
  simp only [List.length_cons, List.length_nil]
  omega)
 have HM : Hid (MovR A x R B 0 (A ++ ([x] ++ (R ++ B)))) := aside (by unfold MovR; simp)
 generalize hys : A ++ ([x] ++ (R ++ B)) = ys at HR HM hla HNX HNR
 clear hys h hlen hs hO hOk hc ha hm hb h0 hq0
 have e1 : IntKind.i64.wrap ((m : Int) - (a : Int)) = 1 := by rw [IntKind.wrap_i64]; omega
 clear hbq
 go_enter Tryz.func127, Tryz.ntmps127
 go_wp2
 clear e1 
 go_loopw [10, 11] (fun v10 v11 wr => ∃ (i j : Nat), i ≤ j ∧ j ≤ q0 ∧ v10 = .int .i64 ((m + i : Nat) : Int) ∧ v11 = .int .i64 ((m + j : Nat) : Int) ∧ Hid (Fnd (FR gf x R) 0 q0 i j) ∧ Hid (RowAt wr g ys) ∧ Hid (Upon g W wr)) (fun v10 v11 _ => (Go.RowKit.intOf v11).toNat - (Go.RowKit.intOf v10).toNat)
 case atStart => exact ⟨0, q0, Nat.zero_le _, Nat.le_refl _, by have := HBQ.out; first | rfl | (congr 1; omega), by have := HBQ.out; first | rfl | (congr 1; omega), HF, HR, HU⟩
 case round =>
  clear HF HR HU
  obtain ⟨i, j, hij, hj, rfl, rfl, HF, HR, HU⟩ := hrel
  by_cases hlt : i < j
  ·have hbq := HBQ.out
   obtain ⟨hi, hhi⟩ : ∃ q, q = m + i := ⟨_, rfl⟩
   obtain ⟨hj2, hhj⟩ : ∃ q, q = m + j := ⟨_, rfl⟩
   rw [← hhi, ← hhj]
   obtain ⟨hh, hhh⟩ : ∃ q, q = (hi + hj2) / 2 := ⟨_, rfl⟩
   obtain ⟨ck, hck⟩ : ∃ q, q = (i + j) / 2 := ⟨_, rfl⟩
   have hcb : hh = m + ck ∧ i ≤ ck ∧ ck < j := by omega
   have e3 : ((hi : Int) + (hj2 : Int)) / 2 = (hh : Int) := by omega
   have i0 : (hi : Int) < (hj2 : Int) := by omega
   have hRS : Hid (∀ d, d = nth ys hh → Ok d ∧ (gf x < gf d → Fnd (FR gf x R) 0 q0 (ck + 1) j) ∧ (¬ gf x < gf d → Fnd (FR gf x R) 0 q0 i ck)) := aside (fun d hd => by
    have hq0 := HQ0.out
    have hd2 : d = nth R ck := by rw [hd, hcb.1]; exact HNR.out ck (by omega)
    have hmem : d ∈ R := by rw [hd2]; exact nth_mem (by omega)
    have hold := HO.out d hmem
    have hmo : Mono (FR gf x R) 0 q0 := by rw [hq0]; exact mono_R HSo.out
    have hiff : FR gf x R ck ↔ gf x < gf d := by
     unfold FR
     rw [← hd2]
     exact ltG_older hold
    refine ⟨HOK.out d (by simp [hmem]), fun hl => ?_, fun hl => ?_⟩
    ·exact HF.out.right hmo hcb.2.1 hcb.2.2 (hiff.2 hl)
    ·exact HF.out.left hmo hcb.2.1 hcb.2.2 (fun hf => hl (hiff.1 hf)))
   have hhl : hh < len := by omega
   have hal : a < len := by omega
   have hhlz : (hh : Int) < (len : Int) := by omega
   have halz : (a : Int) < (len : Int) := by omega
   have m1 : Ok (nth ys hh) := (hRS.out _ rfl).1
   have m2 : Ok (nth ys a) := by rw [HNX.out]; exact HOK.out x (by simp)
   have hwi : IntKind.i64.wrap ((hh : Int) + 1) = ((hh + 1 : Nat) : Int) := by rw [IntKind.wrap_i64]; omega
   have HCB := aside hcb
   have HHI := aside (And.intro hhi hhj)
   have HHH := aside hhh
   clear hhi hhj hhh hck HF hcb hbq
   go_wp2_with fail
   (try rw [e3])
   have hrd : RowAt wr.drew g ys := HR.out.same rfl
   have HRD := aside hrd
   have HCL : Hid (∀ W', RowAt W' g ys → W'.cell? ⟨g, hh, none⟩ = some (.int .i64 (nth ys hh)) ∧ W'.cell? ⟨g, a, none⟩ = some (.int .i64 (nth ys a))) := aside (fun W' h => ⟨(h.cell (by omega)).1, (h.cell (by omega)).1⟩)
   have hs0 := HCL.out _ hrd
   obtain ⟨y, hy⟩ : ∃ y, y = nth ys hh := ⟨_, rfl⟩
   obtain ⟨z, hz⟩ : ∃ z, z = nth ys a := ⟨_, rfl⟩
   obtain ⟨r, hr⟩ : ∃ r, r = cmpI (gf z) (gf y) := ⟨_, rfl⟩
   have HRR : Hid (r < 0 ↔ gf (nth ys a) < gf (nth ys hh)) := aside (by rw [hr, hy, hz]; exact cmpI_neg)
   have HC2 : Hid (∀ W', Upon g W W' → Calls Tryz.prog 66 #[.int .i64 y, .int .i64 z, .pointer (some ⟨nb, 0, none⟩)] W' (fun e w' => e = .returned (.int .i64 r) ∧ Below W'.heap.size W' w')) := aside (fun W' hu => by rw [hr, hy, hz]; exact HCC.out W' _ _ hu m1 m2)
   have HS0 : wr.drew.cell? ⟨g, hh, none⟩ = some (.int .i64 y) ∧ wr.drew.cell? ⟨g, a, none⟩ = some (.int .i64 z) := by rw [hy, hz]; exact hs0
   have HCL2 : Hid (∀ W', RowAt W' g ys → W'.cell? ⟨g, hh, none⟩ = some (.int .i64 y) ∧ W'.cell? ⟨g, a, none⟩ = some (.int .i64 z)) := aside (by rw [hy, hz]; exact HCL.out)
   clear hs0 hrd hr hy hz HCL m1 m2
   go_region_held3 (fun X => X.cell? ⟨g, hh, none⟩ = some (.int .i64 y) ∧ X.cell? ⟨g, a, none⟩ = some (.int .i64 z))
    (with_reducible (first | exact HS0 | exact HS1))
    (first | (go_at_call 66; refine ((HC2.out _ (HU.out.trans (Upon.drew _ g))).mono ?_); rintro e w4 ⟨rfl, hb⟩; have HR4 := aside (HRD.out.below hb); have HU4 := aside ((HU.out.trans (Upon.drew _ g)).trans (Upon.of_below hb g)); have HS1 := HCL2.out _ HR4.out; clear hb))
   clear HS0 HS1
   by_cases hr0 : r < 0
   ·have hN := (hRS.out _ rfl).2.1 (by have := HRR.out.1 hr0; rwa [HNX.out] at this)
    have HN := aside hN
    have hd : (!decide (r < 0)) = false := by rw [decide_eq_true hr0]; rfl
    clear hN hRS e3
    go_wp2
    skip
    exact ⟨⟨ck + 1, j, by have := HCB.out; omega, hj, by have := HCB.out; first | rfl | (congr 1; omega), by rw [HHI.out.2], HN, HR4, HU4⟩, by have := HCB.out; have := HHI.out; simp [Go.RowKit.intOf]; omega⟩
   ·have hN := (hRS.out _ rfl).2.2 (by have h9 := mt HRR.out.2 hr0; rw [HNX.out] at h9; omega)
    have HN := aside hN
    have hd : (!decide (r < 0)) = true := by rw [decide_eq_false hr0]; rfl
    clear hN hRS e3
    go_wp2
    skip
    exact ⟨⟨i, ck, by have := HCB.out; omega, by have := HCB.out; omega, by rw [HHI.out.1], by have := HCB.out; first | rfl | (congr 1; omega), HN, HR4, HU4⟩, by have := HCB.out; have := HHI.out; simp [Go.RowKit.intOf]; omega⟩
  ·obtain rfl : i = j := by omega
   have hins := ins_R HSo.out HO.out (by rw [← HQ0.out]; exact HF.out)
   have HI := aside hins
   obtain ⟨mi, hmi⟩ : ∃ q, q = m + i := ⟨_, rfl⟩
   rw [← hmi]
   have HMI := aside hmi
   have i0 : ((mi : Int) < (mi : Int)) = False := by simp
   have hwm : IntKind.i64.wrap ((mi : Int) - 1) = ((a + i : Nat) : Int) := by have := HBQ.out; rw [IntKind.wrap_i64]; omega
   obtain ⟨ai, hai⟩ : ∃ q, q = a + i := ⟨_, rfl⟩
   rw [← hai] at hwm
   have HAI := aside hai
   clear hmi hai hins HF hij
   go_wp2_with fail
   go_loopw [13] (fun v13 wr => ∃ (k : Nat) (zs : List Int), k ≤ i ∧ v13 = .int .i64 ((a + k : Nat) : Int) ∧ Hid (MovR A x R B k zs) ∧ Hid (RowAt wr g zs) ∧ Hid (Upon g W wr) ∧ zs.length = len) (fun v13 _ => ai - (Go.RowKit.intOf v13).toNat)
   case atStart => exact ⟨0, ys, Nat.zero_le _, rfl, HM, HR, HU, hla⟩
   case round =>
    clear HM HR HU hla
    obtain ⟨k, zs, hk, rfl, HM, HR, HU, hlz⟩ := hrel
    obtain ⟨ak, hak⟩ : ∃ q, q = a + k := ⟨_, rfl⟩
    rw [← hak]
    have HAK := aside hak
    by_cases hki : k < i
    ·have hq0 := HQ0.out
     have hst := HM.out.step (j := ak) (by omega) (by have := HD.out.1; omega)
     obtain ⟨s1, s2⟩ := hst
     have HT := aside (HR.out.two (a := ak) (b := ak + 1) (by omega) (by omega) (nth zs (ak + 1)) (nth zs ak))
     obtain ⟨p1, f1⟩ := HR.out.cell (k := ak) (by omega)
     obtain ⟨p2, f2⟩ := HR.out.cell (k := ak + 1) (by omega)
     have hlz2 : ((zs.set ak (nth zs (ak + 1))).set (ak + 1) (nth zs ak)).length = len := by simpa using hlz
     have HLZ := aside hlz2
     have HN := aside s1
     obtain ⟨bk, hbk⟩ : ∃ q, q = ak + 1 := ⟨_, rfl⟩
     rw [← hbk] at HT p2 f2 HLZ HN s2
     generalize nth zs bk = v at HT p2 HLZ HN
     generalize nth zs ak = u at HT p1 HLZ HN
     have q1 : (ak : Int) < (len : Int) := by omega
     have q2 : (bk : Int) < (len : Int) := by omega
     have q1n : ak < len := by omega
     have q2n : bk < len := by omega
     have ne1 : (ak = bk) = False := by simp only [eq_iff_iff, iff_false]; omega
     have ne2 : (bk = ak) = False := by simp only [eq_iff_iff, iff_false]; omega
     have hwk : IntKind.i64.wrap ((ak : Int) + 1) = (bk : Int) := by rw [IntKind.wrap_i64]; omega
     have i1 : (ak : Int) < (ai : Int) := by have := HAI.out; omega
     have HBK := aside hbk
     clear hak hbk hq0 s1 s2 hlz2
     go_wp2_with fail
     go_region
     go_wp2
     exact ⟨⟨k + 1, _, hki, by have := HBK.out; have := HAK.out; congr 1; omega, HN, aside HT.out.1, aside (HU.out.trans HT.out.2), HLZ.out⟩, by have := HBK.out; have := HAI.out; have := HAK.out; simp [Go.RowKit.intOf]; omega⟩
    ·obtain rfl : i = k := by omega
     have i1 : ((ak : Int) < (ai : Int)) = False := by have := HAI.out; simp only [eq_iff_iff, iff_false]; omega
     have hfin : zs = A ++ ((R.take i ++ x :: R.drop i) ++ B) := by
      have h := HM.out
      unfold MovR at h
      rw [h]
      simp
     rw [hfin] at HR
     clear hak hfin hlz HM
     go_wp2
     go_end0
     exact ⟨rfl, ⟨_, HR.out, HI.out.2, HI.out.1⟩, HU.out⟩
set_option maxHeartbeats 16000000 in
set_option maxRecDepth 100000 in
theorem sym_oneR (A L : List Int) (y0 : Int) (B : List Int) (gf : Int → Int) (Ok : Int → Prop) (hs : L.Pairwise (LtG gf)) (hO : ∀ x ∈ L, x < y0) (h0 : 1 < L.length) (hOk : ∀ z ∈ L ++ [y0], Ok z) (g nb len c : Nat) (hlen : (A ++ (L ++ ([y0] ++ B))).length = len) (hl : len ≤ 1000) (a m b : Nat) (ha : a = A.length) (hm : m = A.length + L.length) (hb : b = A.length + L.length + 1) (W : World) (hc : CmpC g W nb gf Ok) (h : RowAt W g (A ++ (L ++ ([y0] ++ B)))) :
  Calls Tryz.prog 127 #[.slice (some ⟨g, 0, none⟩) len c, .int .i64 a, .int .i64 m, .int .i64 b, cmpV nb] W (MergeD gf g A (L ++ [y0]) B W) := by
 have hlb : b ≤ len ∧ a < m ∧ m < b := by
  simp only [List.length_append, List.length_cons, List.length_nil] at hlen
  omega
 have HR := aside h
 have HU := aside (Upon.refl g W)
 have HCC := aside hc
 have HSo := aside hs
 have HO := aside hO
 have HOK := aside hOk
 have HD := aside (And.intro ha (And.intro hm hb))
 have HF := aside (Fnd.start (f := FL gf y0 L) (Nat.zero_le L.length))
 have hla : (A ++ (L ++ ([y0] ++ B))).length = len := hlen
 obtain ⟨q0, hq0⟩ : ∃ q, q = L.length := ⟨_, rfl⟩
 have hq1 : 1 < q0 := by omega
 have hbq : b = m + 1 ∧ m = a + q0 := by omega
 have HQ0 := aside hq0
 have HBQ := aside hbq
 rw [← hq0] at HF
 have HNX : Hid (nth (A ++ (L ++ ([y0] ++ B))) m = y0) := aside (by rw [nth_app2 (by omega), nth_app2 (by omega), show m - A.length - L.length = 0 by omega]; rfl)
 have HNR : Hid (∀ k, k < q0 → nth (A ++ (L ++ ([y0] ++ B))) (a + k) = nth L k) := aside (fun k hk => by
  rw [nth_app2 (by omega), nth_app1 (by omega)]
  congr 1
  omega)
 have HM : Hid (MovR A y0 L B q0 (A ++ (L ++ ([y0] ++ B)))) := aside (by unfold MovR; rw [hq0, List.take_length, List.drop_length]; rfl)
 generalize hys : A ++ (L ++ ([y0] ++ B)) = ys at HR HM hla HNX HNR
 clear hys h hlen hs hO hOk hc ha hm hb h0 hq0
 have e1 : IntKind.i64.wrap ((m : Int) - (a : Int)) = (q0 : Int) := by rw [IntKind.wrap_i64]; omega
 have e1b : ((q0 : Int) == 1) = false := by simp; omega
 have e2 : IntKind.i64.wrap ((b : Int) - (m : Int)) = 1 := by rw [IntKind.wrap_i64]; omega
 clear hbq
 go_enter Tryz.func127, Tryz.ntmps127
 go_wp2
 clear e1 e1b e2
 go_loopw [14, 15] (fun v14 v15 wr => ∃ (i j : Nat), i ≤ j ∧ j ≤ q0 ∧ v14 = .int .i64 ((a + i : Nat) : Int) ∧ v15 = .int .i64 ((a + j : Nat) : Int) ∧ Hid (Fnd (FL gf y0 L) 0 q0 i j) ∧ Hid (RowAt wr g ys) ∧ Hid (Upon g W wr)) (fun v14 v15 _ => (Go.RowKit.intOf v15).toNat - (Go.RowKit.intOf v14).toNat)
 case atStart => exact ⟨0, q0, Nat.zero_le _, Nat.le_refl _, by have := HBQ.out; first | rfl | (congr 1; omega), by have := HBQ.out; first | rfl | (congr 1; omega), HF, HR, HU⟩
 case round =>
  clear HF HR HU
  obtain ⟨i, j, hij, hj, rfl, rfl, HF, HR, HU⟩ := hrel
  by_cases hlt : i < j
  ·have hbq := HBQ.out
   obtain ⟨hi, hhi⟩ : ∃ q, q = a + i := ⟨_, rfl⟩
   obtain ⟨hj2, hhj⟩ : ∃ q, q = a + j := ⟨_, rfl⟩
   rw [← hhi, ← hhj]
   obtain ⟨hh, hhh⟩ : ∃ q, q = (hi + hj2) / 2 := ⟨_, rfl⟩
   obtain ⟨ck, hck⟩ : ∃ q, q = (i + j) / 2 := ⟨_, rfl⟩
   have hcb : hh = a + ck ∧ i ≤ ck ∧ ck < j := by omega
   have e3 : ((hi : Int) + (hj2 : Int)) / 2 = (hh : Int) := by omega
   have i0 : (hi : Int) < (hj2 : Int) := by omega
   have hRS : Hid (∀ d, d = nth ys hh → Ok d ∧ (gf d < gf y0 → Fnd (FL gf y0 L) 0 q0 i ck) ∧ (¬ gf d < gf y0 → Fnd (FL gf y0 L) 0 q0 (ck + 1) j)) := aside (fun d hd => by
    have hq0 := HQ0.out
    have hd2 : d = nth L ck := by rw [hd, hcb.1]; exact HNR.out ck (by omega)
    have hmem : d ∈ L := by rw [hd2]; exact nth_mem (by omega)
    have hold := HO.out d hmem
    have hmo : Mono (FL gf y0 L) 0 q0 := by rw [hq0]; exact mono_L HSo.out
    have hiff : FL gf y0 L ck ↔ ¬ gf d < gf y0 := by
     unfold FL
     rw [← hd2]
     exact not_congr (ltG_older hold)
    refine ⟨HOK.out d (by simp [hmem]), fun hl => ?_, fun hl => ?_⟩
    ·exact HF.out.left hmo hcb.2.1 hcb.2.2 (fun hf => hiff.1 hf hl)
    ·exact HF.out.right hmo hcb.2.1 hcb.2.2 (hiff.2 hl))
   have hhl : hh < len := by omega
   have hal : m < len := by omega
   have hhlz : (hh : Int) < (len : Int) := by omega
   have halz : (m : Int) < (len : Int) := by omega
   have m1 : Ok (nth ys m) := by rw [HNX.out]; exact HOK.out y0 (by simp)
   have m2 : Ok (nth ys hh) := (hRS.out _ rfl).1
   have hwi : IntKind.i64.wrap ((hh : Int) + 1) = ((hh + 1 : Nat) : Int) := by rw [IntKind.wrap_i64]; omega
   have HCB := aside hcb
   have HHI := aside (And.intro hhi hhj)
   have HHH := aside hhh
   clear hhi hhj hhh hck HF hcb hbq
   go_wp2_with fail
   (try rw [e3])
   have hrd : RowAt wr.drew g ys := HR.out.same rfl
   have HRD := aside hrd
   have HCL : Hid (∀ W', RowAt W' g ys → W'.cell? ⟨g, m, none⟩ = some (.int .i64 (nth ys m)) ∧ W'.cell? ⟨g, hh, none⟩ = some (.int .i64 (nth ys hh))) := aside (fun W' h => ⟨(h.cell (by omega)).1, (h.cell (by omega)).1⟩)
   have hs0 := HCL.out _ hrd
   obtain ⟨y, hy⟩ : ∃ y, y = nth ys m := ⟨_, rfl⟩
   obtain ⟨z, hz⟩ : ∃ z, z = nth ys hh := ⟨_, rfl⟩
   obtain ⟨r, hr⟩ : ∃ r, r = cmpI (gf z) (gf y) := ⟨_, rfl⟩
   have HRR : Hid (r < 0 ↔ gf (nth ys hh) < gf (nth ys m)) := aside (by rw [hr, hy, hz]; exact cmpI_neg)
   have HC2 : Hid (∀ W', Upon g W W' → Calls Tryz.prog 66 #[.int .i64 y, .int .i64 z, .pointer (some ⟨nb, 0, none⟩)] W' (fun e w' => e = .returned (.int .i64 r) ∧ Below W'.heap.size W' w')) := aside (fun W' hu => by rw [hr, hy, hz]; exact HCC.out W' _ _ hu m1 m2)
   have HS0 : wr.drew.cell? ⟨g, m, none⟩ = some (.int .i64 y) ∧ wr.drew.cell? ⟨g, hh, none⟩ = some (.int .i64 z) := by rw [hy, hz]; exact hs0
   have HCL2 : Hid (∀ W', RowAt W' g ys → W'.cell? ⟨g, m, none⟩ = some (.int .i64 y) ∧ W'.cell? ⟨g, hh, none⟩ = some (.int .i64 z)) := aside (by rw [hy, hz]; exact HCL.out)
   clear hs0 hrd hr hy hz HCL m1 m2
   go_region_held3 (fun X => X.cell? ⟨g, m, none⟩ = some (.int .i64 y) ∧ X.cell? ⟨g, hh, none⟩ = some (.int .i64 z))
    (with_reducible (first | exact HS0 | exact HS1))
    (first | (go_at_call 66; refine ((HC2.out _ (HU.out.trans (Upon.drew _ g))).mono ?_); rintro e w4 ⟨rfl, hb⟩; have HR4 := aside (HRD.out.below hb); have HU4 := aside ((HU.out.trans (Upon.drew _ g)).trans (Upon.of_below hb g)); have HS1 := HCL2.out _ HR4.out; clear hb))
   clear HS0 HS1
   by_cases hr0 : r < 0
   ·have hN := (hRS.out _ rfl).2.1 (by have := HRR.out.1 hr0; rwa [HNX.out] at this)
    have HN := aside hN
    have hd : (!decide (r < 0)) = false := by rw [decide_eq_true hr0]; rfl
    clear hN hRS e3
    go_wp2
    any_goals (rename_i hx; exfalso; rw [hd] at hx; cases hx; done)
    exact ⟨⟨i, ck, by have := HCB.out; omega, by have := HCB.out; omega, by rw [HHI.out.1], by have := HCB.out; first | rfl | (congr 1; omega), HN, HR4, HU4⟩, by have := HCB.out; have := HHI.out; simp [Go.RowKit.intOf]; omega⟩
   ·have hN := (hRS.out _ rfl).2.2 (by have h9 := mt HRR.out.2 hr0; rw [HNX.out] at h9; omega)
    have HN := aside hN
    have hd : (!decide (r < 0)) = true := by rw [decide_eq_false hr0]; rfl
    clear hN hRS e3
    go_wp2
    any_goals (rename_i hx; exfalso; rw [hd] at hx; cases hx; done)
    exact ⟨⟨ck + 1, j, by have := HCB.out; omega, hj, by have := HCB.out; first | rfl | (congr 1; omega), by rw [HHI.out.2], HN, HR4, HU4⟩, by have := HCB.out; have := HHI.out; simp [Go.RowKit.intOf]; omega⟩
  ·obtain rfl : i = j := by omega
   have hins := ins_L HSo.out HO.out (by rw [← HQ0.out]; exact HF.out)
   have HI := aside hins
   obtain ⟨ai, hai⟩ : ∃ q, q = a + i := ⟨_, rfl⟩
   rw [← hai]
   have HAI := aside hai
   have i0 : ((ai : Int) < (ai : Int)) = False := by simp
   clear hai hins HF hij
   go_wp2_with fail
   go_loopw [17] (fun v17 wr => ∃ (k : Nat) (zs : List Int), i ≤ k ∧ k ≤ q0 ∧ v17 = .int .i64 ((a + k : Nat) : Int) ∧ Hid (MovR A y0 L B k zs) ∧ Hid (RowAt wr g zs) ∧ Hid (Upon g W wr) ∧ zs.length = len) (fun v17 _ => (Go.RowKit.intOf v17).toNat)
   case atStart => exact ⟨q0, ys, hj, Nat.le_refl _, by have := HBQ.out; congr 1; omega, HM, HR, HU, hla⟩
   case round =>
    clear HM HR HU hla
    obtain ⟨k, zs, hik, hk, rfl, HM, HR, HU, hlz⟩ := hrel
    obtain ⟨bk, hbk⟩ : ∃ q, q = a + k := ⟨_, rfl⟩
    rw [← hbk]
    have HBK := aside hbk
    by_cases hki : i < k
    ·have hq0 := HQ0.out
     obtain ⟨k', hk'⟩ : ∃ k', k = k' + 1 := ⟨k - 1, by omega⟩
     obtain ⟨ak, hak⟩ : ∃ q, q = a + k' := ⟨_, rfl⟩
     have hbak : bk = ak + 1 := by omega
     have hst := (hk' ▸ HM.out : MovR A y0 L B (k' + 1) zs).back (j := ak) (by omega) (by have := HD.out.1; omega)
     obtain ⟨s1, s2⟩ := hst
     rw [← hbak] at s1 s2
     have HT := aside (HR.out.two (a := bk) (b := ak) (by omega) (by omega) (nth zs ak) (nth zs bk))
     obtain ⟨p1, f1⟩ := HR.out.cell (k := ak) (by omega)
     obtain ⟨p2, f2⟩ := HR.out.cell (k := bk) (by omega)
     have hlz2 : ((zs.set bk (nth zs ak)).set ak (nth zs bk)).length = len := by simpa using hlz
     have HLZ := aside hlz2
     have HN := aside s1
     generalize nth zs bk = v at HT p2 HLZ HN
     generalize nth zs ak = u at HT p1 HLZ HN
     have q1 : (ak : Int) < (len : Int) := by omega
     have q2 : (bk : Int) < (len : Int) := by omega
     have q1n : ak < len := by omega
     have q2n : bk < len := by omega
     have ne1 : (ak = bk) = False := by simp only [eq_iff_iff, iff_false]; omega
     have ne2 : (bk = ak) = False := by simp only [eq_iff_iff, iff_false]; omega
     have hwk : IntKind.i64.wrap ((bk : Int) - 1) = (ak : Int) := by rw [IntKind.wrap_i64]; omega
     have i1 : (ai : Int) < (bk : Int) := by have := HAI.out; omega
     have HAK := aside hak
     have HBA := aside hbak
     have HKK := aside hk'
     clear hak hbk hbak hk' hq0 s1 s2 hlz2
     go_wp2_with fail
     go_region
     go_wp2
     exact ⟨⟨k', _, by have := HKK.out; omega, by have := HKK.out; omega, by rw [HAK.out], HN, aside HT.out.1, aside (HU.out.trans HT.out.2), HLZ.out⟩, by have := HBA.out; simp [Go.RowKit.intOf]; omega⟩
    ·obtain rfl : i = k := by omega
     have i1 : ((ai : Int) < (bk : Int)) = False := by have := HAI.out; simp only [eq_iff_iff, iff_false]; omega
     have hfin : zs = A ++ ((L.take i ++ y0 :: L.drop i) ++ B) := by
      have h := HM.out
      unfold MovR at h
      rw [h]
      simp
     rw [hfin] at HR
     clear hbk hfin hlz HM
     go_wp2
     go_end0
     exact ⟨rfl, ⟨_, HR.out, HI.out.2, HI.out.1⟩, HU.out⟩
end Go.Proofs.YtbpabjhcjffkmaaGreatDoor.Pk
