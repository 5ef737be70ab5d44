/- Two who are shown one root: where their ways part, the other way round: the walk of part. Conditions: named in each theorem. -/
import Derived.Test.YtkpbhbafapdboaaDoorTwoB
namespace Go.Proofs.YtkpbhbafapdboaaDoor
open Go.RowKit Go.ChangeShapes Go.WideShapes Go.ChangeAt

/-- What the slots hold behind their operations. -/
def valsP (a b : Tot) (i j n : Nat) (x y : Tot) (pb po qb qo M c L d : Nat) (z : Int) : List (Nat × Nat × Value) :=
  [(0, 125, tV b), (2, 127, .slice (some ⟨qb, qo, none⟩) L d), (4, 129, tV y), (7, 132, .int .i64 (j : Int)), (8, 133, tV a), (10, 135, .slice (some ⟨pb, po, none⟩) M c), (12, 137, tV x), (15, 140, .int .i64 (i : Int)), (16, 141, .int .i64 (n : Int)),
    (17, 142, .tuple #[.bool true, .int .i64 z]), (18, 143, .bool true), (19, 144, .int .i64 z), (20, 14, .bool true), (21, 15, .int .i64 z)]
/-- The frame at the region's beginning. -/
structure F20 (i j n pb po qb qo M c L d N X Y : Nat) (a0 : Act) : Prop where
  sz : a0.tmps.size = 178
  defs : a0.defers = []
  f10 : a0.eval (.tmp 10) = .pointer (some ⟨N + 1, 0, none⟩)
  f7 : a0.eval (.tmp 7) = .pointer (some ⟨N, 0, none⟩)
  f17 : a0.eval (.tmp 17) = .pointer (some ⟨X, 0, none⟩)
  f18 : a0.eval (.tmp 18) = .pointer (some ⟨Y, 0, none⟩)
  f1 : a0.eval (.tmp 1) = .slice (some ⟨pb, po, none⟩) M c
  f4 : a0.eval (.tmp 4) = .slice (some ⟨qb, qo, none⟩) L d
  f2 : a0.eval (.tmp 2) = .int .i64 (i : Int)
  f5 : a0.eval (.tmp 5) = .int .i64 (j : Int)
  f6 : a0.eval (.tmp 6) = .int .i64 (n : Int)
  un : ∀ s ∈ trk, a0.eval (.tmp s) = undef
theorem heap_alloc_old' (w : World) (o : Obj) {k : Nat} (hk : k < w.heap.size) : (w.alloc o).heap[k]? = w.heap[k]? := Below.heap_alloc w o k hk
theorem below_at {w3 w : World} (h : Below w3.heap.size w3 w) (o : Obj) : Below w3.heap.size w (w.alloc o) := (Below.refl _ _).alloc h.size o
theorem notUp {ops : Array Oper} {L : Array Bool} {k m : Nat} {o : Oper} (hc : ClosedUp ops L) (hm : L.getD m false = false) (ho : ops[k]? = some o) (e : Edge) (he : e ∈ o.after) (hb : Region.binds .any e = true) (hem : e.on = m := by rfl) : L.getD k false = false := by
  cases hk : L.getD k false with
  | false => rfl
  | true =>
    have := hc k o ho hk e he hb
    rw [hem, hm] at this
    cases this
theorem flag_no {L : Array Bool} {i : Nat} (h : L.getD i true = false) : L.getD i false = false := by
  rw [Array.getD_eq_getD_getElem?] at h ⊢
  cases hk : L[i]? with
  | none => rfl
  | some v => rw [hk] at h; exact h
theorem st_start {i j n pb po qb qo M c L d N X Y : Nat} {a0 : Act} (hF : F20 i j n pb po qb qo M c L d N X Y a0) (w3 : World) (P Q : List Tot) (x y : Tot) (vals : List (Nat × Nat × Value)) : St a0 w3 P Q x y vals (Array.replicate 22 false) a0 w3.drew := by
  have hz : ∀ k, (Array.replicate 22 false).getD k false = false := by
    intro k
    rw [Array.getD_eq_getD_getElem?, Array.getElem?_replicate]
    split <;> rfl
  refine ⟨hF.sz, by simp, rfl, fun _ _ _ => rfl, below_drawn (Below.refl _ _) 1, fun s hs k hk => ?_, fun s hs t ht hne k hk => ?_, fun s hs h1 _ => ?_, fun e he h1 => ?_⟩
  · rw [hF.un s hs] at hk; cases hk
  · rw [hF.un s hs] at hk; cases hk
  · rw [hz] at h1; cases h1
  · rw [hz] at h1; cases h1
set_option maxHeartbeats 8000000 in
set_option maxRecDepth 100000 in
theorem swap_any (a1 b : Tot) (ha : Dig a1.2) (hb : Dig b.2) (i0 j n : Nat) (h2 : 2 ≤ n) (hn : n ≤ 256)
    (P Q : List Tot) (x y : Tot) (hP : ∀ t ∈ P ++ [x], Dig t.2) (hQ : ∀ t ∈ Q ++ [y], Dig t.2) (hi : halfN n ≤ i0) (hin : i0 < n) (hj : j < halfN n)
    (hlP : P.length = (way (i0 - halfN n) (n - halfN n)).length) (hlQ : Q.length = (way j (halfN n)).length) (hne : (fold0 b j (halfN n) Q).1 ≠ x ∨ (fold0 a1 (i0 - halfN n) (n - halfN n) P).1 ≠ y)
    (A B : Option Addr) (m l c d : Nat) (w : World) (hmc : m ≤ c) (hld : l ≤ d) (h : TSl w w.heap.size A m (P ++ [x])) (hq : TSl w w.heap.size B l (Q ++ [y])) :
    Calls Tryd.prog 9 #[tV a1, .slice A m c, .int .i64 i0, tV b, .slice B l d, .int .i64 j, .int .i64 n] w (fun e w' => (∃ z : Int, e = .returned (.tuple #[.bool true, .int .i64 z])) ∧ Below w.heap.size w w') := by
  have hCall : ∀ (A1 A2 : Option Addr) (m1 m2 c1 c2 : Nat) (w : World), m1 ≤ c1 → m2 ≤ c2 → TSl w w.heap.size A1 m1 (Q ++ [y]) → TSl w w.heap.size A2 m2 (P ++ [x]) →
      Calls Tryd.prog 9 #[tV b, .slice A1 m1 c1, .int .i64 j, tV a1, .slice A2 m2 c2, .int .i64 i0, .int .i64 n] w (fun e w' => (∃ z : Int, e = .returned (.tuple #[.bool true, .int .i64 z])) ∧ Below w.heap.size w w') :=
    fun A1 A2 m1 m2 c1 c2 w hm1 hm2 t1 t2 => split_any b a1 hb ha j i0 n h2 hn Q P y x hQ hP hj hi hin hlQ hlP hne A1 A2 m1 m2 c1 c2 w hm1 hm2 t1 t2
  have HCall := aside hCall
  have HHalf := aside (rhalf_any n h2 hn)
  have hh := half_lt (n := n) h2 hn
  have hP9 := wayL_len 256 (i0 - halfN n) (n - halfN n)
  have hQ9 := wayL_len 256 j (halfN n)
  rw [show wayL 256 (i0 - halfN n) (n - halfN n) = way (i0 - halfN n) (n - halfN n) from rfl, ← hlP] at hP9
  rw [show wayL 256 j (halfN n) = way j (halfN n) from rfl, ← hlQ] at hQ9
  clear hne hCall hlP hlQ
  generalize halfN n = k at hi hj hh HHalf
  obtain ⟨M, hM⟩ : ∃ M, M = P.length := ⟨_, rfl⟩
  have hlM : m = M + 1 := by have := FSl.len totE_len (by decide) h; simp at this; omega
  subst hlM
  obtain ⟨pb, po, hA, hpb, hr, hd⟩ := TSl.at_ h hP (show M < M + 1 by omega)
  subst hA
  have hg : (P ++ [x]).getD M noTot = x := by rw [List.getD_eq_getElem?_getD, hM]; simp
  rw [hg] at hr hd
  have HXr := aside hr
  have HXd := aside hd
  have HRp : Hid (TSl w w.heap.size (some ⟨pb, po, none⟩) M P) := aside (by
    have := TSl.take h (k := M) (by omega)
    rwa [hM, List.take_left, ← hM] at this)
  have hPr : ∀ t ∈ P, Dig t.2 := fun t ht => hP t (List.mem_append_left _ ht)
  clear hr hd hg h hP
  obtain ⟨L0, hL0⟩ : ∃ L0, L0 = Q.length := ⟨_, rfl⟩
  have hlL0 : l = L0 + 1 := by have := FSl.len totE_len (by decide) hq; simp at this; omega
  subst hlL0
  obtain ⟨qb, qo, hA, hqb, hr, hd⟩ := TSl.at_ hq hQ (show L0 < L0 + 1 by omega)
  subst hA
  have hg : (Q ++ [y]).getD L0 noTot = y := by rw [List.getD_eq_getElem?_getD, hL0]; simp
  rw [hg] at hr hd
  have HYr := aside hr
  have HYd := aside hd
  have HRq : Hid (TSl w w.heap.size (some ⟨qb, qo, none⟩) L0 Q) := aside (by
    have := TSl.take hq (k := L0) (by omega)
    rwa [hL0, List.take_left, ← hL0] at this)
  have hQr : ∀ t ∈ Q, Dig t.2 := fun t ht => hQ t (List.mem_append_left _ ht)
  clear hr hd hg hq hQ
  have e3 : ((n : Int) == 1) = false := by simp only [beq_eq_false_iff_ne, ne_eq]; omega
  have lt1 : ((i0 : Int) < (k : Int)) = False := by simp only [eq_iff_iff, iff_false]; omega
  have lt2 : ((j : Int) < (k : Int)) = True := by simp only [eq_iff_iff, iff_true]; omega
  have lt3 : ((k : Int) ≤ (i0 : Int)) = True := by simp only [eq_iff_iff, iff_true]; omega
  have lt4 : ((k : Int) ≤ (j : Int)) = False := by simp only [eq_iff_iff, iff_false]; omega
  have hM9 : M ≤ 256 := by omega
  have hL9 : L0 ≤ 256 := by omega
  have hMc : M ≤ c := by omega
  have hLd : L0 ≤ d := by omega
  have hnb : (n : Int) ≤ 256 := by omega
  have hjb : (j : Int) ≤ 256 := by omega
  have hkb : (k : Int) ≤ 256 := by omega
  have HA := aside ha
  have HBd := aside hb
  clear hM hL0 ha hb hi hj hin hh h2 hn hPr hQr hP9 hQ9
  go_enter Tryd.func9, Tryd.ntmps9
  go_upto_region 1 with fail
  change Code.wp _ _ _ _ ((w.alloc (.cells (totR a1.1 a1.2) 25)).alloc (.cells (totR b.1 b.2) 25))
  obtain ⟨t0, t1, b1, z1⟩ := pair_boxes w a1.1 b.1 a1.2 b.2
  have TA1 := aside t0
  have TB1 := aside t1
  have HB1 := aside b1
  clear t0 t1 b1 z1
  generalize ((w.alloc (.cells (totR a1.1 a1.2) 25)).alloc (.cells (totR b.1 b.2) 25)) = w1 at TA1 TB1 HB1 ⊢
  obtain ⟨N, hN⟩ : ∃ N, N = w.heap.size := ⟨_, rfl⟩
  simp only [← hN] at TA1 TB1 ⊢
  clear hN
  have HX1 : Hid (w1.rangeAt pb (po + M * 33) (totL x.1 x.2)) := aside (fun j v hv => (HB1.out.cell (p := ⟨pb, po + M * 33 + j, none⟩) hpb).trans (HXr.out j v hv))
  have RX := TotAt.new w1 0 zeroD
  go_upto_region 5 with (first
    | (go_at_call 25; refine (HHalf.out _).mono ?_; rintro e w' ⟨rfl, hw'⟩; rw [hw']; clear hw' w')
    | (refine wpList_load_mid rfl 25 (.tmp 39) rfl pb (po + M * 33) rfl (totL x.1 x.2) _ HX1.out Tryd.underlying25 rfl (totLI HXd.out.1) ?_)
    | (refine wpList_store_row rfl 25 (.tmp 17) (.tmp 40) rfl w1.heap.size (totR x.1 x.2) rfl rfl 25 (totR 0 zeroD) RX (totInfo HXd.out.1) (tot_same rfl HXd.out.1) (totR_one _ _) ?_)
    | fail)
  change Code.wp _ _ _ _ ((w1.alloc (.cells (totR 0 zeroD) 25)).setRow w1.heap.size (totR x.1 x.2))
  obtain ⟨w2, hw2⟩ : ∃ w2, w2 = ((w1.alloc (.cells (totR 0 zeroD) 25)).setRow w1.heap.size (totR x.1 x.2)) := ⟨_, rfl⟩
  obtain ⟨tn, bn, -⟩ := store_new w1 x.1 x.2 w2 hw2
  rw [← hw2]
  have TA2 : Hid (TotAt w2 N a1.1 a1.2) := aside (TA1.out.below bn TA1.out.lt)
  have TB2 : Hid (TotAt w2 (N + 1) b.1 b.2) := aside (TB1.out.below bn TB1.out.lt)
  have TX : Hid (TotAt w2 w1.heap.size x.1 x.2) := aside tn
  have Hw2 : Hid (Below w.heap.size w w2) := aside (HB1.out.trans (bn.mono HB1.out.size))
  obtain ⟨X, hX⟩ : ∃ X, X = w1.heap.size := ⟨_, rfl⟩
  rw [← hX] at TX ⊢
  clear tn bn hw2 hX
  have HY2 : Hid (w2.rangeAt qb (qo + L0 * 33) (totL y.1 y.2)) := aside (fun j v hv => (Hw2.out.cell (p := ⟨qb, qo + L0 * 33 + j, none⟩) hqb).trans (HYr.out j v hv))
  have RY := TotAt.new w2 0 zeroD
  clear RX HX1 TA1 TB1
  go_upto_region 6 with (first
    | (refine wpList_load_mid rfl 25 (.tmp 45) rfl qb (qo + L0 * 33) rfl (totL y.1 y.2) _ HY2.out Tryd.underlying25 rfl (totLI HYd.out.1) ?_)
    | (refine wpList_store_row rfl 25 (.tmp 18) (.tmp 46) rfl w2.heap.size (totR y.1 y.2) rfl rfl 25 (totR 0 zeroD) RY (totInfo HYd.out.1) (tot_same rfl HYd.out.1) (totR_one _ _) ?_)
    | fail)
  change Code.wp _ _ _ _ ((w2.alloc (.cells (totR 0 zeroD) 25)).setRow w2.heap.size (totR y.1 y.2))
  obtain ⟨w3, hw3⟩ : ∃ w3, w3 = ((w2.alloc (.cells (totR 0 zeroD) 25)).setRow w2.heap.size (totR y.1 y.2)) := ⟨_, rfl⟩
  obtain ⟨tn, bn, -⟩ := store_new w2 y.1 y.2 w3 hw3
  rw [← hw3]
  have TA3 : Hid (TotAt w3 N a1.1 a1.2) := aside (TA2.out.below bn TA2.out.lt)
  have TB3 : Hid (TotAt w3 (N + 1) b.1 b.2) := aside (TB2.out.below bn TB2.out.lt)
  have TX3 : Hid (TotAt w3 X x.1 x.2) := aside (TX.out.below bn TX.out.lt)
  have TY : Hid (TotAt w3 w2.heap.size y.1 y.2) := aside tn
  have Hw3 : Hid (Below w.heap.size w w3) := aside (Hw2.out.trans (bn.mono Hw2.out.size))
  obtain ⟨Y, hY⟩ : ∃ Y, Y = w2.heap.size := ⟨_, rfl⟩
  rw [← hY] at TY ⊢
  clear tn bn hw3 hY
  clear RY HY2 TA2 TB2 TX
  go_upto_region 20 with fail
  have hRq : TSl w3 w3.heap.size (some ⟨qb, qo, none⟩) L0 Q := (Sl.below HRq.out Hw3.out).more Hw3.out.size
  have hRp : TSl w3 w3.heap.size (some ⟨pb, po, none⟩) M P := (Sl.below HRp.out Hw3.out).more Hw3.out.size
  have hTA := TA3.out
  have hTB := TB3.out
  have hTX := TX3.out
  have hTY := TY.out
  refine wp_region_inv2 (by kernel_rfl) (F20 i0 j n pb po qb qo M c L0 d N X Y) (fun a0 L a' w' => ∃ z : Int, St a0 w3 P Q x y (valsP a1 b i0 j n x y pb po qb qo M c L0 d z) L a' w') ⟨rfl, rfl, rfl, rfl, rfl, rfl, rfl, rfl, rfl, rfl, rfl, by intro s hs; simp only [trk, List.mem_cons, List.not_mem_nil, or_false] at hs; rcases hs with rfl | rfl | rfl | rfl | rfl | rfl | rfl | rfl <;> rfl⟩ (fun a0 hF => ⟨0, st_start hF w3 P Q x y _⟩) ?step ?fin
  case step =>
    rintro a0 hF L a w i ⟨z, h⟩ hc hr
    obtain ⟨hi, hl', hs⟩ := ready_is hr
    have hl := flag_no hl'
    clear hl'
    have hi : i < 22 := hi
    have ha := HA.out
    have hb := HBd.out
    have hx := HXd.out
    have hy := HYd.out
    have hCall := HCall.out
    rcases (show i = 0 ∨ i = 1 ∨ i = 2 ∨ i = 3 ∨ i = 4 ∨ i = 5 ∨ i = 6 ∨ i = 7 ∨ i = 8 ∨ i = 9 ∨ i = 10 ∨ i = 11 ∨ i = 12 ∨ i = 13 ∨ i = 14 ∨ i = 15 ∨ i = 16 ∨ i = 17 ∨ i = 18 ∨ i = 19 ∨ i = 20 ∨ i = 21 by omega) with rfl | rfl | rfl | rfl | rfl | rfl | rfl | rfl | rfl | rfl | rfl | rfl | rfl | rfl | rfl | rfl | rfl | rfl | rfl | rfl | rfl | rfl
    · refine wpOp_of_list rfl ?_
      refine wpList_load_row rfl 25 (.tmp 10) rfl (N + 1) (by rw [h.frame 10 (by decide) (by decide), hF.f10]) 25 (totR b.1 b.2) (0, 0) _ (hTB.below h.below hTB.lt) Tryd.underlying25 rfl (totInfo hb.1) ?_
      exact ⟨z, St.pure h 0 125 _ _ (Below.refl _ _) hs (by decide) (by decide) (by decide) (by simp [valsP, tV, totV])⟩
    · refine wpOp_of_list rfl ?_
      refine wpList_none rfl rfl ?_
      refine ⟨z, St.mem h 1 126 _ _ none ⟨rfl, rfl, rfl, by simp, fun k hk _ => heap_alloc_old' _ _ hk⟩ (below_at h.below _) hs (by decide) (by decide) (fun _ _ _ _ _ e => by cases e) (fun _ _ _ _ _ _ _ => rfl) (.inr ⟨_, rfl, Nat.le_refl _⟩) (own_none _ _ h.below.size) (by simp [valsP])⟩
    · refine YieldsIf.wpOp (S := fun _ => True) (v := a.eval (.tmp 4)) rfl (.inl ⟨rfl, fun _ _ => rfl⟩) trivial ?_
      refine ⟨z, St.pure h 2 127 _ _ (Below.refl _ _) hs (by decide) (by decide) (by decide) ?_⟩
      rw [h.frame 4 (by decide) (by decide), hF.f4]
      simp [valsP]
    · have d1 : L.getD 1 false = true := ready_dep hr (o := _) rfl (e := ⟨1, .data⟩) (by simp) rfl
      have d2 : L.getD 2 false = true := ready_dep hr (o := _) rfl (e := ⟨2, .data⟩) (by simp) rfl
      have ho : TOwn w w3.heap.size (a.eval (.tmp 126)) 0 [] := h.own 126 (by decide) d1 hl
      have hv : a.eval (.tmp 127) = .slice (some ⟨qb, qo, none⟩) L0 d := h.vls (2, 127, .slice (some ⟨qb, qo, none⟩) L0 d) (by simp [valsP]) d2
      have hlen : Q.length = L0 := FSl.len totE_len (by decide) hRq
      refine wpOp_of_list rfl ?_
      refine wpList_concat rfl (.tmp 126) (.tmp 127) 26 rfl w3.heap.size (.agg (totR 0 zeroD)) 33 40 Tryd.underlying26 totInfo3 rfl (by decide) _ 0 _ rfl ho w3.heap.size (some ⟨qb, qo, none⟩) L0 d _ hv (Sl.below hRq h.below) (onesT Q) (by omega) (by unfold maxLen; omega) h.below.size ?_
      intro A' c' w' _ _ hown hb' hg
      have hT : TOwn w' w3.heap.size (.slice A' (0 + L0) c') Q.length Q := town_concat (xs := []) (ys := Q) (by simp; omega) hown
      refine ⟨z, St.mem h 3 128 _ _ (a.eval (.tmp 126)).ownBlock hg.by_ hb' hs (by decide) (by decide) (fun s hs' hne k hk e => h.ap s hs' 126 (by decide) hne k hk e) ?_ ?_ hT (by simp [valsP])⟩
      · intro s hs' h1 h2 h3 h4 h5
        simp only [trk, List.mem_cons, List.not_mem_nil, or_false] at hs'
        rcases hs' with rfl | rfl | rfl | rfl | rfl | rfl | rfl | rfl
        all_goals first
          | exact absurd h2 (by decide)
          | exact absurd rfl h1
          | exact absurd rfl h5
          | (have hh : L.getD 3 false = true := hc 6 _ rfl h3 ⟨3, .data⟩ (by simp) rfl; rw [hl] at hh; cases hh)
      · rcases hg.at_ with e | ⟨g, e, hge⟩
        · exact .inl ⟨126, by decide, by decide, e⟩
        · exact .inr ⟨g, e, hge⟩
    · refine wpOp_of_list rfl ?_
      refine wpList_load_row rfl 25 (.tmp 18) rfl Y (by rw [h.frame 18 (by decide) (by decide), hF.f18]) 25 (totR y.1 y.2) (0, 0) _ (hTY.below h.below hTY.lt) Tryd.underlying25 rfl (totInfo hy.1) ?_
      exact ⟨z, St.pure h 4 129 _ _ (Below.refl _ _) hs (by decide) (by decide) (by decide) (by simp [valsP, tV, totV])⟩
    · have d4 : L.getD 4 false = true := ready_dep hr (o := _) rfl (e := ⟨4, .data⟩) (by simp) rfl
      have hv : a.eval (.tmp 129) = totV y.1 y.2 := h.vls (4, 129, totV y.1 y.2) (by simp [valsP, tV]) d4
      refine wpOp_of_list rfl ?_
      refine wpList_one rfl (.tmp 129) rfl y.1 y.2 hv hy.1 ?_
      refine ⟨z, St.mem h 5 130 _ _ none ⟨rfl, rfl, rfl, by simp, fun k hk _ => heap_alloc_old' _ _ hk⟩ (below_at h.below _) hs (by decide) (by decide) (fun _ _ _ _ _ e => by cases e) (fun _ _ _ _ _ _ _ => rfl) (.inr ⟨_, rfl, Nat.le_refl _⟩) (own_one _ _ h.below.size y hy.1) (by simp [valsP])⟩
    · have d3 : L.getD 3 false = true := ready_dep hr (o := _) rfl (e := ⟨3, .data⟩) (by simp) rfl
      have d5 : L.getD 5 false = true := ready_dep hr (o := _) rfl (e := ⟨5, .data⟩) (by simp) rfl
      have hlen : Q.length = L0 := FSl.len totE_len (by decide) hRq
      have ho : TOwn w w3.heap.size (a.eval (.tmp 128)) Q.length Q := h.own 128 (by decide) d3 hl
      have ho2 : TOwn w w3.heap.size (a.eval (.tmp 130)) 1 [y] := h.own 130 (by decide) d5 hl
      obtain ⟨A2, c2, hv, -, -⟩ := own_slice ho2
      rw [hv] at ho2
      refine wpOp_of_list rfl ?_
      refine wpList_concat rfl (.tmp 128) (.tmp 130) 26 rfl w3.heap.size (.agg (totR 0 zeroD)) 33 40 Tryd.underlying26 totInfo3 rfl (by decide) _ Q.length _ rfl ho w.heap.size A2 1 c2 _ hv (Sl.own ho2) (onesT [y]) (by omega) (by unfold maxLen; omega) h.below.size ?_
      intro A' c' w' _ _ hown hb' hg
      have hT : TOwn w' w3.heap.size (.slice A' (Q.length + 1) c') (Q ++ [y]).length (Q ++ [y]) := town_concat (xs := Q) (ys := [y]) (by simp) hown
      refine ⟨z, St.mem h 6 131 _ _ (a.eval (.tmp 128)).ownBlock hg.by_ hb' hs (by decide) (by decide) (fun s hs' hne k hk e => h.ap s hs' 128 (by decide) hne k hk e) ?_ ?_ hT (by simp [valsP])⟩
      · intro s hs' h1 h2 h3 h4 h5
        simp only [trk, List.mem_cons, List.not_mem_nil, or_false] at hs'
        rcases hs' with rfl | rfl | rfl | rfl | rfl | rfl | rfl | rfl
        all_goals first
          | exact absurd h2 (by decide)
          | exact absurd rfl h1
          | exact absurd rfl h5
          | (have h4' : L.getD 3 false = false := h4; rw [d3] at h4'; cases h4')
      · rcases hg.at_ with e | ⟨g, e, hge⟩
        · exact .inl ⟨128, by decide, by decide, e⟩
        · exact .inr ⟨g, e, hge⟩
    · refine YieldsIf.wpOp (S := fun _ => True) (v := a.eval (.tmp 5)) rfl (.inl ⟨rfl, fun _ _ => rfl⟩) trivial ?_
      refine ⟨z, St.pure h 7 132 _ _ (Below.refl _ _) hs (by decide) (by decide) (by decide) ?_⟩
      rw [h.frame 5 (by decide) (by decide), hF.f5]
      simp [valsP]
    · refine wpOp_of_list rfl ?_
      refine wpList_load_row rfl 25 (.tmp 7) rfl N (by rw [h.frame 7 (by decide) (by decide), hF.f7]) 25 (totR a1.1 a1.2) (0, 0) _ (hTA.below h.below hTA.lt) Tryd.underlying25 rfl (totInfo ha.1) ?_
      exact ⟨z, St.pure h 8 133 _ _ (Below.refl _ _) hs (by decide) (by decide) (by decide) (by simp [valsP, tV, totV])⟩
    · refine wpOp_of_list rfl ?_
      refine wpList_none rfl rfl ?_
      refine ⟨z, St.mem h 9 134 _ _ none ⟨rfl, rfl, rfl, by simp, fun k hk _ => heap_alloc_old' _ _ hk⟩ (below_at h.below _) hs (by decide) (by decide) (fun _ _ _ _ _ e => by cases e) (fun _ _ _ _ _ _ _ => rfl) (.inr ⟨_, rfl, Nat.le_refl _⟩) (own_none _ _ h.below.size) (by simp [valsP])⟩
    · refine YieldsIf.wpOp (S := fun _ => True) (v := a.eval (.tmp 1)) rfl (.inl ⟨rfl, fun _ _ => rfl⟩) trivial ?_
      refine ⟨z, St.pure h 10 135 _ _ (Below.refl _ _) hs (by decide) (by decide) (by decide) ?_⟩
      rw [h.frame 1 (by decide) (by decide), hF.f1]
      simp [valsP]
    · have d9 : L.getD 9 false = true := ready_dep hr (o := _) rfl (e := ⟨9, .data⟩) (by simp) rfl
      have d10 : L.getD 10 false = true := ready_dep hr (o := _) rfl (e := ⟨10, .data⟩) (by simp) rfl
      have ho : TOwn w w3.heap.size (a.eval (.tmp 134)) 0 [] := h.own 134 (by decide) d9 hl
      have hv : a.eval (.tmp 135) = .slice (some ⟨pb, po, none⟩) M c := h.vls (10, 135, .slice (some ⟨pb, po, none⟩) M c) (by simp [valsP]) d10
      have hlen : P.length = M := FSl.len totE_len (by decide) hRp
      refine wpOp_of_list rfl ?_
      refine wpList_concat rfl (.tmp 134) (.tmp 135) 26 rfl w3.heap.size (.agg (totR 0 zeroD)) 33 40 Tryd.underlying26 totInfo3 rfl (by decide) _ 0 _ rfl ho w3.heap.size (some ⟨pb, po, none⟩) M c _ hv (Sl.below hRp h.below) (onesT P) (by omega) (by unfold maxLen; omega) h.below.size ?_
      intro A' c' w' _ _ hown hb' hg
      have hT : TOwn w' w3.heap.size (.slice A' (0 + M) c') P.length P := town_concat (xs := []) (ys := P) (by simp; omega) hown
      refine ⟨z, St.mem h 11 136 _ _ (a.eval (.tmp 134)).ownBlock hg.by_ hb' hs (by decide) (by decide) (fun s hs' hne k hk e => h.ap s hs' 134 (by decide) hne k hk e) ?_ ?_ hT (by simp [valsP])⟩
      · intro s hs' h1 h2 h3 h4 h5
        simp only [trk, List.mem_cons, List.not_mem_nil, or_false] at hs'
        rcases hs' with rfl | rfl | rfl | rfl | rfl | rfl | rfl | rfl
        all_goals first
          | exact absurd h2 (by decide)
          | exact absurd rfl h1
          | exact absurd rfl h5
          | (have hh : L.getD 11 false = true := hc 14 _ rfl h3 ⟨11, .data⟩ (by simp) rfl; rw [hl] at hh; cases hh)
      · rcases hg.at_ with e | ⟨g, e, hge⟩
        · exact .inl ⟨134, by decide, by decide, e⟩
        · exact .inr ⟨g, e, hge⟩
    · refine wpOp_of_list rfl ?_
      refine wpList_load_row rfl 25 (.tmp 17) rfl X (by rw [h.frame 17 (by decide) (by decide), hF.f17]) 25 (totR x.1 x.2) (0, 0) _ (hTX.below h.below hTX.lt) Tryd.underlying25 rfl (totInfo hx.1) ?_
      exact ⟨z, St.pure h 12 137 _ _ (Below.refl _ _) hs (by decide) (by decide) (by decide) (by simp [valsP, tV, totV])⟩
    · have d12 : L.getD 12 false = true := ready_dep hr (o := _) rfl (e := ⟨12, .data⟩) (by simp) rfl
      have hv : a.eval (.tmp 137) = totV x.1 x.2 := h.vls (12, 137, totV x.1 x.2) (by simp [valsP, tV]) d12
      refine wpOp_of_list rfl ?_
      refine wpList_one rfl (.tmp 137) rfl x.1 x.2 hv hx.1 ?_
      refine ⟨z, St.mem h 13 138 _ _ none ⟨rfl, rfl, rfl, by simp, fun k hk _ => heap_alloc_old' _ _ hk⟩ (below_at h.below _) hs (by decide) (by decide) (fun _ _ _ _ _ e => by cases e) (fun _ _ _ _ _ _ _ => rfl) (.inr ⟨_, rfl, Nat.le_refl _⟩) (own_one _ _ h.below.size x hx.1) (by simp [valsP])⟩
    · have d11 : L.getD 11 false = true := ready_dep hr (o := _) rfl (e := ⟨11, .data⟩) (by simp) rfl
      have d13 : L.getD 13 false = true := ready_dep hr (o := _) rfl (e := ⟨13, .data⟩) (by simp) rfl
      have hlen : P.length = M := FSl.len totE_len (by decide) hRp
      have ho : TOwn w w3.heap.size (a.eval (.tmp 136)) P.length P := h.own 136 (by decide) d11 hl
      have ho2 : TOwn w w3.heap.size (a.eval (.tmp 138)) 1 [x] := h.own 138 (by decide) d13 hl
      obtain ⟨A2, c2, hv, -, -⟩ := own_slice ho2
      rw [hv] at ho2
      refine wpOp_of_list rfl ?_
      refine wpList_concat rfl (.tmp 136) (.tmp 138) 26 rfl w3.heap.size (.agg (totR 0 zeroD)) 33 40 Tryd.underlying26 totInfo3 rfl (by decide) _ P.length _ rfl ho w.heap.size A2 1 c2 _ hv (Sl.own ho2) (onesT [x]) (by omega) (by unfold maxLen; omega) h.below.size ?_
      intro A' c' w' _ _ hown hb' hg
      have hT : TOwn w' w3.heap.size (.slice A' (P.length + 1) c') (P ++ [x]).length (P ++ [x]) := town_concat (xs := P) (ys := [x]) (by simp) hown
      refine ⟨z, St.mem h 14 139 _ _ (a.eval (.tmp 136)).ownBlock hg.by_ hb' hs (by decide) (by decide) (fun s hs' hne k hk e => h.ap s hs' 136 (by decide) hne k hk e) ?_ ?_ hT (by simp [valsP])⟩
      · intro s hs' h1 h2 h3 h4 h5
        simp only [trk, List.mem_cons, List.not_mem_nil, or_false] at hs'
        rcases hs' with rfl | rfl | rfl | rfl | rfl | rfl | rfl | rfl
        all_goals first
          | exact absurd h2 (by decide)
          | exact absurd rfl h1
          | exact absurd rfl h5
          | (have h4' : L.getD 11 false = false := h4; rw [d11] at h4'; cases h4')
      · rcases hg.at_ with e | ⟨g, e, hge⟩
        · exact .inl ⟨136, by decide, by decide, e⟩
        · exact .inr ⟨g, e, hge⟩
    · refine YieldsIf.wpOp (S := fun _ => True) (v := a.eval (.tmp 2)) rfl (.inl ⟨rfl, fun _ _ => rfl⟩) trivial ?_
      refine ⟨z, St.pure h 15 140 _ _ (Below.refl _ _) hs (by decide) (by decide) (by decide) ?_⟩
      rw [h.frame 2 (by decide) (by decide), hF.f2]
      simp [valsP]
    · refine YieldsIf.wpOp (S := fun _ => True) (v := a.eval (.tmp 6)) rfl (.inl ⟨rfl, fun _ _ => rfl⟩) trivial ?_
      refine ⟨z, St.pure h 16 141 _ _ (Below.refl _ _) hs (by decide) (by decide) (by decide) ?_⟩
      rw [h.frame 6 (by decide) (by decide), hF.f6]
      simp [valsP]
    · have d0 : L.getD 0 false = true := ready_dep hr (o := _) rfl (e := ⟨0, .data⟩) (by simp) rfl
      have d6 : L.getD 6 false = true := ready_dep hr (o := _) rfl (e := ⟨6, .data⟩) (by simp) rfl
      have d7 : L.getD 7 false = true := ready_dep hr (o := _) rfl (e := ⟨7, .data⟩) (by simp) rfl
      have d8 : L.getD 8 false = true := ready_dep hr (o := _) rfl (e := ⟨8, .data⟩) (by simp) rfl
      have d14 : L.getD 14 false = true := ready_dep hr (o := _) rfl (e := ⟨14, .data⟩) (by simp) rfl
      have d15 : L.getD 15 false = true := ready_dep hr (o := _) rfl (e := ⟨15, .data⟩) (by simp) rfl
      have d16 : L.getD 16 false = true := ready_dep hr (o := _) rfl (e := ⟨16, .data⟩) (by simp) rfl
      have q0 : a.eval (.tmp 125) = tV b := h.vls (0, 125, tV b) (by simp [valsP]) d0
      have q7 : a.eval (.tmp 132) = .int .i64 (j : Int) := h.vls (7, 132, .int .i64 (j : Int)) (by simp [valsP]) d7
      have q8 : a.eval (.tmp 133) = tV a1 := h.vls (8, 133, tV a1) (by simp [valsP]) d8
      have q15 : a.eval (.tmp 140) = .int .i64 (i0 : Int) := h.vls (15, 140, .int .i64 (i0 : Int)) (by simp [valsP]) d15
      have q16 : a.eval (.tmp 141) = .int .i64 (n : Int) := h.vls (16, 141, .int .i64 (n : Int)) (by simp [valsP]) d16
      have ho1 : TOwn w w3.heap.size (a.eval (.tmp 131)) (Q ++ [y]).length (Q ++ [y]) := h.own 131 (by decide) d6 hl
      have ho2 : TOwn w w3.heap.size (a.eval (.tmp 139)) (P ++ [x]).length (P ++ [x]) := h.own 139 (by decide) d14 hl
      obtain ⟨A1, c1, v1, hc1, -⟩ := own_slice ho1
      obtain ⟨A2, c2, v2, hc2, -⟩ := own_slice ho2
      rw [v1] at ho1
      rw [v2] at ho2
      refine wpOp_of_list rfl ?_
      refine wpList_callAny rfl 9 #[a.eval (.tmp 125), a.eval (.tmp 131), a.eval (.tmp 132), a.eval (.tmp 133), a.eval (.tmp 139), a.eval (.tmp 140), a.eval (.tmp 141)] (by simp only [List.getElem_toArray, List.getElem_cons_succ, List.getElem_cons_zero]; rw [execOp_call_go]; simp only [List.map_toArray, List.map_cons, List.map_nil, Array.append_empty, Array.empty_append]; exact calls_part _ _ _ _ _ _ _ w) (by rw [q0, v1, q7, q8, v2, q15, q16]; exact hCall A1 A2 (Q ++ [y]).length (P ++ [x]).length c1 c2 w hc1 hc2 (Sl.own ho1) (Sl.own ho2)) ?_
      rintro e w' ⟨⟨z', rfl⟩, hb'⟩
      refine ⟨_, rfl, z', ?_⟩
      have h' : St a0 w3 P Q x y (valsP a1 b i0 j n x y pb po qb qo M c L0 d z') L a w := St.re h (fun e he hl' => ?_)
      · exact St.pure h' 17 142 _ _ hb' hs (by decide) (by decide) (by decide) (by simp [valsP])
      · have n18 : L.getD 18 false = false := notUp hc hl rfl ⟨17, .data⟩ (by simp) rfl
        have n19 : L.getD 19 false = false := notUp hc hl rfl ⟨17, .data⟩ (by simp) rfl
        have n20 : L.getD 20 false = false := notUp hc n18 rfl ⟨18, .data⟩ (by simp) rfl
        have n21 : L.getD 21 false = false := notUp hc n19 rfl ⟨19, .data⟩ (by simp) rfl
        simp only [valsP, List.mem_cons, List.not_mem_nil, or_false] at he ⊢
        rcases he with rfl | rfl | rfl | rfl | rfl | rfl | rfl | rfl | rfl | rfl | rfl | rfl | rfl | rfl
        all_goals first
          | (simp only [true_or, or_true]; done)
          | (exfalso; first | exact absurd (hl.symm.trans hl') (by decide) | exact absurd (n18.symm.trans hl') (by decide) | exact absurd (n19.symm.trans hl') (by decide) | exact absurd (n20.symm.trans hl') (by decide) | exact absurd (n21.symm.trans hl') (by decide))
    · have d17 : L.getD 17 false = true := ready_dep hr (o := _) rfl (e := ⟨17, .data⟩) (by simp) rfl
      have hv : a.eval (.tmp 142) = .tuple #[.bool true, .int .i64 z] := h.vls (17, 142, .tuple #[.bool true, .int .i64 z]) (by simp [valsP]) d17
      refine YieldsIf.wpOp (S := fun _ => True) (v := .bool true) rfl (.inl ⟨rfl, fun W _ => ?_⟩) trivial ?_
      · show (execOp a.eval { dst := some 143, op := .extract (.tmp 142) 0, .. }).run _ W = _
        simp only [execOp, hv]
        rfl
      · exact ⟨z, St.pure h 18 143 _ _ (Below.refl _ _) hs (by decide) (by decide) (by decide) (by simp [valsP])⟩
    · have d17 : L.getD 17 false = true := ready_dep hr (o := _) rfl (e := ⟨17, .data⟩) (by simp) rfl
      have hv : a.eval (.tmp 142) = .tuple #[.bool true, .int .i64 z] := h.vls (17, 142, .tuple #[.bool true, .int .i64 z]) (by simp [valsP]) d17
      refine YieldsIf.wpOp (S := fun _ => True) (v := .int .i64 z) rfl (.inl ⟨rfl, fun W _ => ?_⟩) trivial ?_
      · show (execOp a.eval { dst := some 144, op := .extract (.tmp 142) 1, .. }).run _ W = _
        simp only [execOp, hv]
        rfl
      · exact ⟨z, St.pure h 19 144 _ _ (Below.refl _ _) hs (by decide) (by decide) (by decide) (by simp [valsP])⟩
    · have d18 : L.getD 18 false = true := ready_dep hr (o := _) rfl (e := ⟨18, .data⟩) (by simp) rfl
      have hv : a.eval (.tmp 143) = .bool true := h.vls (18, 143, .bool true) (by simp [valsP]) d18
      refine YieldsIf.wpOp (S := fun _ => True) (v := a.eval (.tmp 143)) rfl (.inl ⟨rfl, fun _ _ => rfl⟩) trivial ?_
      rw [hv]
      exact ⟨z, St.pure h 20 14 _ _ (Below.refl _ _) hs (by decide) (by decide) (by decide) (by simp [valsP])⟩
    · have d19 : L.getD 19 false = true := ready_dep hr (o := _) rfl (e := ⟨19, .data⟩) (by simp) rfl
      have hv : a.eval (.tmp 144) = .int .i64 z := h.vls (19, 144, .int .i64 z) (by simp [valsP]) d19
      refine YieldsIf.wpOp (S := fun _ => True) (v := a.eval (.tmp 144)) rfl (.inl ⟨rfl, fun _ _ => rfl⟩) trivial ?_
      rw [hv]
      exact ⟨z, St.pure h 21 15 _ _ (Below.refl _ _) hs (by decide) (by decide) (by decide) (by simp [valsP])⟩
  case fin =>
    rintro a0 hF L a w' ⟨z, h⟩ hr
    have hall := all_up hr h.lsz (by decide)
    have q14 : a.eval (.tmp 14) = .bool true := h.vls (20, 14, .bool true) (by simp [valsP]) (hall 20 (by decide))
    have q15 : a.eval (.tmp 15) = .int .i64 z := h.vls (21, 15, .int .i64 z) (by simp [valsP]) (hall 21 (by decide))
    have hdf : a.defers = [] := h.defs.trans hF.defs
    have hB := Hw3.out.trans (h.below.mono Hw3.out.size)
    clear h hr hall
    obtain ⟨tm, df⟩ := a
    obtain rfl : df = [] := hdf
    go_wp2_with fail
    have e14 : tm[14]?.getD undef = .bool true := by rw [← Array.getD_eq_getD_getElem?]; exact q14
    have e15 : tm[15]?.getD undef = .int .i64 z := by rw [← Array.getD_eq_getD_getElem?]; exact q15
    exact bodyPost_ret (v := .tuple #[.bool true, .int .i64 z]) (by simp [results, Tryd.results9, e14, e15, go_sem]) rfl ⟨⟨z, rfl⟩, hB⟩
end Go.Proofs.YtkpbhbafapdboaaDoor
