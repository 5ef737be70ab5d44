/- All of Root; the audit as the laws first look at it. Conditions: named in each theorem. -/
import Derived.Test.YtkpbhbafapdboaaDoorAudI
import Derived.Great.BuildSlice
namespace Go.Proofs.YtkpbhbafapdboaaDoor
open Go.RowKit Go.ChangeShapes Go.WideShapes Go.ChangeAt

/-- The root of all, or what is wrong. -/
def rootR (ts : List Tot) : Tot × Int := if 256 < ts.length then (noTot, 4) else rootF 257 ts
set_option maxRecDepth 100000 in
theorem Root_any (ts : List Tot) (hd : ∀ t ∈ ts, Dig t.2) (A : Option Addr) (n c : Nat) (w : World) (hnc : n ≤ c) (h : TSl w w.heap.size A n ts) (hg : RoundsAt w) :
    Calls Tryd.prog 10 #[.slice A n c] w (fun e w' => e = .returned (tellV (rootR ts)) ∧ Below w.heap.size w w') := by
  have hln := FSl.len totE_len (by decide) h
  unfold rootR
  by_cases hn : 256 < n
  · have e1 : (256 : Int) < (n : Int) := by omega
    rw [if_pos (by omega)]
    clear hn hd h hln hnc
    go_enter Tryd.func10, Tryd.ntmps10
    go_upto_region 1 with fail
    change Code.wp _ _ _ _ (w.alloc (.cells (totR 0 zeroD) 25))
    have TZ : Hid (TotAt (w.alloc (.cells (totR 0 zeroD) 25)) w.heap.size 0 zeroD) := aside (TotAt.new w _ _)
    have hB1 : Below w.heap.size w (w.alloc (.cells (totR 0 zeroD) 25)) := below_more (Below.refl _ _) _
    generalize w.alloc (.cells (totR 0 zeroD) 25) = w1 at TZ hB1 ⊢
    have HB1 := aside hB1
    clear hB1
    go_wp2_with (first
      | (refine wpList_totz rfl rfl ?_)
      | (refine wpList_store_row rfl 25 (.tmp 2) (.tmp 7) rfl w.heap.size (totR 0 zeroD) rfl rfl 25 (totR 0 zeroD) TZ.out (totInfo rfl) rfl (totR_one _ _) ?_)
      | fail)
    refine bodyPost_ret (results_cell_tmp rfl _ _ w.heap.size 25 (totR 0 zeroD) (0, 0) _ rfl (setRow_heap w1 w.heap.size _ _ _ _ TZ.out) Tryd.underlying25 rfl (totInfo rfl)) rfl ?_
    exact ⟨rfl, below_setRow HB1.out _ (Nat.le_refl _) _⟩
  · have e1 : ((256 : Int) < (n : Int)) = False := by simp only [eq_iff_iff, iff_false]; omega
    rw [if_neg (by omega)]
    have hr := fun w' h1 h2 => root_any 257 ts (by omega) (by omega) hd A n c w' hnc h1 h2
    have hdr := rootF_dig 257 ts hd
    generalize rootF 257 ts = R at hr hdr ⊢
    obtain ⟨x, q⟩ := R
    have HD := aside hdr
    have HR : Hid (∀ w', TSl w' w'.heap.size A n ts → RoundsAt w' → Calls Tryd.prog 26 #[.slice A n c] w' (fun e w'' => e = .returned (.tuple #[tV x, errA q]) ∧ Below w'.heap.size w' w'')) := aside hr
    have HSl := aside h
    have HG := aside hg
    obtain ⟨E, hE⟩ : ∃ E, E = errA q := ⟨_, rfl⟩
    show Calls _ _ _ _ (fun e w' => e = .returned (.tuple #[tV x, errA q]) ∧ Below w.heap.size w w')
    rw [← hE] at HR ⊢
    clear hr hdr h hg hd hn hln hnc hE
    go_enter Tryd.func10, Tryd.ntmps10
    go_upto_region 1 with fail
    change Code.wp _ _ _ _ (w.alloc (.cells (totR 0 zeroD) 25))
    have TZ : Hid (TotAt (w.alloc (.cells (totR 0 zeroD) 25)) w.heap.size 0 zeroD) := aside (TotAt.new w _ _)
    have hB1 : Below w.heap.size w (w.alloc (.cells (totR 0 zeroD) 25)) := below_more (Below.refl _ _) _
    generalize w.alloc (.cells (totR 0 zeroD) 25) = w1 at TZ hB1 ⊢
    have HB1 := aside hB1
    clear hB1
    go_wp2_with (first
      | (go_at_call 26; refine (HR.out w1 ((Sl.below HSl.out HB1.out).more HB1.out.size) (HG.out.below HB1.out)).mono ?_; rintro e w2 ⟨rfl, hb2⟩; have HB2 := aside (HB1.out.trans (hb2.mono HB1.out.size)); have TZ2 : Hid (TotAt w2 w.heap.size 0 zeroD) := aside (TZ.out.below hb2 TZ.out.lt); clear hb2)
      | (refine wpList_store_row rfl 25 (.tmp 2) (.tmp 11) rfl w.heap.size (totR x.1 x.2) rfl rfl 25 (totR 0 zeroD) TZ2.out (totInfo HD.out.1) (tot_same rfl HD.out.1) (totR_one _ _) ?_)
      | fail)
    refine bodyPost_ret (results_cell_tmp rfl _ _ w.heap.size 25 (totR x.1 x.2) (0, 0) _ rfl (setRow_heap w2 w.heap.size _ _ _ _ TZ2.out) Tryd.underlying25 rfl (totInfo HD.out.1)) rfl ?_
    exact ⟨rfl, below_setRow HB2.out _ (Nat.le_refl _) _⟩

theorem totZero : (Tryd.prog.info? 25).map (fun i => (i.zero, i.size)) = some (some (.agg (totR 0 zeroD)), 33) := by kernel_rfl
theorem fill_two (s1 s2 : Int) : ∀ (d1 d2 : List Nat), d1.length = 32 → d2.length = 32 →
    Instr.fill (fun i => some (i * 33, 33)) ((Array.range (2 * 33)).map ((Value.agg (totR 0 zeroD)).cells[· % (Value.agg (totR 0 zeroD)).cells.size]!)) [(0, totV s1 d1), (1, totV s2 d2)] = some (totR s1 d1 ++ totR s2 d2)
  | [a0, a1, a2, a3, a4, a5, a6, a7, a8, a9, a10, a11, a12, a13, a14, a15, a16, a17, a18, a19, a20, a21, a22, a23, a24, a25, a26, a27, a28, a29, a30, a31], [b0, b1, b2, b3, b4, b5, b6, b7, b8, b9, b10, b11, b12, b13, b14, b15, b16, b17, b18, b19, b20, b21, b22, b23, b24, b25, b26, b27, b28, b29, b30, b31], _, _ => by kernel_rfl
set_option maxRecDepth 100000 in
theorem wpList_two {ops : Array Oper} {rest : List Oper} {o : Oper} {a : Act} {w : World} {Q : Exit → Act → World → Prop} (hg : o.guard = none) (x y : Operand) (ho : o.op = .buildSlice 26 2 #[(0, x), (1, y)])
    (s1 s2 : Int) (d1 d2 : List Nat) (hx : a.eval x = totV s1 d1) (hy : a.eval y = totV s2 d2) (h1 : d1.length = 32) (h2 : d2.length = 32)
    (h : wpList Tryd.prog ops Q rest (a.put o.dst (.slice (some ⟨w.heap.size, 0, none⟩) 2 2)) (w.alloc (.cells (totR s1 d1 ++ totR s2 d2) 25))) : wpList Tryd.prog ops Q (o :: rest) a w := by
  obtain ⟨ie, hie, hz, hs⟩ : ∃ ie, Tryd.prog.info? 25 = some ie ∧ ie.zero = some (.agg (totR 0 zeroD)) ∧ ie.size = 33 := by
    have ht := totZero
    cases hi : Tryd.prog.info? 25 with
    | none => rw [hi] at ht; simp at ht
    | some ie =>
      rw [hi] at ht
      simp only [Option.map_some, Option.some.injEq, Prod.mk.injEq] at ht
      exact ⟨ie, rfl, ht.1, ht.2⟩
  refine wpList_buildSlice hg 26 25 2 #[(0, x), (1, y)] ho (totR s1 d1 ++ totR s2 d2) ie (.agg (totR 0 zeroD)) Tryd.underlying26 hie hz (by rw [hs]; decide) (by rw [hs]; decide) ?_ h
  rw [hs]
  have hp : ((#[(0, x), (1, y)] : Array (Nat × Operand)).map fun (i, x) => (i, a.eval x)).toList = [(0, totV s1 d1), (1, totV s2 d2)] := by
    simp only [List.map_toArray, List.map_cons, List.map_nil, hx, hy]
  rw [hp]
  exact fill_two s1 s2 d1 d2 h1 h2
theorem two_slice (w : World) (s1 s2 : Int) (d1 d2 : List Nat) (h1 : d1.length = 32) (h2 : d2.length = 32) :
    TSl (w.alloc (.cells (totR s1 d1 ++ totR s2 d2) 25)) (w.alloc (.cells (totR s1 d1 ++ totR s2 d2) 25)).heap.size (some ⟨w.heap.size, 0, none⟩) 2 [(s1, d1), (s2, d2)] := by
  refine TSl.of rfl (by simp) fun j u hu => ?_
  rw [World.cell?_alloc_at _ _ _ _ rfl, Nat.zero_add]
  have e : (totR s1 d1 ++ totR s2 d2).toList = [(s1, d1), (s2, d2)].flatMap totE := by
    simp [totR, totE, fit_eq h1, fit_eq h2]
  rw [← Array.getElem?_toList, e]
  exact hu
def dig1 : List Nat := 1 :: List.replicate 31 0
def dig2 : List Nat := 2 :: List.replicate 31 0
theorem dig1_ok : Dig dig1 := ⟨rfl, by decide⟩
theorem dig2_ok : Dig dig2 := ⟨rfl, by decide⟩
theorem root_two (S1 S2 : List Nat) : ∃ S, Dig S ∧ rootR [(5, S1), (7, S2)] = ((12, S), 0) := by
  refine ⟨shaL (nodeT 5 S1 7 S2), shaL_dig _, ?_⟩
  have hh : halfN 2 = 1 := by decide +kernel
  unfold rootR
  rw [if_neg (by simp)]
  have h1 : rootF 256 [(5, S1)] = ((5, S1), 0) := by
    show rootF (255 + 1) [(5, S1)] = _
    unfold rootF
    rw [if_neg (by simp), if_pos (by rfl)]
    exact if_pos (show Mny 5 by decide)
  have h2 : rootF 256 [(7, S2)] = ((7, S2), 0) := by
    show rootF (255 + 1) [(7, S2)] = _
    unfold rootF
    rw [if_neg (by simp), if_pos (by rfl)]
    exact if_pos (show Mny 7 by decide)
  have h3 : rootF (256 + 1) [(5, S1), (7, S2)] = nodeR (5, S1) (7, S2) := by
    unfold rootF
    rw [if_neg (by simp), if_neg (by simp)]
    simp only [List.length_cons, List.length_nil, Nat.zero_add, Nat.reduceAdd, hh, List.take_succ_cons, List.take_zero, List.drop_succ_cons, List.drop_zero, h1, h2]
    simp
  show rootF (256 + 1) _ = _
  rw [h3]
  unfold nodeR
  rw [if_pos (show addQ 5 7 = 0 by decide)]
  rfl

set_option maxHeartbeats 4000000 in
set_option maxRecDepth 100000 in
theorem audited_any (w : World) (hg : RoundsAt w) : Calls Tryd.prog 7 #[] w (fun e w' => e = .returned (.bool true) ∧ Below w.heap.size w w') := by
  have HG := aside hg
  clear hg
  go_enter Tryd.func7, Tryd.ntmps7
  go_wp2_with fail
  refine (leaf_ok dig1 5 dig1_ok (by decide) w HG.out).mono ?_
  rintro e w1 ⟨rfl, hb1⟩
  have HB1 := aside hb1
  have hS1 := shaL_dig (leafT dig1 5)
  rw [show tellV ((((5 : Nat) : Int), shaL (leafT dig1 5)), 0) = .tuple #[totV 5 (shaL (leafT dig1 5)), .nilIface] from rfl]
  generalize shaL (leafT dig1 5) = S1 at hS1 ⊢
  have HS1 := aside hS1
  have R1 := TotAt.new w1 0 zeroD
  clear hb1 hS1
  go_upto_region 2 with (first
    | (refine wpList_store_row rfl 25 (.tmp 1) (.tmp 10) rfl w1.heap.size (totR 5 S1) rfl rfl 25 (totR 0 zeroD) R1 (totInfo HS1.out.1) (tot_same rfl HS1.out.1) (totR_one _ _) ?_)
    | fail)
  have T1' : TotAt ((w1.alloc (.cells (totR 0 zeroD) 25)).setRow w1.heap.size (totR 5 S1)) w1.heap.size 5 S1 := R1.setRow
  have hB2 : Below w.heap.size w ((w1.alloc (.cells (totR 0 zeroD) 25)).setRow w1.heap.size (totR 5 S1)) := below_setRow (HB1.out.alloc HB1.out.size _) _ HB1.out.size _
  change Code.wp _ _ _ _ ((w1.alloc (.cells (totR 0 zeroD) 25)).setRow w1.heap.size (totR 5 S1))
  clear R1 HB1
  generalize ((w1.alloc (.cells (totR 0 zeroD) 25)).setRow w1.heap.size (totR 5 S1)) = w2 at T1' hB2 ⊢
  have T1 := aside T1'
  have HB2 := aside hB2
  clear T1' hB2
  generalize w1.heap.size = N1 at T1 ⊢
  go_wp2_with fail
  refine (leaf_ok dig2 7 dig2_ok (by decide) w2 (HG.out.below HB2.out)).mono ?_
  rintro e w3 ⟨rfl, hb3⟩
  have HB3 : Hid (Below w.heap.size w w3) := aside (HB2.out.trans (hb3.mono HB2.out.size))
  have T13 : Hid (TotAt w3 N1 5 S1) := aside (T1.out.below hb3 T1.out.lt)
  have hS2 := shaL_dig (leafT dig2 7)
  rw [show tellV ((((7 : Nat) : Int), shaL (leafT dig2 7)), 0) = .tuple #[totV 7 (shaL (leafT dig2 7)), .nilIface] from rfl]
  generalize shaL (leafT dig2 7) = S2 at hS2 ⊢
  have HS2 := aside hS2
  have R3 := TotAt.new w3 0 zeroD
  clear hb3 hS2 T1 HB2
  go_upto_region 3 with (first
    | (refine wpList_store_row rfl 25 (.tmp 3) (.tmp 15) rfl w3.heap.size (totR 7 S2) rfl rfl 25 (totR 0 zeroD) R3 (totInfo HS2.out.1) (tot_same rfl HS2.out.1) (totR_one _ _) ?_)
    | fail)
  have T1' : TotAt ((w3.alloc (.cells (totR 0 zeroD) 25)).setRow w3.heap.size (totR 7 S2)) N1 5 S1 := (T13.out.alloc _).otherRow _ (Nat.ne_of_lt T13.out.lt)
  have T2' : TotAt ((w3.alloc (.cells (totR 0 zeroD) 25)).setRow w3.heap.size (totR 7 S2)) w3.heap.size 7 S2 := R3.setRow
  have hB4 : Below w.heap.size w ((w3.alloc (.cells (totR 0 zeroD) 25)).setRow w3.heap.size (totR 7 S2)) := below_setRow (HB3.out.alloc HB3.out.size _) _ HB3.out.size _
  change Code.wp _ _ _ _ ((w3.alloc (.cells (totR 0 zeroD) 25)).setRow w3.heap.size (totR 7 S2))
  clear R3 HB3 T13
  generalize ((w3.alloc (.cells (totR 0 zeroD) 25)).setRow w3.heap.size (totR 7 S2)) = w4 at T1' T2' hB4 ⊢
  have T1 := aside T1'
  have T2 := aside T2'
  have HB4 := aside hB4
  clear T1' T2' hB4
  generalize w3.heap.size = N2 at T2 ⊢
  obtain ⟨S, hS, hr2⟩ := root_two S1 S2
  have HS := aside hS
  have HTs := aside (two_slice w4 5 7 S1 S2 HS1.out.1 HS2.out.1)
  have HB5 : Hid (Below w.heap.size w (w4.alloc (.cells (totR 5 S1 ++ totR 7 S2) 25))) := aside (HB4.out.alloc HB4.out.size _)
  have hds : ∀ t ∈ ([(5, S1), (7, S2)] : List Tot), Dig t.2 := by
    intro t ht
    simp only [List.mem_cons, List.not_mem_nil, or_false] at ht
    rcases ht with rfl | rfl
    · exact HS1.out
    · exact HS2.out
  have hRoot := Root_any [(5, S1), (7, S2)] hds (some ⟨w4.heap.size, 0, none⟩) 2 2 (w4.alloc (.cells (totR 5 S1 ++ totR 7 S2) 25)) (Nat.le_refl _) HTs.out (HG.out.below HB5.out)
  rw [hr2] at hRoot
  have HRoot : Hid (Calls Tryd.prog 10 #[.slice (some ⟨w4.heap.size, 0, none⟩) 2 2] (w4.alloc (.cells (totR 5 S1 ++ totR 7 S2) 25)) (fun e w' => e = .returned (.tuple #[totV 12 S, .nilIface]) ∧ Below (w4.alloc (.cells (totR 5 S1 ++ totR 7 S2) 25)).heap.size (w4.alloc (.cells (totR 5 S1 ++ totR 7 S2) 25)) w')) := aside hRoot
  clear hRoot hr2 hS hds
  go_upto_region 4 with (first
    | (refine wpList_load_row rfl 25 (.tmp 1) rfl N1 rfl 25 (totR 5 S1) (0, 0) _ T1.out Tryd.underlying25 rfl (totInfo HS1.out.1) ?_)
    | (refine wpList_load_row rfl 25 (.tmp 3) rfl N2 rfl 25 (totR 7 S2) (0, 0) _ T2.out Tryd.underlying25 rfl (totInfo HS2.out.1) ?_)
    | (refine wpList_two rfl (.tmp 18) (.tmp 19) rfl 5 7 S1 S2 rfl rfl HS1.out.1 HS2.out.1 ?_)
    | (go_at_call 10; refine HRoot.out.mono ?_; rintro e w6 ⟨rfl, hb6⟩; have HB6 : Hid (Below w.heap.size w w6) := aside (HB5.out.trans (hb6.mono HB5.out.size)); have R6 := TotAt.new w6 0 zeroD; clear hb6)
    | (refine wpList_store_row rfl 25 (.tmp 5) (.tmp 22) rfl w6.heap.size (totR 12 S) rfl rfl 25 (totR 0 zeroD) R6 (totInfo HS.out.1) (tot_same rfl HS.out.1) (totR_one _ _) ?_)
    | fail)
  have T3' : TotAt ((w6.alloc (.cells (totR 0 zeroD) 25)).setRow w6.heap.size (totR 12 S)) w6.heap.size 12 S := R6.setRow
  have hB7 : Below w.heap.size w ((w6.alloc (.cells (totR 0 zeroD) 25)).setRow w6.heap.size (totR 12 S)) := below_setRow (HB6.out.alloc HB6.out.size _) _ HB6.out.size _
  change Code.wp _ _ _ _ ((w6.alloc (.cells (totR 0 zeroD) 25)).setRow w6.heap.size (totR 12 S))
  clear R6 HB6
  generalize ((w6.alloc (.cells (totR 0 zeroD) 25)).setRow w6.heap.size (totR 12 S)) = w7 at T3' hB7 ⊢
  have c12 := T3'.sum
  have HB7 := aside hB7
  clear hB7 T3'
  go_wp2
  go_ret
  exact ⟨rfl, HB7.out⟩
end Go.Proofs.YtkpbhbafapdboaaDoor
