/- key.Step: the walk. Conditions: named in each theorem. -/
import Derived.Test.YtiigggbghgfdoaaDoorOf
import Derived.Great.BuildSlice
namespace Go.Proofs.YtiigggbghgfdoaaDoor
open Go.RowKit Go.ChangeShapes Go.WideShapes Go.ChangeAt

/-- A digest so many steps on. -/
def stepL : Nat → List Nat → List Nat
  | 0, d => d
  | k + 1, d => ofL 8 [stepL k d]
theorem stepL_len {d : List Nat} (h : d.length = 32) : ∀ k, (stepL k d).length = 32
  | 0 => h
  | _ + 1 => ofL_len _ _
theorem stepL_small {d : List Nat} (h : ∀ x ∈ d, x < 256) : ∀ k, ∀ x ∈ stepL k d, x < 256
  | 0 => h
  | _ + 1 => ofL_small _ _
theorem digZero : (Tryd.prog.info? 23).map (fun i => (i.zero, i.size)) = some (some (.agg (rowY (List.replicate 32 0))), 32) := by kernel_rfl
theorem fillD : ∀ (d : List Nat), d.length = 32 →
    Instr.fill (fun i => some (i * 32, 32)) ((Array.range (1 * 32)).map ((Value.agg (rowY (List.replicate 32 0))).cells[· % (Value.agg (rowY (List.replicate 32 0))).cells.size]!)) [(0, digV d)] = some (rowY d)
  | [a0, a1, a2, a3, a4, a5, a6, a7, a8, a9, a10, a11, a12, a13, a14, a15, a16, a17, a18, a19, a20, a21, a22, a23, a24, a25, a26, a27, a28, a29, a30, a31], _ => by kernel_rfl
set_option maxRecDepth 100000 in
theorem wpList_dig {ops : Array Oper} {rest : List Oper} {o : Oper} {a : Act} {w : World} {Q : Exit → Act → World → Prop} (hg : o.guard = none) (x : Operand) (ho : o.op = .buildSlice 71 1 #[(0, x)])
    (d : List Nat) (hx : a.eval x = digV d) (h1 : d.length = 32)
    (h : wpList Tryd.prog ops Q rest (a.put o.dst (.slice (some ⟨w.heap.size, 0, none⟩) 1 1)) (w.alloc (.cells (rowY d) 23))) : wpList Tryd.prog ops Q (o :: rest) a w := by
  obtain ⟨ie, hie, hz, hs⟩ : ∃ ie, Tryd.prog.info? 23 = some ie ∧ ie.zero = some (.agg (rowY (List.replicate 32 0))) ∧ ie.size = 32 := by
    have ht := digZero
    cases hi : Tryd.prog.info? 23 with
    | none => rw [hi] at ht; simp at ht
    | some ie =>
      rw [hi] at ht
      simp only [Option.map_some, Option.some.injEq, Prod.mk.injEq] at ht
      exact ⟨ie, rfl, ht.1, ht.2⟩
  refine wpList_buildSlice hg 71 23 1 #[(0, x)] ho (rowY d) ie (.agg (rowY (List.replicate 32 0))) Tryd.underlying71 hie hz (by rw [hs]; decide) (by rw [hs]; decide) ?_ h
  rw [hs]
  have hp : ((#[(0, x)] : Array (Nat × Operand)).map fun (i, x) => (i, a.eval x)).toList = [(0, digV d)] := by
    simp only [List.map_toArray, List.map_cons, List.map_nil, hx]
  rw [hp]
  exact fillD d h1
theorem BlkY.gsl {w : World} {b B : Nat} {T : TypeId} {d : List Nat} (h : BlkY w b T d) (hl : d.length = 32) (hB : b < B) : GSl w B (some ⟨b, 0, none⟩) 1 [d] := by
  refine ⟨by simp [digC_len], fun _ => ⟨b, 0, rfl, hB, fun j u hu => ?_⟩⟩
  rw [List.flatMap_cons, List.flatMap_nil, List.append_nil] at hu
  have hj : j < 32 := by have := (List.getElem?_eq_some_iff.1 hu).1; rwa [digC_len] at this
  rw [Nat.zero_add, h.cell (by omega)]
  rw [← hu]
  unfold digC
  rw [List.getElem?_map, List.getElem?_range hj]
  rfl
set_option maxHeartbeats 20000000 in
set_option maxRecDepth 100000 in
theorem step_any (d : List Nat) (hd : d.length = 32) (hb : ∀ x ∈ d, x < 256) (n : Nat) (hn : n ≤ 1000) (w : World) (hg : RoundsAt w) :
    Calls Tryd.prog 42 #[digV d, .int .i64 (n : Int)] w (fun e w' => e = .returned (digV (stepL n d)) ∧ Below w.heap.size w w') := by
  have hr : 1 < w.heap.size := by
    obtain ⟨T, fr, -, h2⟩ := hg
    exact h2
  have HG := aside hg
  have HDl := aside hd
  have HDb := aside hb
  have B1 : Hid (Below w.heap.size w ((w.alloc (.cells (rowY d) 23)).alloc (.cells (rowY (List.replicate 32 0)) 23))) := aside (((Below.refl _ _).alloc (Nat.le_refl _) _).alloc (by simp) _)
  have D0 : Hid (BlkY ((w.alloc (.cells (rowY d) 23)).alloc (.cells (rowY (List.replicate 32 0)) 23)) w.heap.size 23 (stepL 0 d)) := aside ((BlkY.new w _ _).alloc _)
  have D1 : Hid (BlkY ((w.alloc (.cells (rowY d) 23)).alloc (.cells (rowY (List.replicate 32 0)) 23)) (w.heap.size + 1) 23 (List.replicate 32 0)) := aside (by
    have h := BlkY.new (w.alloc (.cells (rowY d) 23)) 23 (List.replicate 32 0)
    rwa [show (w.alloc (.cells (rowY d) 23)).heap.size = w.heap.size + 1 by simp] at h)
  have Z1 : Hid (w.heap.size + 2 ≤ ((w.alloc (.cells (rowY d) 23)).alloc (.cells (rowY (List.replicate 32 0)) 23)).heap.size) := aside (by simp)
  clear hg hb hd
  unfold digV
  go_enter Tryd.func42, Tryd.ntmps42
  go_wp2_with fail
  change Code.wp _ _ _ _ ((w.alloc (.cells (rowY d) 23)).alloc (.cells (rowY (List.replicate 32 0)) 23))
  generalize ((w.alloc (.cells (rowY d) 23)).alloc (.cells (rowY (List.replicate 32 0)) 23)) = w1 at B1 D0 D1 Z1 ⊢
  obtain ⟨B0, hB0⟩ : ∃ B0, B0 = w.heap.size := ⟨_, rfl⟩
  have EB := aside hB0
  simp only [← hB0] at D0 D1 Z1 ⊢
  rw [← hB0] at hr
  clear hB0
  go_loopw [1] (fun v1 wr => ∃ (k i : Nat), k + i = n ∧ v1 = .int .i64 k ∧ B0 + 2 ≤ wr.heap.size ∧ Hid (BlkY wr B0 23 (stepL i d)) ∧ Hid (BlkY wr (B0 + 1) 23 (List.replicate 32 0)) ∧ Hid (Below w.heap.size w wr)) (fun v1 _ => (Go.RowKit.intOf v1).toNat)
  case atStart => exact ⟨n, 0, rfl, rfl, Z1.out, D0, D1, B1⟩
  case round =>
    clear D0 D1 B1 Z1
    obtain ⟨k, i, hki, rfl, hz, D0, D1, HB⟩ := hrel
    have Hki := aside hki
    have hk1 : k ≤ 1000 := by omega
    clear hki
    rcases Nat.eq_zero_or_pos k with h0 | hpos
    · subst h0
      have HXe : Hid (stepL i d = stepL n d) := aside (by rw [show i = n by have := Hki.out; omega])
      have hXl := stepL_len HDl.out i
      generalize stepL i d = X at D0 HXe hXl
      have HS9 : Hid ((Tryd.prog.info? 23).map (·.size) = some (rowY X).size) := aside (by rw [rowY_size, hXl]; kernel_rfl)
      have HS8 : Hid ((rowY (List.replicate 32 0)).size = (rowY X).size) := aside (by rw [rowY_size, rowY_size, hXl]; rfl)
      go_wp2_with (first
        | (refine wpList_load_row rfl 23 (.tmp 2) rfl B0 rfl 23 (rowY X) (0, 0) _ D0.out Tryd.underlying23 rfl HS9.out ?_)
        | (refine wpList_store_row rfl 23 (.tmp 4) (.tmp 12) rfl (B0 + 1) (rowY X) rfl rfl 23 (rowY (List.replicate 32 0)) D1.out HS9.out HS8.out (rowY_one _) ?_)
        | fail)
      refine bodyPost_ret (results_cell_row rfl _ _ (B0 + 1) 23 (rowY X) (0, 0) _ rfl (setRow_heap wr (B0 + 1) _ _ _ _ D1.out) Tryd.underlying23 rfl HS9.out) rfl ?_
      exact ⟨by rw [← HXe.out] <;> rfl, below_setRow HB.out _ (by rw [EB.out]; omega) _⟩
    · obtain ⟨k', rfl⟩ : ∃ k', k = k' + 1 := ⟨k - 1, by omega⟩
      have k0 : (0 : Int) < ((k' + 1 : Nat) : Int) := by omega
      have HNx : Hid (stepL (i + 1) d = ofL 8 [stepL i d]) := aside rfl
      have hXl := stepL_len HDl.out i
      have HXb := aside (stepL_small HDb.out i)
      generalize stepL i d = X at D0 HNx hXl HXb
      have HS9 : Hid ((Tryd.prog.info? 23).map (·.size) = some (rowY X).size) := aside (by rw [rowY_size, hXl]; kernel_rfl)
      have B2 : Hid (Below wr.heap.size wr (wr.alloc (.cells (rowY X) 23))) := aside ((Below.refl _ _).alloc (Nat.le_refl _) _)
      have G2 : Hid (GSl (wr.alloc (.cells (rowY X) 23)) (wr.alloc (.cells (rowY X) 23)).heap.size (some ⟨wr.heap.size, 0, none⟩) 1 [X]) := aside ((BlkY.new wr 23 X).gsl hXl (by simp))
      go_wp2_with (first
        | (refine wpList_load_row rfl 23 (.tmp 2) rfl B0 rfl 23 (rowY X) (0, 0) _ D0.out Tryd.underlying23 rfl HS9.out ?_)
        | (refine wpList_dig rfl (.tmp 9) rfl X rfl hXl ?_)
        | fail)
      have HD1 : Hid (∀ x ∈ [X], x.length = 32 ∧ ∀ y ∈ x, y < 256) := aside (fun x hx => by
        obtain rfl := List.mem_singleton.1 hx
        exact ⟨hXl, HXb.out⟩)
      refine (of_any 8 (by decide) [X] HD1.out (some ⟨wr.heap.size, 0, none⟩) 1 1 (by decide) _ G2.out (HG.out.below (HB.out.trans (B2.out.mono HB.out.size)))).mono ?_
      rintro e w3 ⟨rfl, hb3⟩
      have hB3 : Below wr.heap.size wr w3 := B2.out.trans (hb3.mono B2.out.size)
      have HB3 := aside (HB.out.trans (hB3.mono HB.out.size))
      have D03 := aside (D0.out.below hB3 D0.out.lt)
      have D13 := aside (D1.out.below hB3 D1.out.lt)
      have hz3 := Nat.le_trans hz hB3.size
      clear hb3 hB3
      obtain ⟨Y, hY⟩ : ∃ Y, Y = ofL 8 [X] := ⟨_, rfl⟩
      have hYl : Y.length = 32 := by rw [hY]; exact ofL_len _ _
      rw [← hY] at HNx ⊢
      clear hY
      have HS7 : Hid ((Tryd.prog.info? 23).map (·.size) = some (rowY Y).size) := aside (by rw [rowY_size, hYl]; kernel_rfl)
      have HS8 : Hid ((rowY X).size = (rowY Y).size) := aside (by rw [rowY_size, rowY_size, hXl, hYl])
      have D04 : Hid (BlkY (w3.setRow B0 (rowY Y)) B0 23 (stepL (i + 1) d)) := aside (by rw [HNx.out]; exact setRow_heap _ _ _ _ _ _ D03.out)
      have D14 : Hid (BlkY (w3.setRow B0 (rowY Y)) (B0 + 1) 23 (List.replicate 32 0)) := aside ((setRow_other _ _ _ _ (by omega)).trans D13.out)
      have HB4 : Hid (Below w.heap.size w (w3.setRow B0 (rowY Y))) := aside (below_setRow HB3.out _ (by rw [EB.out]; exact Nat.le_refl _) _)
      have hz4 : B0 + 2 ≤ (w3.setRow B0 (rowY Y)).heap.size := by
        have := D14.out.lt
        omega
      go_wp2_with (first
        | (refine wpList_store_row rfl 23 (.tmp 2) (.tmp 11) rfl B0 (rowY Y) rfl rfl 23 (rowY X) D03.out HS7.out HS8.out (rowY_one _) ?_)
        | fail)
      exact ⟨⟨k', i + 1, by have := Hki.out; omega, by go_num, hz4, D04, D14, HB4⟩, by simp [Go.RowKit.intOf] <;> omega⟩
end Go.Proofs.YtiigggbghgfdoaaDoor
