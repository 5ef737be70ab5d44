/- A leaf's path: audit.Path: the walk. Conditions: named in each theorem. -/
import Derived.Test.YtkpbhbafapdboaaDoorAudR
namespace Go.Proofs.YtkpbhbafapdboaaDoor
open Go.RowKit Go.ChangeShapes Go.WideShapes Go.ChangeAt Go.Sort

theorem rootR_dig (ts : List Tot) (hd : ∀ t ∈ ts, Dig t.2) : Dig (rootR ts).1.2 := by
  unfold rootR
  split
  · exact zeroD_dig
  · exact rootF_dig _ _ hd
theorem fill_one (s : Int) : ∀ (d : List Nat), d.length = 32 →
    Instr.fill (fun i => some (i * 33, 33)) ((Array.range (1 * 33)).map ((Value.agg (totR 0 zeroD)).cells[· % (Value.agg (totR 0 zeroD)).cells.size]!)) [(0, totV s d)] = some (totR s d)
  | [a0, a1, a2, a3, a4, a5, a6, a7, a8, a9, a10, a11, a12, a13, a14, a15, a16, a17, a18, a19, a20, a21, a22, a23, a24, a25, a26, a27, a28, a29, a30, a31], _ => by kernel_rfl
set_option maxRecDepth 100000 in
theorem wpList_one {ops : Array Oper} {rest : List Oper} {o : Oper} {a : Act} {w : World} {Q : Exit → Act → World → Prop} (hg : o.guard = none) (x : Operand) (ho : o.op = .buildSlice 26 1 #[(0, x)])
    (s : Int) (d : List Nat) (hx : a.eval x = totV s d) (h1 : d.length = 32)
    (h : wpList Tryd.prog ops Q rest (a.put o.dst (.slice (some ⟨w.heap.size, 0, none⟩) 1 1)) (w.alloc (.cells (totR s d) 25))) : wpList Tryd.prog ops Q (o :: rest) a w := by
  obtain ⟨ie, hie, hz, hs⟩ : ∃ ie, Tryd.prog.info? 25 = some ie ∧ ie.zero = some (.agg (totR 0 zeroD)) ∧ ie.size = 33 := by
    have ht := totZero
    cases hi : Tryd.prog.info? 25 with
    | none => rw [hi] at ht; simp at ht
    | some ie =>
      rw [hi] at ht
      simp only [Option.map_some, Option.some.injEq, Prod.mk.injEq] at ht
      exact ⟨ie, rfl, ht.1, ht.2⟩
  refine wpList_buildSlice hg 26 25 1 #[(0, x)] ho (totR s d) ie (.agg (totR 0 zeroD)) Tryd.underlying26 hie hz (by rw [hs]; decide) (by rw [hs]; decide) ?_ h
  rw [hs]
  have hp : ((#[(0, x)] : Array (Nat × Operand)).map fun (i, x) => (i, a.eval x)).toList = [(0, totV s d)] := by
    simp only [List.map_toArray, List.map_cons, List.map_nil, hx]
  rw [hp]
  exact fill_one s d h1

set_option maxHeartbeats 2000000 in
set_option maxRecDepth 100000 in
theorem path_bad (ts : List Tot) (hd : ∀ t ∈ ts, Dig t.2) (i : Int) (A : Option Addr) (n c : Nat) (w : World) (hnc : n ≤ c) (h : TSl w w.heap.size A n ts) (hg : RoundsAt w) (hq : (rootR ts).2 ≠ 0 ∨ i < 0 ∨ (n : Int) ≤ i) :
    Calls Tryd.prog 11 #[.slice A n c, .int .i64 i] w (fun e w' => (∃ q : Int, q ≠ 0 ∧ e = .returned (.tuple #[.slice none 0 0, .iface 40 (.int .i64 q)])) ∧ Below w.heap.size w w') := by
  have hRoot := fun w' h1 h2 => Root_any ts hd A n c w' hnc h1 h2
  have hRd := rootR_dig ts hd
  generalize rootR ts = R at hRoot hRd hq
  obtain ⟨x, q⟩ := R
  have HRoot : Hid (∀ w', TSl w' w'.heap.size A n ts → RoundsAt w' → Calls Tryd.prog 10 #[.slice A n c] w' (fun e w'' => e = .returned (.tuple #[tV x, errA q]) ∧ Below w'.heap.size w' w'')) := aside hRoot
  have HRd := aside hRd
  have HSl := aside h
  have HG := aside hg
  clear hRoot hRd h hg hd hnc
  by_cases hq0 : q = 0
  · subst hq0
    have hr : i < 0 ∨ (n : Int) ≤ i := by
      rcases hq with h | h
      · exact absurd rfl h
      · exact h
    clear hq
    rw [show errA 0 = .nilIface from rfl] at HRoot
    rcases hr with hr | hr
    · have e1 : i < 0 := hr
      clear hr
      go_enter Tryd.func11, Tryd.ntmps11
      go_wp2_with (first
        | (go_at_call 10; refine (HRoot.out w HSl.out HG.out).mono ?_; rintro e w2 ⟨rfl, hb2⟩; have HB2 := aside hb2; have R2 := TotAt.new w2 0 zeroD; clear hb2)
        | (refine wpList_store_row rfl 25 (.tmp 6) (.tmp 14) rfl w2.heap.size (totR x.1 x.2) rfl rfl 25 (totR 0 zeroD) R2 (totInfo HRd.out.1) (tot_same rfl HRd.out.1) (totR_one _ _) ?_)
        | fail)
      go_ret2
      exact ⟨⟨2, by decide, rfl⟩, below_setRow (HB2.out.alloc HB2.out.size _) _ HB2.out.size _⟩
    · by_cases e0 : i < 0
      · have e1 : i < 0 := e0
        clear hr e0
        go_enter Tryd.func11, Tryd.ntmps11
        go_wp2_with (first
          | (go_at_call 10; refine (HRoot.out w HSl.out HG.out).mono ?_; rintro e w2 ⟨rfl, hb2⟩; have HB2 := aside hb2; have R2 := TotAt.new w2 0 zeroD; clear hb2)
          | (refine wpList_store_row rfl 25 (.tmp 6) (.tmp 14) rfl w2.heap.size (totR x.1 x.2) rfl rfl 25 (totR 0 zeroD) R2 (totInfo HRd.out.1) (tot_same rfl HRd.out.1) (totR_one _ _) ?_)
          | fail)
        go_ret2
        exact ⟨⟨2, by decide, rfl⟩, below_setRow (HB2.out.alloc HB2.out.size _) _ HB2.out.size _⟩
      · have e1 : (i < 0) = False := by simp only [eq_iff_iff, iff_false]; exact e0
        clear e0
        go_enter Tryd.func11, Tryd.ntmps11
        go_wp2_with (first
          | (go_at_call 10; refine (HRoot.out w HSl.out HG.out).mono ?_; rintro e w2 ⟨rfl, hb2⟩; have HB2 := aside hb2; have R2 := TotAt.new w2 0 zeroD; clear hb2)
          | (refine wpList_store_row rfl 25 (.tmp 6) (.tmp 14) rfl w2.heap.size (totR x.1 x.2) rfl rfl 25 (totR 0 zeroD) R2 (totInfo HRd.out.1) (tot_same rfl HRd.out.1) (totR_one _ _) ?_)
          | fail)
        go_ret2
        exact ⟨⟨2, by decide, rfl⟩, below_setRow (HB2.out.alloc HB2.out.size _) _ HB2.out.size _⟩
  · have he : errA q = .iface 40 (.int .i64 q) := by unfold errA; rw [if_neg hq0]
    rw [he] at HRoot
    have HQ := aside hq0
    clear he hq0 hq
    go_enter Tryd.func11, Tryd.ntmps11
    go_wp2_with (first
      | (go_at_call 10; refine (HRoot.out w HSl.out HG.out).mono ?_; rintro e w2 ⟨rfl, hb2⟩; have HB2 := aside hb2; have R2 := TotAt.new w2 0 zeroD; clear hb2)
      | (refine wpList_store_row rfl 25 (.tmp 6) (.tmp 14) rfl w2.heap.size (totR x.1 x.2) rfl rfl 25 (totR 0 zeroD) R2 (totInfo HRd.out.1) (tot_same rfl HRd.out.1) (totR_one _ _) ?_)
      | fail)
    go_ret2
    exact ⟨⟨q, HQ.out, rfl⟩, below_setRow (HB2.out.alloc HB2.out.size _) _ HB2.out.size _⟩
end Go.Proofs.YtkpbhbafapdboaaDoor
