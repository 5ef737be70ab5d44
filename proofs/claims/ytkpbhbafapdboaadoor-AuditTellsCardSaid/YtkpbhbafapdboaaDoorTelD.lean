/- What the audit tells is what the document says: the walk of AuditTells. Conditions: named in each theorem. -/
import Derived.Test.YtkpbhbafapdboaaDoorTelC
import Derived.Test.YtkpbhbafapdboaaDoorErr
import Derived.Deep.DeepCutAuto
namespace Go.Proofs.YtkpbhbafapdboaaDoor
open Go.RowKit Go.ChangeShapes Go.WideShapes Go.ChangeAt

/-- What the law's walk keeps: a digest, totals in blocks of their own. -/
structure Tl (w0 : World) (N : Nat) (nm : List Nat) (L : List (Nat × Tot)) (w : World) : Prop where
  below : Below w0.heap.size w0 w
  dg : DigAt w N nm
  hN : w0.heap.size ≤ N
  at_ : ∀ e ∈ L, TotAt w e.1 e.2.1 e.2.2 ∧ w0.heap.size ≤ e.1 ∧ e.1 ≠ N
  nd : (L.map (·.1)).Nodup
section
variable {w0 w w' : World} {N : Nat} {nm : List Nat} {L L1 L2 : List (Nat × Tot)}
theorem Tl.step (h : Tl w0 N nm L w) (hb : Below w.heap.size w w') : Tl w0 N nm L w' :=
  ⟨h.below.trans (hb.mono h.below.size), (hb.block N h.dg.lt).trans h.dg, h.hN, fun e he => ⟨(h.at_ e he).1.below hb (h.at_ e he).1.lt, (h.at_ e he).2⟩, h.nd⟩
theorem Tl.new (h : Tl w0 N nm L w) (x : Tot) : Tl w0 N nm ((w.heap.size, x) :: L) ((w.alloc (.cells (totR 0 zeroD) 25)).setRow w.heap.size (totR x.1 x.2)) := by
  obtain ⟨h1, h2, -⟩ := store_new w x.1 x.2 _ rfl
  have hs := h.step h2
  refine ⟨hs.below, hs.dg, h.hN, fun e he => ?_, ?_⟩
  · rcases List.mem_cons.1 he with rfl | he
    · exact ⟨h1, h.below.size, fun e => by have := h.dg.lt; omega⟩
    · exact hs.at_ e he
  · rw [List.map_cons, List.nodup_cons]
    refine ⟨fun hm => ?_, h.nd⟩
    obtain ⟨e, he, h3⟩ := List.mem_map.1 hm
    have := (h.at_ e he).1.lt
    rw [h3] at this
    exact absurd this (Nat.lt_irrefl _)
theorem Tl.newz (h : Tl w0 N nm L w) : Tl w0 N nm ((w.heap.size, noTot) :: L) (w.alloc (.cells (totR 0 zeroD) 25)) := by
  have hs := h.step (below_more (Below.refl _ _) (.cells (totR 0 zeroD) 25))
  refine ⟨hs.below, hs.dg, h.hN, fun e he => ?_, ?_⟩
  · rcases List.mem_cons.1 he with rfl | he
    · exact ⟨TotAt.new w 0 zeroD, h.below.size, fun e => by have := h.dg.lt; omega⟩
    · exact hs.at_ e he
  · rw [List.map_cons, List.nodup_cons]
    refine ⟨fun hm => ?_, h.nd⟩
    obtain ⟨e, he, h3⟩ := List.mem_map.1 hm
    have := (h.at_ e he).1.lt
    rw [h3] at this
    exact absurd this (Nat.lt_irrefl _)
theorem Tl.set {b : Nat} {old : Tot} (h : Tl w0 N nm (L1 ++ (b, old) :: L2) w) (x : Tot) : Tl w0 N nm (L1 ++ (b, x) :: L2) (w.setRow b (totR x.1 x.2)) := by
  have hb := h.at_ (b, old) (by simp)
  have hnd := h.nd
  rw [List.map_append, List.map_cons, List.nodup_append, List.nodup_cons] at hnd
  have hne : ∀ e, e ∈ L1 ∨ e ∈ L2 → e.1 ≠ b := by
    rintro e (he | he) hh
    · exact hnd.2.2 e.1 (List.mem_map.2 ⟨e, he, rfl⟩) b (List.mem_cons_self ..) hh
    · exact hnd.2.1.1 (List.mem_map.2 ⟨e, he, hh⟩)
  refine ⟨below_setRow h.below _ hb.2.1 _, (setRow_other w b N _ (fun e => hb.2.2 e.symm)).trans h.dg, h.hN, fun e he => ?_, ?_⟩
  · rcases List.mem_append.1 he with he | he
    · exact ⟨(h.at_ e (List.mem_append_left _ he)).1.otherRow _ (hne e (.inl he)), (h.at_ e (List.mem_append_left _ he)).2⟩
    · rcases List.mem_cons.1 he with rfl | he
      · exact ⟨hb.1.setRow, hb.2⟩
      · exact ⟨(h.at_ e (List.mem_append_right _ (List.mem_cons_of_mem _ he))).1.otherRow _ (hne e (.inr he)), (h.at_ e (List.mem_append_right _ (List.mem_cons_of_mem _ he))).2⟩
  · rw [List.map_append, List.map_cons, List.nodup_append, List.nodup_cons]
    exact hnd
end
set_option maxRecDepth 100000 in
theorem leaf_bad (nm : List Nat) (n : Int) (hn : ¬ Mny n) (w : World) :
    Calls Tryd.prog 14 #[digV nm, .int .i64 n] w (fun e w' => e = .returned (tellV (noTot, 2)) ∧ Below w.heap.size w w') := by
  have HM := aside hn
  clear hn
  go_enter Tryd.func14, Tryd.ntmps14
  go_upto_region 1 with fail
  change Code.wp _ _ _ _ ((w.alloc (.cells (rowY nm) 23)).alloc (.cells (totR 0 zeroD) 25))
  have T2 : Hid (TotAt ((w.alloc (.cells (rowY nm) 23)).alloc (.cells (totR 0 zeroD) 25)) (w.heap.size + 1) 0 zeroD) := aside (by
    have h := TotAt.new (w.alloc (.cells (rowY nm) 23)) 0 zeroD
    rwa [show (w.alloc (.cells (rowY nm) 23)).heap.size = w.heap.size + 1 by simp] at h)
  have B1 : Hid (Below w.heap.size w ((w.alloc (.cells (rowY nm) 23)).alloc (.cells (totR 0 zeroD) 25))) := aside (((Below.refl _ _).alloc (Nat.le_refl _) _).alloc (by simp) _)
  generalize ((w.alloc (.cells (rowY nm) 23)).alloc (.cells (totR 0 zeroD) 25)) = w1 at T2 B1 ⊢
  obtain ⟨N, hN⟩ : ∃ N, N = w.heap.size := ⟨_, rfl⟩
  have EN := aside hN
  simp only [← hN] at T2 ⊢
  clear hN
  go_wp2_with (first
    | (go_at_call 24; refine (check_bad n HM.out _).mono ?_; rintro e w' ⟨rfl, hw'⟩; rw [hw']; clear hw' w')
    | (refine wpList_totz rfl rfl ?_)
    | (refine wpList_store_row rfl 25 (.tmp 4) (.tmp 11) rfl (N + 1) (totR 0 zeroD) rfl rfl 25 (totR 0 zeroD) T2.out (totInfo rfl) rfl (totR_one _ _) ?_)
    | fail)
  refine bodyPost_ret (results_cell_tmp rfl _ _ (N + 1) 25 (totR 0 zeroD) (0, 0) _ rfl (setRow_heap w1 (N + 1) _ _ _ _ T2.out) Tryd.underlying25 rfl (totInfo rfl)) rfl ?_
  exact ⟨rfl, below_setRow B1.out _ (by rw [EN.out]; omega) _⟩
theorem leaf_any (nm : List Nat) (n : Int) (hd : Dig nm) (w : World) (hg : RoundsAt w) : Calls Tryd.prog 14 #[digV nm, .int .i64 n] w (fun e w' => e = .returned (tellV (leafR nm n)) ∧ Below w.heap.size w w') := by
  unfold leafR
  by_cases hn : Mny n
  · rw [if_pos hn]
    obtain ⟨k, rfl⟩ : ∃ k : Nat, n = k := ⟨n.toNat, by have := hn.1; omega⟩
    exact leaf_ok nm k hd (by have := hn.2; omega) w hg
  · rw [if_neg hn]
    exact leaf_bad nm n hn w
theorem leafR_dig (nm : List Nat) (n : Int) : Dig (leafR nm n).1.2 := by
  unfold leafR
  split
  · exact shaL_dig _
  · exact zeroD_dig
/-- What is wrong with a path of a list and a place; the path. -/
def pathE (ts : List Tot) (i : Int) : Int := if (rootR ts).2 ≠ 0 then (rootR ts).2 else if i < 0 ∨ (ts.length : Int) ≤ i then 2 else 0
def pathL (ts : List Tot) (i : Int) : List Tot := if pathE ts i = 0 then (path0 i.toNat ts).reverse else []
theorem path_all (ts : List Tot) (hd : ∀ t ∈ ts, Dig t.2) (i : Int) (A : Option Addr) (n c : Nat) (w : World) (hnc : n ≤ c) (h : TSl w w.heap.size A n ts) (hg : RoundsAt w) :
    Calls Tryd.prog 11 #[.slice A n c, .int .i64 i] w (fun e w' => (∃ G m cg, e = .returned (.tuple #[.slice G m cg, errA (pathE ts i)]) ∧ TSl w' w'.heap.size G m (pathL ts i)) ∧ Below w.heap.size w w') := by
  have hln := FSl.len totE_len (by decide) h
  by_cases hq : (rootR ts).2 ≠ 0 ∨ i < 0 ∨ (n : Int) ≤ i
  · have hE : pathE ts i = pathQ (rootR ts).2 := by
      unfold pathE pathQ
      split
      · rfl
      · rename_i h0
        rw [if_pos (by rw [hln]; exact hq.resolve_left h0)]
    have hQ : pathQ (rootR ts).2 ≠ 0 := by
      unfold pathQ
      split
      · assumption
      · decide
    refine (path_bad2 ts hd i A n c w hnc h hg hq).mono ?_
    rintro e w' ⟨rfl, hb⟩
    refine ⟨⟨none, 0, 0, ?_, ?_⟩, hb⟩
    · rw [hE]
      unfold errA
      rw [if_neg hQ]
    · unfold pathL
      rw [hE, if_neg hQ]
      exact Sl.nil_
  · have h0 : (rootR ts).2 = 0 := by
      by_cases h0 : (rootR ts).2 = 0
      · exact h0
      · exact absurd (.inl h0) hq
    have h1 : ¬ (i < 0 ∨ (n : Int) ≤ i) := fun h => hq (.inr h)
    obtain ⟨k, rfl⟩ : ∃ k : Nat, i = k := ⟨i.toNat, by omega⟩
    have hE : pathE ts k = 0 := by
      unfold pathE
      rw [if_neg (by simp [h0]), if_neg (by rw [hln]; exact h1)]
    refine (path_ok ts hd k A n c w hnc h hg h0 (by omega)).mono ?_
    rintro e w' ⟨⟨G, m, cg, rfl, hs⟩, hb⟩
    refine ⟨⟨G, m, cg, by rw [hE]; rfl, ?_⟩, hb⟩
    unfold pathL
    rw [if_pos hE, Int.toNat_natCast]
    exact hs
theorem rootR_err {ts : List Tot} (h : (rootR ts).2 = 0) : ts.length ≤ 256 := by
  unfold rootR at h
  by_cases hl : 256 < ts.length
  · rw [if_pos hl] at h
    exact absurd h (by decide)
  · omega
set_option maxRecDepth 100000 in
theorem digInfo {nm : List Nat} (h : nm.length = 32) : (Tryd.prog.info? 23).map (·.size) = some (rowY nm).size := by rw [rowY_size, h]; kernel_rfl
set_option maxHeartbeats 16000000 in
set_option maxRecDepth 100000 in
theorem tells_any (nm : List Nat) (hnm : Dig nm) (n : Int) (ts : List Tot) (hts : ∀ x ∈ ts, Dig x.2) (i : Int) (t : Tot) (ht : Dig t.2) (many : Int) (path : List Tot) (hpath : ∀ x ∈ path, Dig x.2)
    (A B : Option Addr) (m c l d : Nat) (hmc : m ≤ c) (hld : l ≤ d) (w : World) (h1 : TSl w w.heap.size A m ts) (h2 : TSl w w.heap.size B l path) (hg : RoundsAt w) (hev : ErrVar w) : Calls Tryd.prog 6 #[digV nm, .int .i64 n, .slice A m c, .int .i64 i, tV t, .int .i64 many, .slice B l d] w (LawPost w) := by
  unfold LawPost
  have hml := FSl.len totE_len (by decide) h1
  have hll := FSl.len totE_len (by decide) h2
  -- both sides' answers
  obtain ⟨L1, q1, hL⟩ : ∃ L1 q1, leafR nm n = (L1, q1) := ⟨_, _, rfl⟩
  have HD1 : Hid (Dig L1.2) := aside (by have := leafR_dig nm n; rwa [hL] at this)
  obtain ⟨L2, q2, hN⟩ : ∃ L2 q2, nodeR t L1 = (L2, q2) := ⟨_, _, rfl⟩
  have HD2 : Hid (Dig L2.2) := aside (by have := nodeR_dig t L1; rwa [hN] at this)
  obtain ⟨L3, q3, hR⟩ : ∃ L3 q3, rootR ts = (L3, q3) := ⟨_, _, rfl⟩
  have HD3 : Hid (Dig L3.2) := aside (by have := rootR_dig ts hts; rwa [hR] at this)
  obtain ⟨q4, hq4⟩ : ∃ q, q = pathE ts i := ⟨_, rfl⟩
  obtain ⟨L4, hL4⟩ : ∃ L, L = pathL ts i := ⟨_, rfl⟩
  obtain ⟨L5, q5, hF⟩ : ∃ L5 q5, foldR t i many path = (L5, q5) := ⟨_, _, rfl⟩
  have HD5 : Hid (Dig L5.2) := aside (by have := foldR_dig t ht i many path hpath; rwa [hF] at this)
  obtain ⟨bM, hbM⟩ : ∃ b, b = decide (Mny n) := ⟨_, rfl⟩
  have HMo : Hid (∀ w', Calls Tryd.prog 12 #[.int .i64 n] w' (fun e w'' => e = .returned (.bool bM) ∧ w'' = w')) := aside (fun w' => by rw [hbM]; exact money_any n w')
  have HbM := aside hbM
  clear hbM
  have HLf : Hid (∀ w', RoundsAt w' → Calls Tryd.prog 14 #[.agg (rowY nm), .int .i64 n] w' (fun e w'' => e = .returned (.tuple #[tV L1, errA q1]) ∧ Below w'.heap.size w' w'')) := aside (fun w' hg' => by have h := leaf_any nm n hnm w' hg'; rw [hL] at h; exact h)
  have HNd : Hid (∀ w', RoundsAt w' → Calls Tryd.prog 17 #[.agg (totR t.1 t.2), .agg (totR L1.1 L1.2)] w' (fun e w'' => e = .returned (.tuple #[tV L2, errA q2]) ∧ Below w'.heap.size w' w'')) := aside (fun w' hg' => by have h := node_any t L1 ht HD1.out w' hg'; rw [hN] at h; exact h)
  have HVN : Hid (∀ w', Calls Tryd.prog 16 #[.agg (totR t.1 t.2), .agg (totR L1.1 L1.2)] w' (fun e w'' => e = .returned (.tuple #[tV L2, .int .i64 q2]) ∧ Below w'.heap.size w' w'')) := aside (fun w' => by have h := rnode_any t L1 ht HD1.out w'; rw [hN] at h; exact h)
  have HRt : Hid (∀ w', TSl w' w'.heap.size A m ts → RoundsAt w' → Calls Tryd.prog 10 #[.slice A m c] w' (fun e w'' => e = .returned (.tuple #[tV L3, errA q3]) ∧ Below w'.heap.size w' w'')) := aside (fun w' t1 hg' => by have h := Root_any ts hts A m c w' hmc t1 hg'; rw [hR] at h; exact h)
  have HPa : Hid (∀ w', TSl w' w'.heap.size A m ts → RoundsAt w' → Calls Tryd.prog 11 #[.slice A m c, .int .i64 i] w' (fun e w'' => (∃ G k cg, e = .returned (.tuple #[.slice G k cg, errA q4]) ∧ TSl w'' w''.heap.size G k L4) ∧ Below w'.heap.size w' w'')) := aside (fun w' t1 hg' => by rw [hq4, hL4]; exact path_all ts hts i A m c w' hmc t1 hg')
  have HFo : Hid (∀ w', TSl w' w'.heap.size B l path → RoundsAt w' → Calls Tryd.prog 8 #[.agg (totR t.1 t.2), .int .i64 i, .int .i64 many, .slice B l d] w' (fun e w'' => e = .returned (.tuple #[tV L5, errA q5]) ∧ Below w'.heap.size w' w'')) := aside (fun w' t1 hg' => by have h := fold_any t ht i many path hpath B l d w' t1 hg'; rw [hF] at h; exact h)
  have HErr : Hid (∀ (q : Int) (w' : World), ErrVar w' → Calls Tryd.prog 15 #[errA q, .int .i64 q] w' (fun e w'' => e = .returned (.bool true) ∧ Below w'.heap.size w' w'')) := aside (fun q w' he => by
    refine (error_any q q w' he).mono ?_
    rintro e w'' ⟨rfl, hb⟩
    exact ⟨by simp, hb⟩)
  have HLp : Hid (∀ x ∈ L4, Dig x.2) := aside (by
    rw [hL4]
    unfold pathL
    split
    · exact fun x hx => pathT_dig 257 i.toNat ts hts x (List.mem_reverse.1 hx)
    · exact fun x hx => by cases hx)
  have HLl : Hid (L4.length ≤ 300) := aside (by
    rw [hL4]
    unfold pathL
    split
    · rw [List.length_reverse]
      exact Nat.le_trans (pathT_len9 _ _ _) (by decide)
    · exact Nat.zero_le _)
  have HVP : Hid (q4 = 0 → ∀ w', TSl w' w'.heap.size A m ts → Calls Tryd.prog 19 #[.slice A m c, .int .i64 i] w' (fun e w'' => (∃ G k cg, e = .returned (.slice G k cg) ∧ TSl w'' w''.heap.size G k L4) ∧ Below w'.heap.size w' w'')) := aside (by
    intro h0 w' t1
    rw [hq4] at h0
    have hE := h0
    unfold pathE at h0
    by_cases h3 : (rootR ts).2 = 0
    · rw [if_neg (by simp [h3])] at h0
      by_cases hr : i < 0 ∨ (ts.length : Int) ≤ i
      · rw [if_pos hr] at h0
        exact absurd h0 (by decide)
      · obtain ⟨k, rfl⟩ : ∃ k : Nat, i = k := ⟨i.toNat, by omega⟩
        refine (rpath_any 256 ts k (rootR_err h3) (by omega) (rootR_err h3) (by omega) hts A m c w' hmc t1).mono ?_
        rintro e w'' ⟨v, rfl, hov, hb⟩
        obtain ⟨G, cg, rfl, -, -⟩ := own_slice hov
        refine ⟨⟨G, _, cg, rfl, ?_⟩, hb⟩
        rw [hL4]
        unfold pathL
        rw [if_pos hE, Int.toNat_natCast]
        exact Sl.own hov
    · rw [if_pos h3] at h0
      exact absurd h0 h3)
  have HL4 : Hid (q4 ≠ 0 → L4 = []) := aside (fun h => by rw [hL4]; unfold pathL; rw [← hq4, if_neg h])
  have HQ4 : Hid (q4 = if q3 ≠ 0 then q3 else if i < 0 ∨ (m : Int) ≤ i then 2 else 0) := aside (by rw [hq4]; unfold pathE; rw [hR, hml])
  have HVR : Hid (m ≤ 256 → ∀ w', TSl w' w'.heap.size A m ts → Calls Tryd.prog 18 #[.slice A m c] w' (fun e w'' => e = .returned (.tuple #[tV L3, .int .i64 q3]) ∧ Below w'.heap.size w' w'')) := aside (by
    intro hm w' t1
    have h := rroot_any 257 ts (by omega) (by omega) hts A m c w' hmc t1
    have hR' := hR
    unfold rootR at hR'
    rw [if_neg (by omega)] at hR'
    rw [hR'] at h
    exact h)
  have HR4 : Hid (256 < m → noTot = L3 ∧ (4 : Int) = q3) := aside (by
    intro hm
    have hR' := hR
    unfold rootR at hR'
    rw [if_pos (by omega)] at hR'
    exact Prod.mk.inj hR')
  have HL := aside hL
  have HR := aside hR
  have HF := aside hF
  have HNm := aside hnm
  have HTd := aside ht
  have HTs := aside hts
  have HPt := aside hpath
  have HS1 := aside h1
  have HS2 := aside h2
  have HG := aside hg
  have HEv := aside hev
  have HDi := aside (digInfo hnm.1)
  have HZd : Hid (Dig noTot.2) := aside zeroD_dig
  have Hml := aside hml
  have Hll := aside hll
  have heq1 : ∀ W, (Op.equalIn 10000 25 (.agg (totR L1.1 L1.2)) (.agg (totR L1.1 L1.2))).run Tryd.prog W = .ok true W := fun W => tot_eq (s := L1) HD1.out.1 W
  have heq2 : ∀ W, (Op.equalIn 10000 25 (.agg (totR L2.1 L2.2)) (.agg (totR L2.1 L2.2))).run Tryd.prog W = .ok true W := fun W => tot_eq (s := L2) HD2.out.1 W
  have heq3 : ∀ W, (Op.equalIn 10000 25 (.agg (totR L3.1 L3.2)) (.agg (totR L3.1 L3.2))).run Tryd.prog W = .ok true W := fun W => tot_eq (s := L3) HD3.out.1 W
  have heq5 : ∀ W, (Op.equalIn 10000 25 (.agg (totR L5.1 L5.2)) (.agg (totR L5.1 L5.2))).run Tryd.prog W = .ok true W := fun W => tot_eq (s := L5) HD5.out.1 W
  clear hq4 hL4 hL hN hR hF hnm ht hts hpath h1 h2 hg hev hml hll
  go_enter Tryd.func6, Tryd.ntmps6
  go_upto_region 1 with fail
  change Code.wp _ _ _ _ ((w.alloc (.cells (rowY nm) 23)).alloc (.cells (totR t.1 t.2) 25))
  obtain ⟨N, hNn⟩ : ∃ N, N = w.heap.size := ⟨_, rfl⟩
  have HT : Hid (Tl w N nm [(N + 1, t)] ((w.alloc (.cells (rowY nm) 23)).alloc (.cells (totR t.1 t.2) 25))) := aside (by
    refine ⟨((Below.refl _ _).alloc (Nat.le_refl _) _).alloc (by simp) _, ?_, by omega, ?_, by simp⟩
    · rw [hNn]; exact (heap_alloc_old _ _ (by simp)).trans (heap_alloc_new _ _)
    · intro e he
      obtain rfl := List.mem_singleton.1 he
      refine ⟨?_, by show w.heap.size ≤ N + 1; omega, by show N + 1 ≠ N; omega⟩
      have h := TotAt.new (w.alloc (.cells (rowY nm) 23)) t.1 t.2
      rw [show (w.alloc (.cells (rowY nm) 23)).heap.size = w.heap.size + 1 by simp] at h
      rw [hNn]; exact h)
  generalize ((w.alloc (.cells (rowY nm) 23)).alloc (.cells (totR t.1 t.2) 25)) = w1 at HT ⊢
  simp only [← hNn] at ⊢
  clear hNn
  go_upto_region 3 with (first
    | (go_at_call 7; refine (audited_any w1 (HG.out.below HT.out.below)).mono ?_; rintro e w2 ⟨rfl, hb⟩; have HT' := aside (HT.out.step hb); clear hb)
    | fail)
  clear HT
  go_upto_region 4 with fail
  have HT : Hid (Tl w N nm [(w2.heap.size, noTot), (N + 1, t)] (w2.alloc (.cells (totR 0 zeroD) 25))) := aside (HT'.out.newz)
  change Code.wp _ _ _ _ (w2.alloc (.cells (totR 0 zeroD) 25))
  clear HT'
  obtain ⟨W, hW⟩ : ∃ W, W = w2.heap.size := ⟨_, rfl⟩
  rw [← hW] at HT ⊢
  generalize w2.alloc (.cells (totR 0 zeroD) 25) = w3 at HT ⊢
  clear hW
  go_upto_if 27 with (first
    | (go_at_call 12; refine (HMo.out _).mono ?_; rintro e w' ⟨rfl, hw'⟩; rw [hw']; clear hw' w')
    | fail)
  go_cut [16] (fun s16 wx => s16 = .int .i64 q1 ∧ Hid (Tl w N nm [(W, L1), (N + 1, t)] wx))
  case first =>
    as_aux_lemma =>
    have hL := HL.out
    unfold leafR at hL
    have hbm := HbM.out
    clear HbM HMo
    cases bM
    rotate_left
    · have hn : Mny n := of_decide_eq_true hbm.symm
      rw [if_pos hn] at hL
      clear hbm
      obtain ⟨k, rfl⟩ : ∃ k : Nat, n = k := ⟨n.toNat, by have := hn.1; omega⟩
      rw [Int.toNat_natCast] at hL
      obtain ⟨e1, e2⟩ := Prod.mk.inj hL
      have HVL : Hid (∀ w', Calls Tryd.prog 13 #[.agg (rowY nm), .int .i64 (k : Int)] w' (fun e w'' => e = .returned (.agg (totR L1.1 L1.2)) ∧ Below w'.heap.size w' w'')) := aside (fun w' => by rw [← e1]; exact rleaf_any nm k HNm.out (by have := hn.2; omega) w')
      have e2' : q1 = 0 := e2.symm
      subst e2'
      clear hL e1 e2 hn
      go_wp2_with (first
        | (refine wpList_load_row rfl 23 (.tmp 7) rfl N rfl 23 (rowY nm) (0, 0) _ (HT.out.dg) Tryd.underlying23 rfl HDi.out ?_)
        | (go_at_call 13; refine (HVL.out _).mono ?_; rintro e w4 ⟨rfl, hb⟩; have HT' := aside (HT.out.step hb); clear hb)
        | (refine wpList_store_row rfl 25 (.tmp 17) (.tmp 30) rfl W (totR L1.1 L1.2) rfl rfl 25 (totR noTot.1 noTot.2) (HT'.out.at_ (W, noTot) (by simp)).1 (totInfo HD1.out.1) (tot_same HZd.out.1 HD1.out.1) (totR_one _ _) ?_)
        | fail)
      go_meet
      exact ⟨rfl, aside (Tl.set (L1 := []) (L2 := [(N + 1, t)]) HT'.out L1)⟩
    · have hn : ¬ Mny n := of_decide_eq_false hbm.symm
      rw [if_neg hn] at hL
      clear hbm
      obtain ⟨e1, e2⟩ := Prod.mk.inj hL
      subst e1 e2
      clear hL hn
      go_wp2_with fail
      go_meet
      exact ⟨rfl, HT⟩
  case rest =>
    as_aux_lemma =>
    clear HT HL HbM HMo HNm
    obtain ⟨rfl, HT⟩ := hcut
    go_upto_region 8 with (first
      | (refine wpList_load_row rfl 23 (.tmp 7) rfl N rfl 23 (rowY nm) (0, 0) _ (HT.out.dg) Tryd.underlying23 rfl HDi.out ?_)
      | (go_at_call 14; refine (HLf.out wc (HG.out.below HT.out.below)).mono ?_; rintro e w4 ⟨rfl, hb⟩; have HT' := aside (HT.out.step hb); have R4 := TotAt.new w4 0 zeroD; clear hb)
      | (refine wpList_store_row rfl 25 (.tmp 18) (.tmp 35) rfl w4.heap.size (totR L1.1 L1.2) rfl rfl 25 (totR noTot.1 noTot.2) R4 (totInfo HD1.out.1) (tot_same rfl HD1.out.1) (totR_one _ _) ?_)
      | fail)
    have HT2 : Hid (Tl w N nm [(w4.heap.size, L1), (W, L1), (N + 1, t)] ((w4.alloc (.cells (totR 0 zeroD) 25)).setRow w4.heap.size (totR L1.1 L1.2))) := aside (HT'.out.new L1)
    change Code.wp _ _ _ _ ((w4.alloc (.cells (totR 0 zeroD) 25)).setRow w4.heap.size (totR L1.1 L1.2))
    clear HT HT' R4 HLf
    obtain ⟨G, hG⟩ : ∃ G, G = w4.heap.size := ⟨_, rfl⟩
    rw [← hG] at HT2 ⊢
    generalize (w4.alloc (.cells (totR 0 zeroD) 25)).setRow G (totR L1.1 L1.2) = w5 at HT2 ⊢
    clear hG
    have HT := HT2
    clear HT2
    go_upto_region 11 with (first
      | (go_at_call 15; refine (HErr.out q1 _ (HEv.out.below (errVar_lt HEv.out) HT.out.below)).mono ?_; rintro e w6 ⟨rfl, hb⟩; have HT' := aside (HT.out.step hb); clear hb)
      | (refine wpList_step fun K hK => ?_; rw [if_pos (by rfl)]; refine wp_load_row 25 (.tmp 18) rfl G rfl 25 (totR L1.1 L1.2) (0, 0) _ (HT'.out.at_ (G, L1) (by simp)).1 Tryd.underlying25 rfl (totInfo HD1.out.1) (hK _ _ ?_); clear hK K)
      | (refine wpList_step fun K hK => ?_; rw [if_pos (by rfl)]; refine wp_load_row 25 (.tmp 17) rfl W rfl 25 (totR L1.1 L1.2) (0, 0) _ (HT'.out.at_ (W, L1) (by simp)).1 Tryd.underlying25 rfl (totInfo HD1.out.1) (hK _ _ ?_); clear hK K)
      | fail)
    clear HT heq1
    have HT := HT'
    clear HT'
    go_upto_region 12 with (first
      | (refine wpList_load_row rfl 25 (.tmp 11) rfl (N + 1) rfl 25 (totR t.1 t.2) (0, 0) _ (HT.out.at_ (N + 1, t) (by simp)).1 Tryd.underlying25 rfl (totInfo HTd.out.1) ?_)
      | (refine wpList_load_row rfl 25 (.tmp 18) rfl G rfl 25 (totR L1.1 L1.2) (0, 0) _ (HT.out.at_ (G, L1) (by simp)).1 Tryd.underlying25 rfl (totInfo HD1.out.1) ?_)
      | (go_at_call 16; refine (HVN.out w6).mono ?_; rintro e w7 ⟨rfl, hb⟩; have HT' := aside (HT.out.step hb); clear hb)
      | (refine wpList_store_row rfl 25 (.tmp 17) (.tmp 55) rfl W (totR L2.1 L2.2) rfl rfl 25 (totR L1.1 L1.2) (HT'.out.at_ (W, L1) (by simp)).1 (totInfo HD2.out.1) (tot_same HD1.out.1 HD2.out.1) (totR_one _ _) ?_)
      | fail)
    have HT2 : Hid (Tl w N nm [(G, L1), (W, L2), (N + 1, t)] (w7.setRow W (totR L2.1 L2.2))) := aside (Tl.set (L1 := [(G, L1)]) (L2 := [(N + 1, t)]) HT'.out L2)
    change Code.wp _ _ _ _ (w7.setRow W (totR L2.1 L2.2))
    clear HT HT'
    generalize w7.setRow W (totR L2.1 L2.2) = w8 at HT2 ⊢
    have HT := HT2
    clear HT2
    go_upto_region 13 with (first
      | (refine wpList_load_row rfl 25 (.tmp 11) rfl (N + 1) rfl 25 (totR t.1 t.2) (0, 0) _ (HT.out.at_ (N + 1, t) (by simp)).1 Tryd.underlying25 rfl (totInfo HTd.out.1) ?_)
      | (refine wpList_load_row rfl 25 (.tmp 18) rfl G rfl 25 (totR L1.1 L1.2) (0, 0) _ (HT.out.at_ (G, L1) (by simp)).1 Tryd.underlying25 rfl (totInfo HD1.out.1) ?_)
      | (go_at_call 17; refine (HNd.out w8 (HG.out.below HT.out.below)).mono ?_; rintro e w9 ⟨rfl, hb⟩; have HT' := aside (HT.out.step hb); have R9 := TotAt.new w9 0 zeroD; clear hb)
      | (refine wpList_store_row rfl 25 (.tmp 21) (.tmp 61) rfl w9.heap.size (totR L2.1 L2.2) rfl rfl 25 (totR noTot.1 noTot.2) R9 (totInfo HD2.out.1) (tot_same rfl HD2.out.1) (totR_one _ _) ?_)
      | fail)
    have HT2 : Hid (Tl w N nm [(w9.heap.size, L2), (G, L1), (W, L2), (N + 1, t)] ((w9.alloc (.cells (totR 0 zeroD) 25)).setRow w9.heap.size (totR L2.1 L2.2))) := aside (HT'.out.new L2)
    change Code.wp _ _ _ _ ((w9.alloc (.cells (totR 0 zeroD) 25)).setRow w9.heap.size (totR L2.1 L2.2))
    clear HT HT' R9 HNd HVN
    obtain ⟨X, hX⟩ : ∃ X, X = w9.heap.size := ⟨_, rfl⟩
    rw [← hX] at HT2 ⊢
    generalize (w9.alloc (.cells (totR 0 zeroD) 25)).setRow X (totR L2.1 L2.2) = w10 at HT2 ⊢
    clear hX
    have HT := HT2
    clear HT2
    go_upto_region 16 with (first
      | (go_at_call 15; refine (HErr.out q2 _ (HEv.out.below (errVar_lt HEv.out) HT.out.below)).mono ?_; rintro e w11 ⟨rfl, hb⟩; have HT' := aside (HT.out.step hb); clear hb)
      | (refine wpList_step fun K hK => ?_; rw [if_pos (by rfl)]; refine wp_load_row 25 (.tmp 21) rfl X rfl 25 (totR L2.1 L2.2) (0, 0) _ (HT'.out.at_ (X, L2) (by simp)).1 Tryd.underlying25 rfl (totInfo HD2.out.1) (hK _ _ ?_); clear hK K)
      | (refine wpList_step fun K hK => ?_; rw [if_pos (by rfl)]; refine wp_load_row 25 (.tmp 17) rfl W rfl 25 (totR L2.1 L2.2) (0, 0) _ (HT'.out.at_ (W, L2) (by simp)).1 Tryd.underlying25 rfl (totInfo HD2.out.1) (hK _ _ ?_); clear hK K)
      | fail)
    clear HT heq2
    have HT := HT'
    clear HT'
    go_upto_region 17 with (first
      | (refine wpList_totz rfl rfl ?_)
      | (refine wpList_store_row rfl 25 (.tmp 17) (.tmp 73) rfl W (totR 0 zeroD) rfl rfl 25 (totR L2.1 L2.2) (HT.out.at_ (W, L2) (by simp)).1 (totInfo rfl) (tot_same HD2.out.1 rfl) (totR_one _ _) ?_)
      | fail)
    have HT2 : Hid (Tl w N nm [(X, L2), (G, L1), (W, noTot), (N + 1, t)] (w11.setRow W (totR 0 zeroD))) := aside (Tl.set (L1 := [(X, L2), (G, L1)]) (L2 := [(N + 1, t)]) HT.out noTot)
    change Code.wp _ _ _ _ (w11.setRow W (totR 0 zeroD))
    clear HT
    generalize w11.setRow W (totR 0 zeroD) = w12 at HT2 ⊢
    have HT := HT2
    clear HT2
    go_upto_if 76 with fail
    go_cut [16] (fun s16 wx => s16 = .int .i64 q3 ∧ Hid (Tl w N nm [(X, L2), (G, L1), (W, L3), (N + 1, t)] wx))
    case first =>
      as_aux_lemma =>
      by_cases hm : m ≤ 256
      · have lt1 : (m : Int) ≤ 256 := by omega
        have HC := aside (HVR.out hm)
        clear HVR HR4 hm
        go_wp2_with (first
          | (go_at_call 18; refine (HC.out w12 ((Sl.below HS1.out HT.out.below).more HT.out.below.size)).mono ?_; rintro e w13 ⟨rfl, hb⟩; have HT' := aside (HT.out.step hb); clear hb)
          | (refine wpList_store_row rfl 25 (.tmp 17) (.tmp 80) rfl W (totR L3.1 L3.2) rfl rfl 25 (totR noTot.1 noTot.2) (HT'.out.at_ (W, noTot) (by simp)).1 (totInfo HD3.out.1) (tot_same HZd.out.1 HD3.out.1) (totR_one _ _) ?_)
          | fail)
        go_meet
        exact ⟨rfl, aside (Tl.set (L1 := [(X, L2), (G, L1)]) (L2 := [(N + 1, t)]) HT'.out L3)⟩
      · have lt1 : 256 < (m : Int) := by omega
        obtain ⟨e1, e2⟩ := HR4.out (by omega)
        subst e1 e2
        clear HVR HR4 hm
        go_wp2_with fail
        go_meet
        exact ⟨rfl, HT⟩
    case rest =>
      as_aux_lemma =>
      clear HT HVR HR4
      obtain ⟨rfl, HT⟩ := hcut
      go_upto_region 21 with (first
        | (go_at_call 10; refine (HRt.out _ ((Sl.below HS1.out HT.out.below).more HT.out.below.size) (HG.out.below HT.out.below)).mono ?_; rintro e w14 ⟨rfl, hb⟩; have HT' := aside (HT.out.step hb); clear hb)
        | (refine wpList_store_row rfl 25 (.tmp 21) (.tmp 85) rfl X (totR L3.1 L3.2) rfl rfl 25 (totR L2.1 L2.2) (HT'.out.at_ (X, L2) (by simp)).1 (totInfo HD3.out.1) (tot_same HD2.out.1 HD3.out.1) (totR_one _ _) ?_)
        | fail)
      have HT2 : Hid (Tl w N nm [(X, L3), (G, L1), (W, L3), (N + 1, t)] (w14.setRow X (totR L3.1 L3.2))) := aside (Tl.set (L1 := []) (L2 := [(G, L1), (W, L3), (N + 1, t)]) HT'.out L3)
      change Code.wp _ _ _ _ (w14.setRow X (totR L3.1 L3.2))
      clear HT HT' HRt
      generalize w14.setRow X (totR L3.1 L3.2) = w15 at HT2 ⊢
      have HT := HT2
      clear HT2
      go_upto_region 24 with (first
        | (go_at_call 15; refine (HErr.out q3 _ (HEv.out.below (errVar_lt HEv.out) HT.out.below)).mono ?_; rintro e w16 ⟨rfl, hb⟩; have HT' := aside (HT.out.step hb); clear hb)
        | (refine wpList_step fun K hK => ?_; rw [if_pos (by rfl)]; refine wp_load_row 25 (.tmp 21) rfl X rfl 25 (totR L3.1 L3.2) (0, 0) _ (HT'.out.at_ (X, L3) (by simp)).1 Tryd.underlying25 rfl (totInfo HD3.out.1) (hK _ _ ?_); clear hK K)
        | (refine wpList_step fun K hK => ?_; rw [if_pos (by rfl)]; refine wp_load_row 25 (.tmp 17) rfl W rfl 25 (totR L3.1 L3.2) (0, 0) _ (HT'.out.at_ (W, L3) (by simp)).1 Tryd.underlying25 rfl (totInfo HD3.out.1) (hK _ _ ?_); clear hK K)
        | fail)
      clear HT heq3
      have HT := HT'
      clear HT'
      obtain ⟨bR, hbR⟩ : ∃ b, b = decide (q3 = 0 ∧ (i < 0 ∨ (m : Int) ≤ i)) := ⟨_, rfl⟩
      have HBR := aside hbR
      clear hbR
      go_cut [108] (fun s108 wx => s108 = .bool bR ∧ wx = w16)
      case first =>
        as_aux_lemma =>
        have hbR := HBR.out
        clear HBR HQ4
        by_cases hq3 : q3 = 0
        · have f1 : (q3 == 0) = true := by simpa using hq3
          by_cases hi0 : i < 0
          · rw [decide_eq_true ⟨hq3, .inl hi0⟩] at hbR
            subst hbR
            clear hq3
            go_wp2_with fail
            go_meet
            exact ⟨rfl, rfl⟩
          · have f2 : (i < 0) = False := by simp only [eq_iff_iff, iff_false]; exact hi0
            by_cases hm : (m : Int) ≤ i
            · have f3 : ((m : Int) ≤ i) = True := by simp only [eq_iff_iff, iff_true]; exact hm
              rw [decide_eq_true ⟨hq3, .inr hm⟩] at hbR
              subst hbR
              clear hq3 hi0 hm
              go_wp2_with fail
              go_meet
              exact ⟨rfl, rfl⟩
            · have f3 : ((m : Int) ≤ i) = False := by simp only [eq_iff_iff, iff_false]; exact hm
              rw [decide_eq_false (fun h => h.2.elim hi0 hm)] at hbR
              subst hbR
              clear hq3 hi0 hm
              go_wp2_with fail
              go_meet
              exact ⟨rfl, rfl⟩
        · have f1 : (q3 == 0) = false := by simpa using hq3
          rw [decide_eq_false (fun h => hq3 h.1)] at hbR
          subst hbR
          clear hq3
          go_wp2_with fail
          go_meet
          exact ⟨rfl, rfl⟩
      case rest =>
        as_aux_lemma =>
        obtain ⟨rfl, rfl⟩ := hcut
        go_upto_if 108 with fail
        obtain ⟨w17, hw17⟩ : ∃ w17, w17 = wc := ⟨_, rfl⟩
        subst hw17
        go_cut [16] (fun s16 wx => s16 = .int .i64 q4 ∧ wx = w17)
        case first =>
          as_aux_lemma =>
          have hbR := HBR.out
          have hQ := HQ4.out
          clear HBR HQ4
          by_cases hq3 : q3 = 0
          · rw [if_neg (by simp [hq3])] at hQ
            by_cases hr : i < 0 ∨ (m : Int) ≤ i
            · rw [decide_eq_true ⟨hq3, hr⟩] at hbR
              rw [if_pos hr] at hQ
              subst hbR hQ
              clear hq3 hr
              go_wp2_with fail
              go_meet
              exact ⟨rfl, rfl⟩
            · rw [decide_eq_false (fun h => hr h.2)] at hbR
              rw [if_neg hr] at hQ
              subst hbR hQ hq3
              clear hr
              go_wp2_with fail
              go_meet
              exact ⟨rfl, rfl⟩
          · rw [if_pos hq3] at hQ
            rw [decide_eq_false (fun h => hq3 h.1)] at hbR
            subst hbR hQ
            clear hq3
            go_wp2_with fail
            go_meet
            exact ⟨rfl, rfl⟩
        case rest =>
          as_aux_lemma =>
          obtain ⟨rfl, rfl⟩ := hcut
          clear HBR HQ4
          go_upto_if 110 with fail
          go_cut [22] (fun s22 wx => ∃ G2 k2 c2, s22 = .slice G2 k2 c2 ∧ Hid (TSl wx wx.heap.size G2 k2 L4) ∧ Hid (Tl w N nm [(X, L3), (G, L1), (W, L3), (N + 1, t)] wx))
          case first =>
            as_aux_lemma =>
            by_cases h0 : q4 = 0
            · have HC := aside (HVP.out h0)
              have f1 : (q4 == 0) = true := by simpa using h0
              clear HVP HL4 h0
              go_wp2_with (first
                | (go_at_call 19; refine (HC.out _ ((Sl.below HS1.out HT.out.below).more HT.out.below.size)).mono ?_; rintro e w18 ⟨⟨G2, k2, c2, rfl, hs⟩, hb⟩; have HT' := aside (HT.out.step hb); have HS := aside hs; clear hb hs)
                | fail)
              go_meet
              exact ⟨G2, k2, c2, rfl, HS, HT'⟩
            · have f1 : (q4 == 0) = false := by simpa using h0
              have HE := aside (HL4.out h0)
              clear HVP HL4 h0
              go_wp2_with fail
              go_meet
              exact ⟨none, 0, 0, rfl, aside (by rw [HE.out]; exact Sl.nil_), HT⟩
          case rest =>
            as_aux_lemma =>
            clear HT HVP HL4
            obtain ⟨G2, k2, c2, rfl, HS2b, HT⟩ := hcut
            obtain rfl : L4.length = k2 := FSl.len totE_len (by decide) HS2b.out
            go_upto_region 30 with (first
              | (go_at_call 11; refine (HPa.out _ ((Sl.below HS1.out HT.out.below).more HT.out.below.size) (HG.out.below HT.out.below)).mono ?_; rintro e w19 ⟨⟨G3, k3, c3, rfl, hs⟩, hb⟩; obtain rfl : L4.length = k3 := FSl.len totE_len (by decide) hs; have HT' := aside (HT.out.step hb); have HS3 := aside hs; have HS2c := aside (FSl.more (FSl.below HS2b.out hb) hb.size); clear hb hs)
              | fail)
            clear HT HS2b HPa
            have HT := HT'
            clear HT'
            go_upto_region 33 with (first
              | (go_at_call 15; refine (HErr.out q4 _ (HEv.out.below (errVar_lt HEv.out) HT.out.below)).mono ?_; rintro e w20 ⟨rfl, hb⟩; have HT' := aside (HT.out.step hb); have HS2d := aside (FSl.more (FSl.below HS2c.out hb) hb.size); have HS3d := aside (FSl.more (FSl.below HS3.out hb) hb.size); clear hb)
              | (go_at_call 20; refine (totals_same L4 HLp.out G3 G2 L4.length c3 c2 w20 HLl.out HS3d.out HS2d.out).mono ?_; rintro e w21 ⟨rfl, hb⟩; have HT'' := aside (HT'.out.step hb); clear hb)
              | fail)
            clear HT HT' HS2c HS3 HS2d HS3d HLp HLl
            have HT := HT''
            clear HT''
            go_upto_region 34 with (first
              | (refine wpList_totz rfl rfl ?_)
              | (refine wpList_store_row rfl 25 (.tmp 17) (.tmp 131) rfl W (totR 0 zeroD) rfl rfl 25 (totR L3.1 L3.2) (HT.out.at_ (W, L3) (by simp)).1 (totInfo rfl) (tot_same HD3.out.1 rfl) (totR_one _ _) ?_)
              | fail)
            have HT2 : Hid (Tl w N nm [(X, L3), (G, L1), (W, noTot), (N + 1, t)] (w21.setRow W (totR 0 zeroD))) := aside (Tl.set (L1 := [(X, L3), (G, L1)]) (L2 := [(N + 1, t)]) HT.out noTot)
            change Code.wp _ _ _ _ (w21.setRow W (totR 0 zeroD))
            clear HT
            generalize w21.setRow W (totR 0 zeroD) = w22 at HT2 ⊢
            have HT := HT2
            clear HT2
            go_upto_region 35 with fail
            obtain ⟨bF, hbF⟩ : ∃ b, b = decide (many < 1 ∨ 256 < many ∨ i < 0 ∨ many ≤ i) := ⟨_, rfl⟩
            have HBF := aside hbF
            clear hbF
            go_cut [146] (fun s146 wx => s146 = .bool bF ∧ wx = w22)
            case first =>
              as_aux_lemma =>
              have hbF := HBF.out
              clear HBF HF
              by_cases c1 : many < 1
              · rw [decide_eq_true (.inl c1)] at hbF
                subst hbF
                go_wp2_with fail
                go_meet
                exact ⟨rfl, rfl⟩
              · have f1 : (many < 1) = False := by simp only [eq_iff_iff, iff_false]; exact c1
                by_cases c2 : 256 < many
                · have f2 : (256 < many) = True := by simp only [eq_iff_iff, iff_true]; exact c2
                  rw [decide_eq_true (.inr (.inl c2))] at hbF
                  subst hbF
                  clear c1 c2
                  go_wp2_with fail
                  go_meet
                  exact ⟨rfl, rfl⟩
                · have f2 : (256 < many) = False := by simp only [eq_iff_iff, iff_false]; exact c2
                  by_cases c3 : i < 0
                  · have f3 : (i < 0) = True := by simp only [eq_iff_iff, iff_true]; exact c3
                    rw [decide_eq_true (.inr (.inr (.inl c3)))] at hbF
                    subst hbF
                    clear c1 c2 c3
                    go_wp2_with fail
                    go_meet
                    exact ⟨rfl, rfl⟩
                  · have f3 : (i < 0) = False := by simp only [eq_iff_iff, iff_false]; exact c3
                    by_cases c4 : many ≤ i
                    · have f4 : (many ≤ i) = True := by simp only [eq_iff_iff, iff_true]; exact c4
                      rw [decide_eq_true (.inr (.inr (.inr c4)))] at hbF
                      subst hbF
                      clear c1 c2 c3 c4
                      go_wp2_with fail
                      go_meet
                      exact ⟨rfl, rfl⟩
                    · have f4 : (many ≤ i) = False := by simp only [eq_iff_iff, iff_false]; exact c4
                      rw [decide_eq_false (fun h => h.elim c1 (fun h => h.elim c2 (fun h => h.elim c3 c4)))] at hbF
                      subst hbF
                      clear c1 c2 c3 c4
                      go_wp2_with fail
                      go_meet
                      exact ⟨rfl, rfl⟩
            case rest =>
              as_aux_lemma =>
              obtain ⟨rfl, rfl⟩ := hcut
              go_upto_if 146 with fail
              obtain ⟨w23, hw23⟩ : ∃ w23, w23 = wc := ⟨_, rfl⟩
              subst hw23
              go_cut [16] (fun s16 wx => s16 = .int .i64 q5 ∧ Hid (Tl w N nm [(X, L3), (G, L1), (W, L5), (N + 1, t)] wx))
              case first =>
                as_aux_lemma =>
                have hbF := HBF.out
                have hF := HF.out
                clear HBF HF
                unfold foldR at hF
                by_cases hr : many < 1 ∨ 256 < many ∨ i < 0 ∨ many ≤ i
                · rw [decide_eq_true hr] at hbF
                  rw [if_pos hr] at hF
                  obtain ⟨e1, e2⟩ := Prod.mk.inj hF
                  subst hbF e1 e2
                  clear hF hr
                  go_wp2_with fail
                  go_meet
                  exact ⟨rfl, HT⟩
                · rw [decide_eq_false hr] at hbF
                  rw [if_neg hr] at hF
                  subst hbF
                  obtain ⟨i2, rfl⟩ : ∃ k : Nat, i = k := ⟨i.toNat, by omega⟩
                  obtain ⟨n2, rfl⟩ : ∃ k : Nat, many = k := ⟨many.toNat, by omega⟩
                  rw [Int.toNat_natCast, Int.toNat_natCast] at hF
                  have HLong := aside (fun w => long_any n2 i2 n2 (Nat.le_refl _) (by omega) (by omega) (by omega) w)
                  have hFA := aside (fun w' t1 => folded_any n2 t HTd.out i2 n2 path HPt.out B l d w' (Nat.le_refl _) (by omega) (by omega) (by omega))
                  by_cases hlen : path.length = (way i2 n2).length
                  · rw [if_neg (by simpa using hlen)] at hF
                    have hz : fold0 t i2 n2 path = (L5, q5) := by
                      unfold fold0
                      by_cases hM : Mny t.1
                      · rw [if_pos hM]
                        rw [if_neg (by simpa using hM)] at hF
                        exact hF
                      · rw [if_neg hM]
                        rw [if_pos hM] at hF
                        exact hF
                    have HC : Hid (∀ w', TSl w' w'.heap.size B l path → Calls Tryd.prog 22 #[.agg (totR t.1 t.2), .int .i64 (i2 : Int), .int .i64 (n2 : Int), .slice B l d] w' (fun e w'' => e = .returned (.tuple #[tV L5, .int .i64 q5]) ∧ Below w'.heap.size w' w'')) := aside (fun w' t1 => by
                      have h := folded_any n2 t HTd.out i2 n2 path HPt.out B l d w' (Nat.le_refl _) (by omega) (by omega) (by omega) hlen hld t1
                      rw [hz] at h
                      exact h)
                    have hlw : (l : Int) = ((way i2 n2).length : Nat) := by rw [← hlen, Hll.out]
                    have f1 : ((l : Int) != (((way i2 n2).length : Nat) : Int)) = false := by rw [hlw]; simp
                    generalize (way i2 n2).length = wl at HLong f1
                    clear hF hr hlen hz hFA hlw
                    go_wp2_with (first
                      | (go_at_call 21; refine (HLong.out _).mono ?_; rintro e w' ⟨rfl, hw'⟩; rw [hw']; clear hw' w')
                      | (refine wpList_load_row rfl 25 (.tmp 11) rfl (N + 1) rfl 25 (totR t.1 t.2) (0, 0) _ (HT.out.at_ (N + 1, t) (by simp)).1 Tryd.underlying25 rfl (totInfo HTd.out.1) ?_)
                      | (go_at_call 22; refine (HC.out _ ((Sl.below HS2.out HT.out.below).more HT.out.below.size)).mono ?_; rintro e w24 ⟨rfl, hb⟩; have HT' := aside (HT.out.step hb); clear hb)
                      | (refine wpList_store_row rfl 25 (.tmp 17) (.tmp 159) rfl W (totR L5.1 L5.2) rfl rfl 25 (totR noTot.1 noTot.2) (HT'.out.at_ (W, noTot) (by simp)).1 (totInfo HD5.out.1) (tot_same HZd.out.1 HD5.out.1) (totR_one _ _) ?_)
                      | fail)
                    go_meet
                    exact ⟨rfl, aside (Tl.set (L1 := [(X, L3), (G, L1)]) (L2 := [(N + 1, t)]) HT'.out L5)⟩
                  · rw [if_pos hlen] at hF
                    obtain ⟨e1, e2⟩ := Prod.mk.inj hF
                    subst e1 e2
                    have f1 : ((l : Int) != (((way i2 n2).length : Nat) : Int)) = true := by
                      rw [bne_iff_ne]
                      have := Hll.out
                      omega
                    generalize (way i2 n2).length = wl at HLong f1
                    clear hF hr hlen hFA
                    go_wp2_with (first
                      | (go_at_call 21; refine (HLong.out _).mono ?_; rintro e w' ⟨rfl, hw'⟩; rw [hw']; clear hw' w')
                      | fail)
                    go_meet
                    exact ⟨rfl, HT⟩
              case rest =>
                as_aux_lemma =>
                clear HT HBF HF
                obtain ⟨rfl, HT⟩ := hcut
                go_upto_region 41 with (first
                  | (refine wpList_load_row rfl 25 (.tmp 11) rfl (N + 1) rfl 25 (totR t.1 t.2) (0, 0) _ (HT.out.at_ (N + 1, t) (by simp)).1 Tryd.underlying25 rfl (totInfo HTd.out.1) ?_)
                  | (go_at_call 8; refine (HFo.out _ ((Sl.below HS2.out HT.out.below).more HT.out.below.size) (HG.out.below HT.out.below)).mono ?_; rintro e w25 ⟨rfl, hb⟩; have HT' := aside (HT.out.step hb); clear hb)
                  | (refine wpList_store_row rfl 25 (.tmp 21) (.tmp 167) rfl X (totR L5.1 L5.2) rfl rfl 25 (totR L3.1 L3.2) (HT'.out.at_ (X, L3) (by simp)).1 (totInfo HD5.out.1) (tot_same HD3.out.1 HD5.out.1) (totR_one _ _) ?_)
                  | fail)
                have HT2 : Hid (Tl w N nm [(X, L5), (G, L1), (W, L5), (N + 1, t)] (w25.setRow X (totR L5.1 L5.2))) := aside (Tl.set (L1 := []) (L2 := [(G, L1), (W, L5), (N + 1, t)]) HT'.out L5)
                change Code.wp _ _ _ _ (w25.setRow X (totR L5.1 L5.2))
                clear HT HT' HFo
                generalize w25.setRow X (totR L5.1 L5.2) = w26 at HT2 ⊢
                have HT := HT2
                clear HT2
                go_wp2_with (first
                  | (go_at_call 15; refine (HErr.out q5 _ (HEv.out.below (errVar_lt HEv.out) HT.out.below)).mono ?_; rintro e w27 ⟨rfl, hb⟩; have HT' := aside (HT.out.step hb); clear hb)
                  | (refine wpList_step fun K hK => ?_; rw [if_pos (by rfl)]; refine wp_load_row 25 (.tmp 21) rfl X rfl 25 (totR L5.1 L5.2) (0, 0) _ (HT'.out.at_ (X, L5) (by simp)).1 Tryd.underlying25 rfl (totInfo HD5.out.1) (hK _ _ ?_); clear hK K)
                  | (refine wpList_step fun K hK => ?_; rw [if_pos (by rfl)]; refine wp_load_row 25 (.tmp 17) rfl W rfl 25 (totR L5.1 L5.2) (0, 0) _ (HT'.out.at_ (W, L5) (by simp)).1 Tryd.underlying25 rfl (totInfo HD5.out.1) (hK _ _ ?_); clear hK K)
                  | fail)
                go_ret
                exact ⟨rfl, HT'.out.below⟩
end Go.Proofs.YtkpbhbafapdboaaDoor
