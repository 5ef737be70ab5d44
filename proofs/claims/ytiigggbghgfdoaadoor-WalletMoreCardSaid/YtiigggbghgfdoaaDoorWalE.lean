/- wallet.locks: the walk. Conditions: named in each theorem. -/
import Derived.Test.YtiigggbghgfdoaaDoorWalD
namespace Go.Proofs.YtiigggbghgfdoaaDoor
open Go.RowKit Go.ChangeShapes Go.WideShapes Go.ChangeAt

/-- A lock of a wallet's: where it lies, and what. -/
abbrev Lk := Option Addr × List ROp
def lkV (l : Lk) : Value := .slice l.1 2 2
def lkP (l : Lk) : List POp := l.2.map ROp.pl
/-- Locks that lie apart from a row's own block. -/
def Lks (w : World) (v : Value) (ls : List Lk) : Prop := ∀ l ∈ ls, ∀ w' : World, (∀ b, v.ownBlock ≠ some b → b < w.heap.size → w'.heap[b]? = w.heap[b]?) → w.heap.size ≤ w'.heap.size → RSl w' w'.heap.size l.1 2 l.2
theorem Lks.now {w : World} {v : Value} {ls : List Lk} (h : Lks w v ls) : ∀ l ∈ ls, RSl w w.heap.size l.1 2 l.2 := fun l hl => h l hl w (fun _ _ _ => rfl) (Nat.le_refl _)
theorem own_lt {w : World} {base : Nat} {e : TypeId} {sz n : Nat} {v : Value} {xs : List Value} (h : w.ownsRow base e sz v n xs) : ∀ k, v.ownBlock = some k → k < w.heap.size := fun k hk => (h.lt k hk).2
theorem Lks.push {wr w2 w3 : World} {v v' : Value} {ls : List Lk} {A : Option Addr} {rs : List ROp} (h : Lks wr v ls) (hv : ∀ k, v.ownBlock = some k → k < wr.heap.size) (hb : Below wr.heap.size wr w2) (hd : RDep w2 wr.heap.size A 2 rs) (hg : w2.grownBy w3 v.ownBlock) (ho : v'.ownBlock = v.ownBlock ∨ ∃ k, v'.ownBlock = some k ∧ w2.heap.size ≤ k) : Lks w3 v' (ls ++ [(A, rs)]) := by
  intro l hl w' hw' hs'
  have hsz := hg.size
  have hsz2 := hb.size
  rcases List.mem_append.1 hl with hl | hl
  · refine h l hl w' (fun b hne hb' => ?_) (by omega)
    have hne' : v'.ownBlock ≠ some b := by
      rcases ho with ho | ⟨k, ho, hk⟩
      · rw [ho]; exact hne
      · rw [ho]; intro e; injection e with e; omega
    exact (hw' b hne' (by omega)).trans ((hg.block b (by omega) (fun e => hne e.symm)).trans (hb.block b hb'))
  · obtain rfl := List.mem_singleton.1 hl
    refine hd w' (fun b h1 h2 => ?_) (by omega)
    have hne : v.ownBlock ≠ some b := fun e => by have := hv b e; omega
    have hne' : v'.ownBlock ≠ some b := by
      rcases ho with ho | ⟨k, ho, hk⟩
      · rw [ho]; exact hne
      · rw [ho]; intro e; injection e with e; omega
    exact (hw' b hne' (by omega)).trans (hg.block b h2 (fun e => hne e.symm))
theorem infoL : (Tryd.prog.info? 30).map (fun i => (i.zero, i.size, i.bytes)) = some (some (.slice none 0 0), 1, 24) := by kernel_rfl
set_option maxHeartbeats 20000000 in
set_option maxRecDepth 100000 in
theorem locks_any (d : List Nat) (hd : d.length = 32) (hb : ∀ x ∈ d, x < 256) (n : Int) (hn : n ≤ 100) (w : World) (hg : RoundsAt w) :
    Calls Tryd.prog 21 #[digV d, .int .i64 n] w (fun e w' => ∃ (A : Option Addr) (c : Nat) (ls : List Lk), e = .returned (.slice A n.toNat c) ∧ Sl w' w'.heap.size 1 A n.toNat (ls.map lkV) ∧ (∀ l ∈ ls, RSl w' w'.heap.size l.1 2 l.2) ∧ ls.map lkP = (List.range n.toNat).map (lockL d) ∧ Below w.heap.size w w') := by
  have HG := aside hg
  have HDb := aside hb
  have HDl := aside hd
  have B1 : Hid (Below w.heap.size w (w.alloc (.cells (rowY d) 23))) := aside ((Below.refl _ _).alloc (Nat.le_refl _) _)
  have D0 : Hid (BlkY (w.alloc (.cells (rowY d) 23)) w.heap.size 23 d) := aside (BlkY.new w _ _)
  have HS7 := aside (zinfo d hd)
  obtain ⟨N, hN⟩ : ∃ N, N = n.toNat := ⟨_, rfl⟩
  rw [← hN]
  have hmn : min n 100 = n := by omega
  have hN1 : (N : Int) = n ∨ (n ≤ 0 ∧ N = 0) := by omega
  have HN1 := aside hN1
  have HO : Hid ((w.alloc (.cells (rowY d) 23)).ownsRow (w.heap.size + 1) 30 1 (.slice none 0 0) 0 (([] : List Lk).map lkV)) := aside ⟨by simp, .inl ⟨rfl, rfl⟩⟩
  have HL : Hid (Lks (w.alloc (.cells (rowY d) 23)) (.slice none 0 0) []) := aside (fun l hl => by cases hl)
  have hN100 : N ≤ 100 := by omega
  clear hg hb hd hN hN1
  unfold digV
  go_enter Tryd.func21, Tryd.ntmps21
  go_wp2_with fail
  change Code.wp _ _ _ _ (w.alloc (.cells (rowY d) 23))
  have Z1 : Hid (w.heap.size + 1 ≤ (w.alloc (.cells (rowY d) 23)).heap.size) := aside (by simp)
  generalize (w.alloc (.cells (rowY d) 23)) = w1 at B1 D0 HO HL Z1 ⊢
  obtain ⟨B0, hB0⟩ : ∃ B0, B0 = w.heap.size := ⟨_, rfl⟩
  have EB := aside hB0
  simp only [← hB0] at D0 HO Z1 ⊢
  clear hB0
  go_loopw [5, 9] (fun v5 v9 wr => ∃ (i : Nat) (ls : List Lk) (A1 : Option Addr) (c1 : Nat), i ≤ N ∧ v9 = .int .i64 i ∧ v5 = .slice A1 i c1 ∧ B0 + 1 ≤ wr.heap.size ∧ Hid (wr.ownsRow (B0 + 1) 30 1 (.slice A1 i c1) i (ls.map lkV)) ∧ Hid (Lks wr (.slice A1 i c1) ls) ∧ Hid (ls.map lkP = (List.range i).map (lockL d)) ∧ Hid (BlkY wr B0 23 d) ∧ Hid (Below w.heap.size w wr)) (fun _ v9 _ => N - (Go.RowKit.intOf v9).toNat)
  case atStart => exact ⟨0, [], none, 0, Nat.zero_le _, rfl, rfl, Z1.out, HO, HL, aside rfl, D0, B1⟩
  case round =>
    clear HO HL D0 B1 Z1
    obtain ⟨i, ls, A1, c1, hi, rfl, rfl, hz, HO, HL, HP, D0, HB⟩ := hrel
    by_cases hin : i < N
    · have i0 : (i : Int) < n := by have := HN1.out; omega
      have hwz := HB.out.size
      go_wp2_with (first
        | (refine wpList_load_row rfl 23 (.tmp 2) rfl B0 rfl 23 (rowY d) (0, 0) _ D0.out Tryd.underlying23 rfl HS7.out ?_)
        | fail)
      refine (show Calls _ _ #[digV d, _] _ _ from lock_any d HDl.out HDb.out i (by omega) wr (HG.out.below HB.out)).mono ?_
      rintro e w2 ⟨A2, rs, rfl, hdep, hpl, hb2⟩
      have HDep := aside hdep
      have HPl := aside hpl
      have HBr := aside hb2
      have HB2 := aside (HB.out.trans (hb2.mono hwz))
      have HO2 : Hid (w2.ownsRow (B0 + 1) 30 1 (.slice A1 i c1) i (ls.map lkV)) := aside (own_below HO.out hb2)
      have D02 := aside (D0.out.below hb2 D0.out.lt)
      have hz2 := Nat.le_trans hz hb2.size
      clear hdep hpl hb2
      go_wp2_with (first
        | (at_builtin; refine wpList_push rfl (.tmp 12) (.tmp 16) 57 rfl (B0 + 1) _ 1 24 Tryd.underlying57 infoL rfl (by decide) (.slice A1 i c1) i _ rfl rfl rfl rfl HO2.out (by omega) (by unfold maxLen; omega) hz2 ?_; intro A3 c3 w3 hc3 hc3' hown3 hb3 hz3' hg3)
        | fail)
      have HO3 : Hid (w3.ownsRow (B0 + 1) 30 1 (.slice A3 (i + 1) c3) (i + 1) ((ls ++ [(A2, rs)]).map lkV)) := aside (by rw [List.map_append]; exact hown3)
      have HL3 : Hid (Lks w3 (.slice A3 (i + 1) c3) (ls ++ [(A2, rs)])) := aside (HL.out.push (fun k hk => own_lt HO.out k hk) HBr.out HDep.out hg3.1 hg3.2)
      have HP3 : Hid ((ls ++ [(A2, rs)]).map lkP = (List.range (i + 1)).map (lockL d)) := aside (by
        rw [List.map_append, HP.out, List.range_succ, List.map_append]
        show _ ++ [rs.map ROp.pl] = _ ++ [lockL d i]
        rw [HPl.out])
      have HB3 := aside (HB2.out.trans (hb3.mono (by rw [EB.out]; omega)))
      have D03 := aside (D02.out.below hb3 (Nat.lt_succ_self _))
      have hz3 := Nat.le_trans hz2 hb3.size
      clear hown3 hb3 hg3 hz3'
      exact ⟨⟨i + 1, ls ++ [(A2, rs)], A3, c3, by omega, by go_num, rfl, hz3, HO3, HL3, HP3, D03, HB3⟩, by simp [Go.RowKit.intOf]; omega⟩
    · obtain rfl : N = i := by omega
      have i0 : ((N : Int) < n) = False := by have := HN1.out; simp only [eq_iff_iff, iff_false]; omega
      go_wp2
      go_ret
      exact ⟨A1, c1, ls, rfl, Sl.own HO.out, HL.out.now, HP.out, HB.out⟩
end Go.Proofs.YtiigggbghgfdoaaDoor
