/- Which key an out is locked by: the walks. Conditions: named in each theorem. -/
import Derived.Test.YtiigggbghgfdoaaDoorWalE
namespace Go.Proofs.YtiigggbghgfdoaaDoor
open Go.RowKit Go.ChangeShapes Go.WideShapes Go.ChangeAt

/-- The first of some locks that is a lock. -/
def ownF : List (List POp) → Int → List POp → Int
  | [], _, _ => -1
  | l :: r, i, o => if l = o then i else ownF r (i + 1) o
set_option maxRecDepth 100000 in
theorem owns1_any (rs os : List ROp) (V : Bool) (hV : V = true ↔ rs.map ROp.pl = os.map ROp.pl) (A oA : Option Addr) (on oc ob : Nat) (w : World) (h : RSl w w.heap.size A 2 rs) (ho : RSl w w.heap.size oA on os) (hb : w.cell? ⟨ob, 1, none⟩ = some (.slice oA on oc)) :
    Calls Tryd.prog 38 #[.slice A 2 2, .pointer (some ⟨ob, 0, none⟩)] w (fun e w' => e = .returned (.bool V) ∧ Below w.heap.size w w') := by
  have HC := aside (same_any rs os V hV A oA 2 2 on oc (by decide) w h ho)
  clear h ho hV
  go_enter Tryd.func38, Tryd.ntmps38
  go_wp2_with fail
  refine HC.out.mono ?_
  rintro e w3 ⟨rfl, hb3⟩
  have HB3 := aside hb3
  clear hb3
  go_wp2
  go_ret
  exact ⟨rfl, HB3.out⟩
theorem lk_at {ls : List Lk} {k : Nat} (h : k < ls.length) : ls.getD k (none, []) ∈ ls ∧ ls.drop k = ls.getD k (none, []) :: ls.drop (k + 1) := by
  rw [List.getD_eq_getElem?_getD, List.getElem?_eq_getElem h]
  exact ⟨List.getElem_mem h, List.drop_eq_getElem_cons h⟩
set_option maxHeartbeats 20000000 in
set_option maxRecDepth 100000 in
theorem index_any (ls : List Lk) (os : List ROp) (A oA : Option Addr) (N c on oc ob : Nat) (hN : N ≤ 100) (w : World) (h : Sl w w.heap.size 1 A N (ls.map lkV)) (hl : ∀ l ∈ ls, RSl w w.heap.size l.1 2 l.2) (ho : RSl w w.heap.size oA on os) (hb : w.cell? ⟨ob, 1, none⟩ = some (.slice oA on oc)) (hob : ob < w.heap.size) :
    Calls Tryd.prog 37 #[.slice A N c, .func (.func 38) #[] #[.pointer (some ⟨ob, 0, none⟩)]] w (fun e w' => e = .returned (.int .i64 (ownF (ls.map lkP) 0 (os.map ROp.pl))) ∧ Below w.heap.size w w') := by
  have hll : ls.length = N := by have := h.len; simpa using this
  obtain ⟨R, hR⟩ : ∃ R, R = ownF (ls.map lkP) 0 (os.map ROp.pl) := ⟨_, rfl⟩
  rw [← hR]
  have HR : Hid (R = ownF ((ls.drop 0).map lkP) ((0 : Nat) : Int) (os.map ROp.pl)) := aside hR
  have HB := aside (Below.refl w.heap.size w)
  have H := aside h
  have HL := aside hl
  have HO := aside ho
  have HBx := aside hb
  have HLl := aside hll
  clear h hl ho hb hll hR
  go_enter Tryd.func37, Tryd.ntmps37
  go_wp2_with fail
  go_loopw [8] (fun v8 wr => ∃ k : Nat, k ≤ N ∧ v8 = .int .i64 k ∧ Hid (Below w.heap.size w wr) ∧ Hid (R = ownF ((ls.drop k).map lkP) k (os.map ROp.pl))) (fun v8 _ => N - (Go.RowKit.intOf v8).toNat)
  case atStart => exact ⟨0, Nat.zero_le _, rfl, HB, HR⟩
  case round =>
    clear HB HR
    obtain ⟨k, hk, rfl, HB, HR⟩ := hrel
    by_cases hkn : k < N
    · have k0 : (k : Int) < (N : Int) := by omega
      have hwz := HB.out.size
      obtain ⟨hmem, hdr⟩ := lk_at (ls := ls) (k := k) (by have := HLl.out; omega)
      obtain ⟨b, of, hAe, hbl, hc⟩ := (Sl.below H.out HB.out).cells (by omega)
      have hck := hc k (lkV (ls.getD k (none, []))) (by
        rw [List.getElem?_map, List.getD_eq_getElem?_getD, List.getElem?_eq_getElem (by have := HLl.out; omega)]
        rfl)
      have hRl := ((HL.out _ hmem).below HB.out).more hwz
      have hRo := (HO.out.below HB.out).more hwz
      have hbx := (HB.out.cell (p := ⟨ob, 1, none⟩) hob).trans HBx.out
      generalize ls.getD k (none, []) = l at *
      obtain ⟨lA, lr⟩ := l
      unfold lkV at hck
      obtain ⟨W, hW⟩ : ∃ W : Bool, W = decide (lr.map ROp.pl = os.map ROp.pl) := ⟨_, rfl⟩
      have hWi : W = true ↔ lr.map ROp.pl = os.map ROp.pl := by rw [hW]; exact decide_eq_true_iff
      have HC := aside (owns1_any lr os W hWi lA oA on oc ob wr hRl hRo hbx)
      have hRn := HR.out
      rw [hdr, List.map_cons] at hRn
      have hRn2 : R = if lr.map ROp.pl = os.map ROp.pl then (k : Int) else ownF ((ls.drop (k + 1)).map lkP) ((k : Int) + 1) (os.map ROp.pl) := hRn
      have HRn := aside hRn2
      have HW := aside hWi
      subst hAe
      clear hW hWi hRl hRo hbx hmem hdr hc hRn hRn2 hbl hkn
      go_wp2_with fail
      refine HC.out.mono ?_
      rintro e w3 ⟨rfl, hb3⟩
      have HB3 := aside (HB.out.trans (hb3.mono hwz))
      clear hb3 HC hck
      cases W with
      | true =>
        have hRk : R = (k : Int) := HRn.out.trans (if_pos (HW.out.1 rfl))
        subst hRk
        go_wp2
        go_ret
        exact ⟨rfl, HB3.out⟩
      | false =>
        have HR2 : Hid (R = ownF ((ls.drop (k + 1)).map lkP) ((k + 1 : Nat) : Int) (os.map ROp.pl)) := aside (HRn.out.trans (if_neg (fun h => absurd (HW.out.2 h) (by simp))))
        go_wp2
        exact ⟨⟨k + 1, by omega, by go_num, HB3, HR2⟩, by simp [Go.RowKit.intOf]; omega⟩
    · obtain rfl : N = k := by omega
      have i0 : ((N : Int) < (N : Int)) = False := by simp
      have hRk : R = -1 := by
        rw [HR.out, List.drop_of_length_le (by have := HLl.out; omega)]
        rfl
      subst hRk
      go_wp2
      go_ret
      exact ⟨rfl, HB.out⟩
set_option maxRecDepth 100000 in
theorem owns_any (ls : List Lk) (os : List ROp) (a : Int) (A oA : Option Addr) (N c on oc : Nat) (hN : N ≤ 100) (w : World) (h : Sl w w.heap.size 1 A N (ls.map lkV)) (hl : ∀ l ∈ ls, RSl w w.heap.size l.1 2 l.2) (ho : RSl w w.heap.size oA on os) :
    Calls Tryd.prog 22 #[.slice A N c, .agg #[.int .i64 a, .slice oA on oc]] w (fun e w' => e = .returned (.int .i64 (ownF (ls.map lkP) 0 (os.map ROp.pl))) ∧ Below w.heap.size w w') := by
  have B1 : Below w.heap.size w (w.alloc (.cells #[.int .i64 a, .slice oA on oc] 40)) := (Below.refl _ _).alloc (Nat.le_refl _) _
  have hbx : (w.alloc (.cells #[.int .i64 a, .slice oA on oc] 40)).cell? ⟨w.heap.size, 1, none⟩ = some (.slice oA on oc) := by
    rw [cell_of_row _ _ 1 _ _ _ (heap_alloc_new w _)]
    rfl
  have HC := aside (index_any ls os A oA N c on oc w.heap.size hN _ ((Sl.below h B1).more B1.size) (fun l hm => ((hl l hm).below B1).more B1.size) ((ho.below B1).more B1.size) hbx (by simp))
  have HB1 := aside B1
  generalize ownF (ls.map lkP) 0 (os.map ROp.pl) = R at HC ⊢
  clear h hl ho B1 hbx
  go_enter Tryd.func22, Tryd.ntmps22
  go_wp2_with fail
  refine HC.out.mono ?_
  rintro e w3 ⟨rfl, hb3⟩
  have HB3 := aside (HB1.out.trans (hb3.mono HB1.out.size))
  clear hb3
  go_wp2
  go_ret
  exact ⟨rfl, HB3.out⟩
end Go.Proofs.YtiigggbghgfdoaaDoor
