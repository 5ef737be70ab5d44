/- Which key an out is locked by: the walks. Conditions: named in each theorem. wallet.Owns: the walk. Conditions: named in each theorem. moneyerlaw4.mine is true; moneyersame.Bytes and moneyersame.Lock: the walks. Conditions: named in each theorem. -/
import Derived.Test.YtbpabjhcjffkmaaGreatDoorWalE
import Derived.Test.YtbpabjhcjffkmaaGreatDoorWalA
import Derived.OrdersHeld
import Derived.Deep.RegionHeld3
import Derived.Deep.MidRow
import Derived.Deep.QuietTactic
import Derived.BigQuiet
/- Which key an out is locked by: the walks. Conditions: named in each theorem. -/
namespace Go.Proofs.YtbpabjhcjffkmaaGreatDoor
open Go.RowKit Go.ChangeShapes Go.WideShapes Go.ChangeAt

/-- The first of some locks that is a lock. -/
def ownF : List (List POp) → Int → List POp → Int
 | [], _, _ => -1
 | l :: r, i, o => if l = o then i else ownF r (i + 1) o
set_option maxRecDepth 100000 in
theorem owns1_any (rs os : List ROp) (V : Bool) (hV : V = true ↔ rs.map ROp.pl = os.map ROp.pl) (A oA : Option Addr) (on oc ob : Nat) (w : World) (h : RSl w w.heap.size A 2 rs) (ho : RSl w w.heap.size oA on os) (hb : w.cell? ⟨ob, 1, none⟩ = some (.slice oA on oc)) :
  Calls Tryz.prog 80 #[.slice A 2 2, .pointer (some ⟨ob, 0, none⟩)] w (fun e w' => e = .returned (.bool V) ∧ Below w.heap.size w w') := by
 have HC := aside (same_any rs os V hV A oA 2 2 on oc (by decide) w h ho)
 clear h ho hV
 go_enter Tryz.func80, Tryz.ntmps80
 go_wp2_with fail
 refine HC.out.mono ?_
 rintro e w3 ⟨rfl, hb3⟩
 have HB3 := aside hb3
 clear hb3
 go_wp2
 go_ret
 exact ⟨rfl, HB3.out⟩
theorem lk_at {ls : List Lk} {k : Nat} (h : k < ls.length) : ls.getD k (none, []) ∈ ls ∧ ls.drop k = ls.getD k (none, []) :: ls.drop (k + 1) := by
 rw [List.getD_eq_getElem?_getD, List.getElem?_eq_getElem h]
 exact ⟨List.getElem_mem h, List.drop_eq_getElem_cons h⟩
set_option maxHeartbeats 20000000 in
set_option maxRecDepth 100000 in
theorem index_any (ls : List Lk) (os : List ROp) (A oA : Option Addr) (N c on oc ob : Nat) (hN : N ≤ 100) (w : World) (h : Sl w w.heap.size 1 A N (ls.map lkV)) (hl : ∀ l ∈ ls, RSl w w.heap.size l.1 2 l.2) (ho : RSl w w.heap.size oA on os) (hb : w.cell? ⟨ob, 1, none⟩ = some (.slice oA on oc)) (hob : ob < w.heap.size) :
  Calls Tryz.prog 79 #[.slice A N c, .func (.func 80) #[] #[.pointer (some ⟨ob, 0, none⟩)]] w (fun e w' => e = .returned (.int .i64 (ownF (ls.map lkP) 0 (os.map ROp.pl))) ∧ Below w.heap.size w w') := by
 have hll : ls.length = N := by have := h.len; simpa using this
 obtain ⟨R, hR⟩ : ∃ R, R = ownF (ls.map lkP) 0 (os.map ROp.pl) := ⟨_, rfl⟩
 rw [← hR]
 have HR : Hid (R = ownF ((ls.drop 0).map lkP) ((0 : Nat) : Int) (os.map ROp.pl)) := aside hR
 have HB := aside (Below.refl w.heap.size w)
 have H := aside h
 have HL := aside hl
 have HO := aside ho
 have HBx := aside hb
 have HLl := aside hll
 clear h hl ho hb hll hR
 go_enter Tryz.func79, Tryz.ntmps79
 go_wp2_with fail
 go_loopw [8] (fun v8 wr => ∃ k : Nat, k ≤ N ∧ v8 = .int .i64 k ∧ Hid (Below w.heap.size w wr) ∧ Hid (R = ownF ((ls.drop k).map lkP) k (os.map ROp.pl))) (fun v8 _ => N - (Go.RowKit.intOf v8).toNat)
 case atStart => exact ⟨0, Nat.zero_le _, rfl, HB, HR⟩
 case round =>
  clear HB HR
  obtain ⟨k, hk, rfl, HB, HR⟩ := hrel
  by_cases hkn : k < N
  ·have k0 : (k : Int) < (N : Int) := by omega
   have hwz := HB.out.size
   obtain ⟨hmem, hdr⟩ := lk_at (ls := ls) (k := k) (by have := HLl.out; omega)
   obtain ⟨b, of, hAe, hbl, hc⟩ := (Sl.below H.out HB.out).cells (by omega)
   have hck := hc k (lkV (ls.getD k (none, []))) (by
    rw [List.getElem?_map, List.getD_eq_getElem?_getD, List.getElem?_eq_getElem (by have := HLl.out; omega)]
    rfl)
   have hRl := ((HL.out _ hmem).below HB.out).more hwz
   have hRo := (HO.out.below HB.out).more hwz
   have hbx := (HB.out.cell (p := ⟨ob, 1, none⟩) hob).trans HBx.out
   generalize ls.getD k (none, []) = l at *
   obtain ⟨lA, lr⟩ := l
   unfold lkV at hck
   obtain ⟨W, hW⟩ : ∃ W : Bool, W = decide (lr.map ROp.pl = os.map ROp.pl) := ⟨_, rfl⟩
   have hWi : W = true ↔ lr.map ROp.pl = os.map ROp.pl := by rw [hW]; exact decide_eq_true_iff
   have HC := aside (owns1_any lr os W hWi lA oA on oc ob wr hRl hRo hbx)
   have hRn := HR.out
   rw [hdr, List.map_cons] at hRn
   have hRn2 : R = if lr.map ROp.pl = os.map ROp.pl then (k : Int) else ownF ((ls.drop (k + 1)).map lkP) ((k : Int) + 1) (os.map ROp.pl) := hRn
   have HRn := aside hRn2
   have HW := aside hWi
   subst hAe
   clear hW hWi hRl hRo hbx hmem hdr hc hRn hRn2 hbl hkn
   go_wp2_with fail
   refine HC.out.mono ?_
   rintro e w3 ⟨rfl, hb3⟩
   have HB3 := aside (HB.out.trans (hb3.mono hwz))
   clear hb3 HC hck
   cases W with
   | true =>
    have hRk : R = (k : Int) := HRn.out.trans (if_pos (HW.out.1 rfl))
    subst hRk
    go_wp2
    go_ret
    exact ⟨rfl, HB3.out⟩
   | false =>
    have HR2 : Hid (R = ownF ((ls.drop (k + 1)).map lkP) ((k + 1 : Nat) : Int) (os.map ROp.pl)) := aside (HRn.out.trans (if_neg (fun h => absurd (HW.out.2 h) (by simp))))
    go_wp2
    exact ⟨⟨k + 1, by omega, by go_num, HB3, HR2⟩, by simp [Go.RowKit.intOf]; omega⟩
  ·obtain rfl : N = k := by omega
   have i0 : ((N : Int) < (N : Int)) = False := by simp
   have hRk : R = -1 := by
    rw [HR.out, List.drop_of_length_le (by have := HLl.out; omega)]
    rfl
   subst hRk
   go_wp2
   go_ret
   exact ⟨rfl, HB.out⟩
set_option maxRecDepth 100000 in
theorem owns_any (ls : List Lk) (os : List ROp) (a : Int) (A oA : Option Addr) (N c on oc : Nat) (hN : N ≤ 100) (w : World) (h : Sl w w.heap.size 1 A N (ls.map lkV)) (hl : ∀ l ∈ ls, RSl w w.heap.size l.1 2 l.2) (ho : RSl w w.heap.size oA on os) :
  Calls Tryz.prog 36 #[.slice A N c, .agg #[.int .i64 a, .slice oA on oc]] w (fun e w' => e = .returned (.int .i64 (ownF (ls.map lkP) 0 (os.map ROp.pl))) ∧ Below w.heap.size w w') := by
 have B1 : Below w.heap.size w (w.alloc (.cells #[.int .i64 a, .slice oA on oc] 27)) := (Below.refl _ _).alloc (Nat.le_refl _) _
 have hbx : (w.alloc (.cells #[.int .i64 a, .slice oA on oc] 27)).cell? ⟨w.heap.size, 1, none⟩ = some (.slice oA on oc) := by
  rw [cell_of_row _ _ 1 _ _ _ (heap_alloc_new w _)]
  rfl
 have HC := aside (index_any ls os A oA N c on oc w.heap.size hN _ ((Sl.below h B1).more B1.size) (fun l hm => ((hl l hm).below B1).more B1.size) ((ho.below B1).more B1.size) hbx (by simp))
 have HB1 := aside B1
 generalize ownF (ls.map lkP) 0 (os.map ROp.pl) = R at HC ⊢
 clear h hl ho B1 hbx
 go_enter Tryz.func36, Tryz.ntmps36
 go_wp2_with fail
 refine HC.out.mono ?_
 rintro e w3 ⟨rfl, hb3⟩
 have HB3 := aside (HB1.out.trans (hb3.mono HB1.out.size))
 clear hb3
 go_wp2
 go_ret
 exact ⟨rfl, HB3.out⟩
end Go.Proofs.YtbpabjhcjffkmaaGreatDoor

/- wallet.Owns: the walk. Conditions: named in each theorem. -/
namespace Go.Proofs.YtbpabjhcjffkmaaGreatDoor
open Go.RowKit Go.ChangeShapes Go.WideShapes Go.ChangeAt

theorem BlkY.range {w : World} {b : Nat} {T : TypeId} {l : List Nat} (h : BlkY w b T l) : w.rangeAt b 0 (u8s l) := fun j v hj => by
 have hs : w.heap[b]? = some (.cells (rowY l) T (0, 0)) := h
 rw [Nat.zero_add, cell_of_row w b j _ _ _ hs]
 unfold rowY
 rw [List.getElem?_toArray]
 exact hj
theorem u8s_len (l : List Nat) : (u8s l).length = l.length := by simp [u8s]
theorem outInfo : (Tryz.prog.info? 27).map (·.size) = some 2 := by kernel_rfl
theorem digInfo : (Tryz.prog.info? 23).map (·.size) = some 32 := by kernel_rfl
set_option maxHeartbeats 20000000 in
set_option maxRecDepth 100000 in
theorem Owns_any (d : List Nat) (hd : d.length = 32) (hb : ∀ x ∈ d, x < 256) (n : Int) (hn : n ≤ 100) (os : List ROp) (a : Int) (oA : Option Addr) (on oc : Nat) (w : World) (ho : RSl w w.heap.size oA on os) (hg : RoundsAt w) :
  Calls Tryz.prog 10 #[digV d, .int .i64 n, .agg #[.int .i64 a, .slice oA on oc]] w (fun e w' => e = .returned (.int .i64 (ownF ((List.range n.toNat).map (lockL d)) 0 (os.map ROp.pl))) ∧ Below w.heap.size w w') := by
 have B1 : Hid (Below w.heap.size w ((w.alloc (.cells (rowY d) 23)).alloc (.cells #[.int .i64 a, .slice oA on oc] 27))) := aside (((Below.refl _ _).alloc (Nat.le_refl _) _).alloc (by simp) _)
 have D0 : Hid (BlkY ((w.alloc (.cells (rowY d) 23)).alloc (.cells #[.int .i64 a, .slice oA on oc] 27)) w.heap.size 23 d) := aside ((BlkY.new w _ _).alloc _)
 have D1 : Hid (((w.alloc (.cells (rowY d) 23)).alloc (.cells #[.int .i64 a, .slice oA on oc] 27)).heap[w.heap.size + 1]? = some (.cells #[.int .i64 a, .slice oA on oc] 27 (0, 0))) := aside (by
  have h := heap_alloc_new (w.alloc (.cells (rowY d) 23)) (.cells #[.int .i64 a, .slice oA on oc] 27)
  rwa [show (w.alloc (.cells (rowY d) 23)).heap.size = w.heap.size + 1 by simp] at h)
 have HO := aside ho
 have HDl := aside hd
 have HDb := aside hb
 have HG := aside hg
 clear ho hd hb hg
 unfold digV
 go_enter Tryz.func10, Tryz.ntmps10
 go_upto_region 1 with fail
 change Code.wp _ _ _ _ ((w.alloc (.cells (rowY d) 23)).alloc (.cells #[.int .i64 a, .slice oA on oc] 27))
 generalize ((w.alloc (.cells (rowY d) 23)).alloc (.cells #[.int .i64 a, .slice oA on oc] 27)) = w1 at B1 D0 D1 ⊢
 obtain ⟨B0, hB0⟩ : ∃ B0, B0 = w.heap.size := ⟨_, rfl⟩
 have EB := aside hB0
 simp only [← hB0] at D0 D1 ⊢
 clear hB0
 have l0 := D0.out.lt
 have l1 : B0 + 1 < w1.heap.size := (Array.getElem?_eq_some_iff.1 D1.out).1
 refine wp_region_held_drew (S := (fun w' => Below w1.heap.size w1 w')) (by kernel_rfl) (below_drawn (Below.refl _ _) 1) (fun hS => ?_)
 refine tkH (i := 0) (v := _) rfl (by kernel_rfl) (fun _ _ _ h => h) (yieldsIf_load_mid (by rfl) _ _ rfl B0 0 rfl (u8s d) _ (fun W hW => (D0.out.below hW l0).range) Tryz.underlying23 rfl (by rw [u8s_len, HDl.out]; exact digInfo)) hS ?_
 (repeat (first | simp only [q1] | simp only [q2] | simp only [q3] | simp only [Act.put] | simp only [q4] | simp only [q5] | simp only [q6]))
 refine tkH (i := 1) (v := ?_) rfl (by kernel_rfl) (fun _ _ _ h => h) (Or.inl ⟨by rfl, ?_⟩) hS ?_
 rotate_left
 ·(intro W hSw; (try dsimp only at hSw); go_simp; try with_reducible rfl)
 (repeat (first | simp only [q1] | simp only [q2] | simp only [q3] | simp only [Act.put] | simp only [q4] | simp only [q5] | simp only [q6]))
 refine tkH (i := 3) (v := _) rfl (by kernel_rfl) (fun _ _ _ h => h) (yieldsIf_load_mid (by rfl) _ _ rfl (B0 + 1) 0 rfl [.int .i64 a, .slice oA on oc] _ (fun W hW => fun j v hj => by
  rw [Nat.zero_add, cell_of_row W (B0 + 1) j _ _ _ ((hW.block (B0 + 1) l1).trans D1.out), List.getElem?_toArray]
  exact hj) Tryz.underlying27 rfl outInfo) hS ?_
 (repeat (first | simp only [q1] | simp only [q2] | simp only [q3] | simp only [Act.put] | simp only [q4] | simp only [q5] | simp only [q6]))
 refine oneL (i := 2) (by kernel_rfl) rfl ?_
 (repeat (first | simp only [q1] | simp only [q2] | simp only [q3]))
 have hB2 : Below w.heap.size w w1.drew := below_drawn B1.out 1
 go_wp2_with (first
  | (go_at_call 29; refine (show Calls _ _ #[digV d, _] _ _ from locks_any d HDl.out HDb.out n hn w1.drew (HG.out.below hB2)).mono ?_; rintro e w2 ⟨A, c, ls, rfl, hsl, hrs, hlp, hb2⟩; have HSl := aside hsl; have HRs := aside hrs; have HLp := aside hlp; have hS2 : Below w1.heap.size w1 w2 := hS.trans hb2; have HS2 := aside hS2; clear hsl hrs hlp hb2 hS2)
  | fail)
 change _ ∧ _
 refine ⟨HS2.out, ?_⟩
 (try dsimp only)
 (repeat (first | simp only [q1] | simp only [q2] | simp only [q3] | simp only [Act.put] | simp only [q4] | simp only [q5] | simp only [q6]))
 refine oneL (i := 4) (by kernel_rfl) rfl ?_
 (repeat (first | simp only [q1] | simp only [q2] | simp only [q3]))
 have HB2 : Hid (Below w.heap.size w w2) := aside (B1.out.trans (HS2.out.mono B1.out.size))
 have HC := aside (owns_any ls os a A oA n.toNat c on oc (by omega) w2 HSl.out HRs.out ((HO.out.below HB2.out).more HB2.out.size))
 rw [HLp.out] at HC
 go_wp2_with (first
  | (go_at_call 36; refine HC.out.mono ?_; rintro e w3 ⟨rfl, hb3⟩; have hS3 : Below w1.heap.size w1 w3 := HS2.out.trans (hb3.mono HS2.out.size); have HS3 := aside hS3; have HB3 := aside (HB2.out.trans (hb3.mono HB2.out.size)); clear hb3 hS3)
  | fail)
 change _ ∧ _
 refine ⟨HS3.out, ?_⟩
 (try dsimp only)
 (repeat (first | simp only [q1] | simp only [q2] | simp only [q3] | simp only [Act.put] | simp only [q4] | simp only [q5] | simp only [q6]))
 refine tkH (i := 5) (v := ?_) rfl (by kernel_rfl) (fun _ _ _ h => h) (Or.inl ⟨by rfl, ?_⟩) HS3.out ?_
 rotate_left
 ·(intro W hSw; (try dsimp only at hSw); go_simp; try with_reducible rfl)
 (repeat (first | simp only [q1] | simp only [q2] | simp only [q3] | simp only [Act.put] | simp only [q4] | simp only [q5] | simp only [q6]))
 refine wpAnyH_done (by kernel_rfl) ?_ _
 go_wp2_with fail
 go_ret
 exact ⟨rfl, HB3.out⟩
end Go.Proofs.YtbpabjhcjffkmaaGreatDoor

/- moneyerlaw4.mine is true; moneyersame.Bytes and moneyersame.Lock: the walks. Conditions: named in each theorem. -/
namespace Go.Proofs.YtbpabjhcjffkmaaGreatDoor
open Go.RowKit Go.ChangeShapes Go.WideShapes Go.ChangeAt

def zeroD : List Nat := List.replicate 32 0
theorem zeroD_len : zeroD.length = 32 := by decide
theorem zeroD_small : ∀ x ∈ zeroD, x < 256 := by decide
theorem own_one (d : List Nat) (o : List POp) : ownF ((List.range (1 : Int).toNat).map (lockL d)) 0 o = if lockL d 0 = o then 0 else -1 := rfl
set_option maxHeartbeats 8000000 in
set_option maxRecDepth 100000 in
theorem mine_any (w : World) (hg : RoundsAt w) : Calls Tryz.prog 4 #[] w (fun e w' => e = .returned (.bool true) ∧ Below w.heap.size w w') := by
 have HG := aside hg
 clear hg
 go_enter Tryz.func4, Tryz.ntmps4
 go_wp2_with fail
 refine (show Calls _ _ #[digV zeroD, .int .i64 ((0 : Nat) : Int)] _ _ from lock_any zeroD zeroD_len zeroD_small 0 (by omega) w HG.out).mono ?_
 rintro e w2 ⟨A, rs, rfl, hdep, hpl, hb2⟩
 have HR2 := aside (hdep w2 (fun _ _ _ => rfl) (Nat.le_refl _))
 have HB2 := aside hb2
 have HPl := aside hpl
 clear hdep hb2 hpl
 have HC1 := aside (Owns_any zeroD zeroD_len zeroD_small 1 (by omega) rs 0 A 2 2 w2 HR2.out (HG.out.below HB2.out))
 rw [own_one, HPl.out, if_pos rfl] at HC1
 go_wp2_with fail
 refine (show Calls _ _ #[digV zeroD, .int .i64 1, .agg #[.int .i64 0, .slice A 2 2]] _ _ from HC1.out).mono ?_
 rintro e w3 ⟨rfl, hb3⟩
 have HB3 := aside (HB2.out.trans (hb3.mono HB2.out.size))
 clear hb3
 have HC2 := aside (Owns_any zeroD zeroD_len zeroD_small 1 (by omega) [] 0 none 0 0 w3 RSl.nil_ (HG.out.below HB3.out))
 rw [own_one, if_neg (by unfold lockL; simp)] at HC2
 go_wp2_with fail
 refine (show Calls _ _ #[digV zeroD, .int .i64 1, .agg #[.int .i64 0, .slice none 0 0]] _ _ from HC2.out).mono ?_
 rintro e w4 ⟨rfl, hb4⟩
 have HB4 := aside (HB3.out.trans (hb4.mono HB3.out.size))
 clear hb4
 go_wp2
 go_ret
 exact ⟨rfl, HB4.out⟩
set_option maxHeartbeats 8000000 in
set_option maxRecDepth 100000 in
theorem sbytes_any (xs ys : List Nat) (V : Bool) (hV : V = true ↔ xs = ys) (A A' : Option Addr) (n c n' c' : Nat) (hn7 : n ≤ 1000) (w : World) (h : YSl w w.heap.size A n xs) (h' : YSl w w.heap.size A' n' ys) :
  Calls Tryz.prog 86 #[.slice A n c, .slice A' n' c'] w (fun e w' => e = .returned (.bool V) ∧ Below w.heap.size w w') := by
 have hl := YSl.len1 h
 have hl' := YSl.len1 h'
 by_cases hn : n = n'
 ·subst hn
  have hnn : ((n : Int) != (n : Int)) = false := by simp
  have HV := aside hV
  have HL := aside hl
  have HL' := aside hl'
  have H := aside h
  have H' := aside h'
  clear h h' hl hl' hV
  go_enter Tryz.func86, Tryz.ntmps86
  go_wp2_with fail
  go_loopw [5] (fun v5 wr => ∃ (k q : Nat), k ≤ n ∧ v5 = .int .i64 k ∧ wr = w.drewN q ∧ Hid (xs.take k = ys.take k)) (fun v5 _ => n - (Go.RowKit.intOf v5).toNat)
  case atStart => exact ⟨0, 0, Nat.zero_le _, rfl, rfl, aside rfl⟩
  case round =>
   obtain ⟨k, q, hk, rfl, rfl, HP⟩ := hrel
   by_cases hlt : k < n
   ·obtain ⟨b, o, hAe, hb, hc⟩ := YSl.at1 H.out (by omega)
    obtain ⟨b', o', hAe', hb', hc'⟩ := YSl.at1 H'.out (by omega)
    have ck := hc k hlt
    have ck' := hc' k hlt
    have hi1 : (k : Int) < (n : Int) := by omega
    have hx1 : xs.take (k + 1) = xs.take k ++ [xs.getD k 0] := by rw [List.take_add_one, List.getD_eq_getElem?_getD, List.getElem?_eq_getElem (by have := HL.out; omega)]; rfl
    have hx2 : ys.take (k + 1) = ys.take k ++ [ys.getD k 0] := by rw [List.take_add_one, List.getD_eq_getElem?_getD, List.getElem?_eq_getElem (by have := HL'.out; omega)]; rfl
    have HX1 := aside hx1
    have HX2 := aside hx2
    have hno : xs.getD k 0 ≠ ys.getD k 0 → V = false := fun hne => by
     cases V with
     | false => rfl
     | true => exact absurd (by rw [HV.out.1 rfl]) hne
    generalize xs.getD k 0 = x at ck HX1 hno
    generalize ys.getD k 0 = y at ck' HX2 hno
    subst hAe hAe'
    clear hc hc' hx1 hx2 hb hb'
    by_cases hxy : x = y
    ·subst hxy
     have hq : ((x : Int) != (x : Int)) = false := by simp
     have HPn : Hid (xs.take (k + 1) = ys.take (k + 1)) := aside (by rw [HX1.out, HX2.out, HP.out])
     clear hno
     go_wp2_with fail
     go_quiet (fail)
     go_wp2
     exact ⟨⟨k + 1, _, by omega, by go_num, rfl, HPn⟩, by simp [Go.RowKit.intOf]; omega⟩
    ·have hq : ((x : Int) != (y : Int)) = true := by simp; omega
     obtain rfl := hno hxy
     clear hxy
     go_wp2_with fail
     go_quiet (fail)
     go_wp2
     go_ret
     exact ⟨rfl, below_drawn (below_drawn (Below.refl _ _) _) _⟩
   ·obtain rfl : n = k := by omega
    have hT : V = true := HV.out.2 (by
     have := HP.out
     rwa [← HL.out, List.take_length, HL.out, ← HL'.out, List.take_length] at this)
    subst hT
    have i0 : ((n : Int) < (n : Int)) = False := by simp
    clear hlt
    go_wp2
    go_ret
    exact ⟨rfl, below_drawn (Below.refl _ _) _⟩
 ·have hnn : ((n : Int) != (n' : Int)) = true := by simp; omega
  have hF : V = false := by
   cases V with
   | false => rfl
   | true => exact absurd (by have := congrArg List.length (hV.1 rfl); rwa [hl, hl'] at this) hn
  subst hF
  clear h h' hV hn hl hl'
  go_enter Tryz.func86, Tryz.ntmps86
  go_wp2
  go_ret
  exact ⟨rfl, Below.refl _ _⟩
set_option maxHeartbeats 20000000 in
set_option maxRecDepth 100000 in
theorem slock_any (rs rs' : List ROp) (V : Bool) (hV : V = true ↔ rs.map ROp.pl = rs'.map ROp.pl) (A A' : Option Addr) (n c n' c' : Nat) (hn7 : n ≤ 1000) (w : World) (h : RSl w w.heap.size A n rs) (h' : RSl w w.heap.size A' n' rs') (hd7 : ∀ r ∈ rs, r.dn ≤ 1000) :
  Calls Tryz.prog 40 #[.slice A n c, .slice A' n' c'] w (fun e w' => e = .returned (.bool V) ∧ Below w.heap.size w w') := by
 have hl := h.len
 have hl' := h'.len
 by_cases hn : n = n'
 ·subst hn
  have hnn : ((n : Int) != (n : Int)) = false := by simp
  have HB0 := aside (Below.refl w.heap.size w)
  have HP0 : Hid ((rs.take 0).map ROp.pl = (rs'.take 0).map ROp.pl) := aside rfl
  have H := aside h
  have H' := aside h'
  have HV := aside hV
  have HL := aside hl
  have HL' := aside hl'
  have HD7 := aside hd7
  clear h h' hV hl hl' hd7
  go_enter Tryz.func40, Tryz.ntmps40
  go_wp2_with fail
  go_loopw [5] (fun v5 wr => ∃ k : Nat, k ≤ n ∧ v5 = .int .i64 k ∧ Hid (Below w.heap.size w wr) ∧ Hid ((rs.take k).map ROp.pl = (rs'.take k).map ROp.pl)) (fun v5 _ => n - (Go.RowKit.intOf v5).toNat)
  case atStart => exact ⟨0, Nat.zero_le _, rfl, HB0, HP0⟩
  case round =>
   clear HB0 HP0
   obtain ⟨k, hk, rfl, HB, HP⟩ := hrel
   by_cases hkn : k < n
   ·have k0 : (k : Int) < (n : Int) := by omega
    have R1 := aside (H.out.below HB.out)
    have R2 := aside (H'.out.below HB.out)
    have hwz := HB.out.size
    obtain ⟨b1, of1, e1, hb1, p0, p1, p2⟩ := R1.out.at_ hkn
    obtain ⟨b2, of2, e2, hb2, q0, q1, q2⟩ := R2.out.at_ hkn
    have hm1 := R1.out.mem hkn
    have hm2 := R2.out.mem hkn
    have hY1 := Sl.more (R1.out.data _ hm1) hwz
    have hY2 := Sl.more (R2.out.data _ hm2) hwz
    have hdn := HD7.out _ hm1
    have hn1 := pl_next (rs := rs) (k := k) (by have := HL.out; omega)
    have hn2 := pl_next (rs := rs') (k := k) (by have := HL'.out; omega)
    have ha1 := pl_at (rs := rs) (k := k) (by have := HL.out; omega)
    have ha2 := pl_at (rs := rs') (k := k) (by have := HL'.out; omega)
    generalize rs.getD k noR = r at *
    generalize rs'.getD k noR = r' at *
    obtain ⟨W, hW⟩ : ∃ W : Bool, W = decide (r.data = r'.data) := ⟨_, rfl⟩
    have hWi : W = true ↔ r.data = r'.data := by rw [hW]; exact decide_eq_true_iff
    have HC := aside (fun q => sbytes_any r.data r'.data W hWi r.dA r'.dA r.dn r.dc r'.dn r'.dc hdn (wr.drewN q) (Sl.drewN hY1 q) (Sl.drewN hY2 q))
    have HN1 := aside hn1
    have HN2 := aside hn2
    have HW := aside hWi
    have hno : r.pl ≠ r'.pl → V = false := fun hne => by
     cases V with
     | false => rfl
     | true =>
      have e9 := HV.out.1 rfl
      rw [e9, ha2] at ha1
      injection ha1 with ha1
      exact absurd ha1.symm hne
    have HNo := aside hno
    have HS0 : wr.drew.cell? ⟨b1, of1 + k * 3 + 2, none⟩ = some (.slice r.dA r.dn r.dc) ∧ wr.drew.cell? ⟨b2, of2 + k * 3 + 2, none⟩ = some (.slice r'.dA r'.dn r'.dc) := ⟨p2, q2⟩
    have hbz1 : b1 < wr.heap.size := by omega
    have hbz2 : b2 < wr.heap.size := by omega
    subst e1 e2
    clear hY1 hY2 hn1 hn2 ha1 ha2 hW hWi hm1 hm2 R1 R2 hno hkn
    go_wp2_with fail
    go_region_held3 (fun X => X.cell? ⟨b1, of1 + k * 3 + 2, none⟩ = some (.slice r.dA r.dn r.dc) ∧ X.cell? ⟨b2, of2 + k * 3 + 2, none⟩ = some (.slice r'.dA r'.dn r'.dc))
     (first | (with_reducible exact HS0) | (constructor <;> assumption))
     (first | (go_at_call 86; refine (HC.out 1).mono ?_; rintro e w3 ⟨rfl, hb3⟩; have hs1 := (hb3.cell (p := ⟨b1, of1 + k * 3 + 2, none⟩) hbz1).trans p2; have hs2 := (hb3.cell (p := ⟨b2, of2 + k * 3 + 2, none⟩) hbz2).trans q2))
    have HB3 : Hid (Below wr.heap.size wr w3) := aside ((below_drawn (Below.refl wr.heap.size wr) 1).trans hb3)
    have HBw : Hid (Below w.heap.size w w3) := aside (HB.out.trans (HB3.out.mono hwz))
    have t0 := (HB3.out.cell (p := ⟨b1, of1 + k * 3, none⟩) hbz1).trans p0
    have t1 := (HB3.out.cell (p := ⟨b1, of1 + k * 3 + 1, none⟩) hbz1).trans p1
    have u0 := (HB3.out.cell (p := ⟨b2, of2 + k * 3, none⟩) hbz2).trans q0
    have u1 := (HB3.out.cell (p := ⟨b2, of2 + k * 3 + 1, none⟩) hbz2).trans q1
    clear hb3 hs1 hs2 p0 p1 p2 q0 q1 q2 HS0
    cases W with
    | false =>
     have hF : V = false := HNo.out (fun h => absurd (HW.out.2 (by unfold ROp.pl at h; simpa using (Prod.mk.inj (Prod.mk.inj h).2).2)) (by simp))
     subst hF
     go_wp2_with fail
     go_quiet (fail)
     go_wp2
     go_ret
     exact ⟨rfl, below_drawn HBw.out _⟩
    | true =>
     by_cases ho : r.op = r'.op
     ·have hoo : (r.op != r'.op) = false := by simp [ho]
      by_cases hnq : r.n = r'.n
      ·have hnq2 : (r.n != r'.n) = false := by simp [hnq]
       have HPn : Hid ((rs.take (k + 1)).map ROp.pl = (rs'.take (k + 1)).map ROp.pl) := aside (by
        rw [HN1.out, HN2.out, HP.out]
        congr 2
        unfold ROp.pl
        rw [ho, hnq, HW.out.1 rfl])
       clear ho hnq
       go_wp2_with fail
       go_quiet (fail)
       go_wp2
       exact ⟨⟨k + 1, by omega, by go_num, aside (below_drawn HBw.out _), HPn⟩, by simp [Go.RowKit.intOf]; omega⟩
      ·have hnq2 : (r.n != r'.n) = true := by simp [hnq]
       have hF : V = false := HNo.out (fun h => hnq (by unfold ROp.pl at h; simpa using (Prod.mk.inj (Prod.mk.inj h).2).1))
       subst hF
       clear ho hnq
       go_wp2_with fail
       go_quiet (fail)
       go_wp2
       go_ret
       exact ⟨rfl, below_drawn HBw.out _⟩
     ·have hoo : (r.op != r'.op) = true := by simp [ho]
      have hF : V = false := HNo.out (fun h => ho (by unfold ROp.pl at h; exact (Prod.mk.inj h).1))
      subst hF
      clear ho
      go_wp2_with fail
      go_quiet (fail)
      go_wp2
      go_ret
      exact ⟨rfl, below_drawn HBw.out _⟩
   ·obtain rfl : n = k := by omega
    have i0 : ((n : Int) < (n : Int)) = False := by simp
    have hT : V = true := HV.out.2 (by
     have := HP.out
     rwa [← HL.out, List.take_length, HL.out, ← HL'.out, List.take_length] at this)
    subst hT
    clear hkn
    go_wp2
    go_ret
    exact ⟨rfl, HB.out⟩
 ·have hnn : ((n : Int) != (n' : Int)) = true := by simp; omega
  have hF : V = false := by
   cases V with
   | false => rfl
   | true => exact absurd (by have := congrArg List.length (hV.1 rfl); simpa [hl, hl'] using this) hn
  subst hF
  clear h h' hV hn hl hl'
  go_enter Tryz.func40, Tryz.ntmps40
  go_wp2
  go_ret
  exact ⟨rfl, Below.refl _ _⟩
end Go.Proofs.YtbpabjhcjffkmaaGreatDoor
