/- Coins in memory; coin.Check: the walk. Conditions: named in each theorem. -/
import Derived.Test.YtbpabjhcjffkmaaGreatDoorLkC
import Derived.Deep.CutRange
import Derived.Deep.RegionHeld3
import Derived.OrdersHeld
import Derived.Deep.MidRow
import Derived.Test.YtbpabjhcjffkmaaGreatDoorWalA
namespace Go.Proofs.YtbpabjhcjffkmaaGreatDoor
open Go.RowKit Go.ChangeShapes Go.WideShapes Go.ChangeAt

/-- A coin as it lies. -/
structure RCoin where
 tx : List Nat
 at_ : Int
 amt : Int
 lA : Option Addr
 ln : Nat
 lc : Nat
 lk : List ROp
 ht : Int
def RCoin.pl (r : RCoin) : List POp := r.lk.map ROp.pl
def encC (r : RCoin) : List Value := digC r.tx ++ [.int .i64 r.at_, .int .i64 r.amt, .slice r.lA r.ln r.lc, .int .i64 r.ht]
theorem encC_len (r : RCoin) : (encC r).length = 36 := by simp [encC, digC_len]
def noC : RCoin := ⟨[], 0, 0, none, 0, 0, [], 0⟩
theorem encC_one (r : RCoin) : ∀ u ∈ encC r, u.oneCell' = true := fun u hu => by
 unfold encC at hu
 rcases List.mem_append.1 hu with h | h
 ·exact digC_one _ u h
 ·simp only [List.mem_cons, List.not_mem_nil, or_false] at h
  rcases h with rfl | rfl | rfl | rfl <;> rfl
theorem encC_at (r : RCoin) (j : Nat) : (encC r)[32 + j]? = [Value.int .i64 r.at_, .int .i64 r.amt, .slice r.lA r.ln r.lc, .int .i64 r.ht][j]? := by
 unfold encC
 rw [List.getElem?_append_right (by rw [digC_len]; omega), digC_len]
 congr 1
 omega
theorem encC_pl (r : RCoin) {j : Nat} {v : Value} (h : (plC r.tx r.at_)[j]? = some v) : (encC r)[j]? = some v := by
 have hj := (List.getElem?_eq_some_iff.1 h).1
 rw [plC_len] at hj
 have e : encC r = plC r.tx r.at_ ++ [.int .i64 r.amt, .slice r.lA r.ln r.lc, .int .i64 r.ht] := by simp [encC, plC]
 rw [e, List.getElem?_append_left (by rw [plC_len]; exact hj)]
 exact h
/-- Coins in memory. -/
structure CSl (w : World) (B : Nat) (A : Option Addr) (n : Nat) (cs : List RCoin) : Prop where
 cells : FSl encC 36 w B A n cs
 lock : ∀ c ∈ cs, RSl w B c.lA c.ln c.lk
 tx : ∀ c ∈ cs, c.tx.length = 32
theorem CSl.below {w w' : World} {B n : Nat} {A : Option Addr} {cs : List RCoin} (h : CSl w B A n cs) (hb : Below B w w') : CSl w' B A n cs := ⟨FSl.below h.cells hb, fun r hr => (h.lock r hr).below hb, h.tx⟩
theorem CSl.more {w : World} {B B' n : Nat} {A : Option Addr} {cs : List RCoin} (h : CSl w B A n cs) (hB : B ≤ B') : CSl w B' A n cs := ⟨FSl.more h.cells hB, fun r hr => (h.lock r hr).more hB, h.tx⟩
theorem CSl.step {w w' : World} {n : Nat} {A : Option Addr} {cs : List RCoin} (h : CSl w w.heap.size A n cs) (hb : Below w.heap.size w w') : CSl w' w'.heap.size A n cs := (h.below hb).more hb.size
theorem CSl.len {w : World} {B n : Nat} {A : Option Addr} {cs : List RCoin} (h : CSl w B A n cs) : cs.length = n := FSl.len encC_len (by decide) h.cells
theorem CSl.nil_ {w : World} {B : Nat} {A : Option Addr} : CSl w B A 0 [] := ⟨FSl.nil_, (fun r hr => by cases hr), (fun r hr => by cases hr)⟩
theorem CSl.at_ {w : World} {B n : Nat} {A : Option Addr} {cs : List RCoin} (h : CSl w B A n cs) {k : Nat} (hk : k < n) : ∃ b off, A = some ⟨b, off, none⟩ ∧ b < B ∧ w.rangeAt b (off + k * 36) (encC (cs.getD k noC)) := by
 obtain ⟨b, off, e, hb, hc⟩ := FSl.at_ encC_len (by decide) noC h.cells hk
 exact ⟨b, off, e, hb, hc⟩
theorem CSl.mem {w : World} {B n : Nat} {A : Option Addr} {cs : List RCoin} (h : CSl w B A n cs) {k : Nat} (hk : k < n) : cs.getD k noC ∈ cs := by
 have hl := h.len
 rw [List.getD_eq_getElem?_getD, List.getElem?_eq_getElem (by omega)]
 exact List.getElem_mem _
theorem range_below {w w' : World} {b o N : Nat} {cs : List Value} (h : w.rangeAt b o cs) (hb : Below N w w') (hN : b < N) : w'.rangeAt b o cs := fun j v hj => (hb.cell (p := ⟨b, o + j, none⟩) hN).trans (h j v hj)
theorem range_place {w : World} {b o : Nat} {r : RCoin} (h : w.rangeAt b o (encC r)) : w.rangeAt b o (plC r.tx r.at_) := fun j v hj => h j v (encC_pl r hj)
def moneyE (a : Int) : Int := if a < 0 ∨ 1125899906842624 < a then 2 else 0
/-- What is wrong with a coin by itself. -/
def coinQ (c : RCoin) : Int := if c.at_ < 0 ∨ 40 ≤ c.at_ ∨ c.ht < 0 ∨ 1073741824 < c.ht then 2 else if moneyE c.amt ≠ 0 then moneyE c.amt else lkQ c.pl
/-- What is wrong with coins behind one. -/
def chkQ : Option RCoin → List RCoin → Int
 | _, [] => 0
 | none, c :: r => if coinQ c ≠ 0 then coinQ c else chkQ (some c) r
 | some p, c :: r => if 0 ≤ cmpP p.tx p.at_ c.tx c.at_ then 6 else if coinQ c ≠ 0 then coinQ c else chkQ (some c) r
/-- What is wrong with a set. -/
def setQ (cs : List RCoin) : Int := if 1000 < cs.length then 4 else chkQ none cs
def prevC (cs : List RCoin) : Nat → Option RCoin
 | 0 => none
 | k + 1 => some (cs.getD k noC)
theorem money_any (a : Int) (w : World) : Calls Tryz.prog 57 #[.int .i64 a] w (fun e w' => e = .returned (errP (moneyE a)) ∧ w' = w) := by
 obtain ⟨Q, hQ⟩ : ∃ Q, Q = moneyE a := ⟨_, rfl⟩
 rw [← hQ]
 unfold moneyE at hQ
 by_cases e1 : a < 0
 ·obtain rfl : Q = 2 := hQ.trans (if_pos (.inl e1))
  clear hQ
  go_enter Tryz.func57, Tryz.ntmps57
  go_wp2
  go_ret
  exact ⟨rfl, rfl⟩
 ·by_cases e2 : 1125899906842624 < a
  ·obtain rfl : Q = 2 := hQ.trans (if_pos (.inr e2))
   have e3 : 0 ≤ a := by omega
   clear hQ e1
   go_enter Tryz.func57, Tryz.ntmps57
   go_wp2
   go_ret
   exact ⟨rfl, rfl⟩
  ·obtain rfl : Q = 0 := hQ.trans (if_neg (by omega))
   have e3 : 0 ≤ a := by omega
   have e4 : a ≤ 1125899906842624 := by omega
   clear hQ e1 e2
   go_enter Tryz.func57, Tryz.ntmps57
   go_wp2
   go_ret
   exact ⟨rfl, rfl⟩
set_option maxHeartbeats 40000000 in
set_option maxRecDepth 100000 in
theorem check_any (cs : List RCoin) (A : Option Addr) (n c : Nat) (w : World) (h : CSl w w.heap.size A n cs) :
  Calls Tryz.prog 56 #[.slice A n c] w (fun e w' => e = .returned (errP (setQ cs)) ∧ Below w.heap.size w w') := by
 have hl := h.len
 obtain ⟨Q, hQ⟩ : ∃ Q, Q = setQ cs := ⟨_, rfl⟩
 rw [← hQ]
 unfold setQ at hQ
 rw [hl] at hQ
 have HL := aside hl
 have H := aside h
 have HB0 := aside (Below.refl w.heap.size w)
 clear hl h
 by_cases hbig : 1000 < n
 ·have hz : (1000 : Int) < (n : Int) := by omega
  obtain rfl : Q = 4 := hQ.trans (if_pos hbig)
  clear hQ hbig
  go_enter Tryz.func56, Tryz.ntmps56
  go_wp2
  go_ret
  exact ⟨rfl, HB0.out⟩
 have hz : (n : Int) ≤ 1000 := by omega
 have HQ0 : Hid (Q = chkQ (prevC cs 0) (cs.drop 0)) := aside (hQ.trans (if_neg hbig))
 clear hQ hbig
 go_enter Tryz.func56, Tryz.ntmps56
 go_wp2_with fail
 go_loopw [13] (fun v13 wr => ∃ k : Nat, k ≤ n ∧ v13 = .int .i64 k ∧ Hid (Below w.heap.size w wr) ∧ Hid (Q = chkQ (prevC cs k) (cs.drop k))) (fun v13 _ => n - (Go.RowKit.intOf v13).toNat)
 case atStart => exact ⟨0, Nat.zero_le _, rfl, HB0, HQ0⟩
 case round =>
  clear HB0 HQ0
  obtain ⟨k, hk, rfl, HB, HQ⟩ := hrel
  by_cases hkn : k < n
  ·have k0 : (k : Int) < (n : Int) := by omega
   have hwz := HB.out.size
   have hCB := H.out.below HB.out
   have HCB := aside hCB
   obtain ⟨b, of, hAe, hb1, hrg⟩ := hCB.at_ hkn
   have hm := hCB.mem hkn
   have hlk := H.out.lock _ hm
   have htx := hCB.tx _ hm
   have hdr : cs.drop k = cs.getD k noC :: cs.drop (k + 1) := by
    rw [List.getD_eq_getElem?_getD, List.getElem?_eq_getElem (by have := HL.out; omega)]
    exact List.drop_eq_getElem_cons (by have := HL.out; omega)
   have hq := HQ.out
   rw [hdr] at hq
   have hnx : prevC cs (k + 1) = some (cs.getD k noC) := rfl
   generalize cs.getD k noC = r at *
   have HRg := aside hrg
   have HLk := aside hlk
   have HTx := aside htx
   have HQq := aside hq
   have HNx := aside hnx
   have hbl : b < wr.heap.size := by omega
   have HS9 : Hid ((Tryz.prog.info? 57).map (·.size) = some (encC r).toArray.size) := aside (by simp only [List.size_toArray, encC_len]; kernel_rfl)
   have HS8 : Hid ((encC noC).toArray.size = (encC r).toArray.size) := aside (by simp only [List.size_toArray, encC_len])
   have HO1 : Hid ((encC r).toArray.all (·.oneCell') = true) := aside (all_oneCell_toArray (encC_one r))
   have DX : Hid ((wr.alloc (.cells (encC noC).toArray 57)).heap[wr.heap.size]? = some (.cells (encC noC).toArray 57 (0, 0))) := aside (heap_alloc_new _ _)
   have HS1 : Hid ((Tryz.prog.info? 57).map (·.size) = some (encC r).length) := aside (by rw [encC_len]; kernel_rfl)
   subst hAe
   clear hrg hlk htx hq hdr hnx hm hCB hkn
   go_upto_region 6 with (first
    | (refine wpList_load_mid rfl 57 (.tmp 16) rfl b (of + k * 36) rfl (encC r) _ HRg.out Tryz.underlying57 rfl HS1.out ?_)
    | (refine wpList_store_row rfl 57 (.tmp 4) (.tmp 17) rfl wr.heap.size (encC r).toArray rfl rfl 57 (encC noC).toArray DX.out HS9.out HS8.out HO1.out ?_)
    | fail)
   have HB2 : Hid (Below w.heap.size w ((wr.alloc (.cells (encC noC).toArray 57)).setRow wr.heap.size (encC r).toArray)) := aside (below_setRow (HB.out.alloc HB.out.size _) _ HB.out.size _)
   have DX2 : Hid (((wr.alloc (.cells (encC noC).toArray 57)).setRow wr.heap.size (encC r).toArray).heap[wr.heap.size]? = some (.cells (encC r).toArray 57 (0, 0))) := aside (setRow_heap _ _ _ _ _ _ DX.out)
   change Code.wp _ _ _ _ ((wr.alloc (.cells (encC noC).toArray 57)).setRow wr.heap.size (encC r).toArray)
   generalize ((wr.alloc (.cells (encC noC).toArray 57)).setRow wr.heap.size (encC r).toArray) = w2 at HB2 DX2 ⊢
   obtain ⟨bx, hbx⟩ : ∃ bx, bx = wr.heap.size := ⟨_, rfl⟩
   have hbxw : w.heap.size ≤ bx := by omega
   rw [← hbx] at DX2 ⊢
   have HC2 := aside (H.out.below HB2.out)
   have HLk2 : Hid (RSl w2 w2.heap.size r.lA r.ln r.lk) := aside ((HLk.out.below HB2.out).more HB2.out.size)
   clear hbx DX HS8 HO1 HS9 HS1 HRg HB HCB hbl hwz HLk
   obtain ⟨D, hD⟩ : ∃ D : Bool, D = match prevC cs k with
    | none => false
    | some p => decide (0 ≤ cmpP p.tx p.at_ r.tx r.at_) := ⟨_, rfl⟩
   have HDq : Hid ((D = true → Q = 6) ∧ (D = false → Q = if coinQ r ≠ 0 then coinQ r else chkQ (prevC cs (k + 1)) (cs.drop (k + 1)))) := aside (by
    have hq := HQq.out
    rw [HNx.out]
    cases hp : prevC cs k with
    | none =>
     rw [hp] at hD hq
     exact ⟨fun h => (by rw [hD] at h; cases h), fun _ => hq⟩
    | some p =>
     rw [hp] at hD hq
     have hq2 : Q = if 0 ≤ cmpP p.tx p.at_ r.tx r.at_ then 6 else if coinQ r ≠ 0 then coinQ r else chkQ (some r) (cs.drop (k + 1)) := hq
     refine ⟨fun h => ?_, fun h => ?_⟩
     ·rw [hD] at h
      exact hq2.trans (if_pos (of_decide_eq_true h))
     ·rw [hD] at h
      exact hq2.trans (if_neg (of_decide_eq_false h)))
   have HD := aside hD
   have hl2 : bx < w2.heap.size := (Array.getElem?_eq_some_iff.1 DX2.out).1
   clear hD HQq HQ
   (try dsimp only [Act.put])
   go_cut [18] from 19 to 32 (fun v18 wx => v18 = .bool D ∧ Hid (Below w2.heap.size w2 wx))
   case first =>
    rcases Nat.eq_zero_or_pos k with h0 | hpos
    ·subst h0
     have hDf : D = false := HD.out
     subst hDf
     go_wp2_with fail
     go_quiet (fail)
     go_wp2_with fail
     go_meet
     exact ⟨rfl, aside (below_drawn (Below.refl _ _) _)⟩
    ·obtain ⟨k', hkk⟩ : ∃ k', k = k' + 1 := ⟨k - 1, by omega⟩
     have hk' : k' < n := by omega
     rw [hkk] at HD
     obtain ⟨b', of', e', -, hrg'⟩ := HC2.out.at_ hk'
     injection e' with e'
     injection e' with e1 e2
     have hm' := HC2.out.mem hk'
     have htx' := HC2.out.tx _ hm'
     have hDp : D = decide (0 ≤ cmpP (cs.getD k' noC).tx (cs.getD k' noC).at_ r.tx r.at_) := HD.out
     generalize cs.getD k' noC = p at *
     rw [← e1, ← e2] at hrg'
     have hP1 := range_place hrg'
     have hP2 : w2.rangeAt bx 0 (plC r.tx r.at_) := fun j v hj => by
      rw [Nat.zero_add, cell_of_row _ _ j _ _ _ DX2.out, List.getElem?_toArray]
      exact encC_pl r hj
     have hinfo : (Tryz.prog.info? 55).map (·.size) = some 33 := by kernel_rfl
     have hbw : b < w2.heap.size := by have := HB2.out.size; omega
     have HCm := aside (cmpP_any p.tx r.tx p.at_ r.at_ htx' HTx.out)
     generalize cmpP p.tx p.at_ r.tx r.at_ = R at HCm hDp
     have hsub : IntKind.i64.wrap ((k : Int) - 1) = (k' : Int) := by rw [IntKind.wrap_i64]; omega
     have hk0 : (0 : Int) < (k : Int) := by omega
     have hk0n : 0 < k := hpos
     have hk1 : (k' : Int) < (n : Int) := by omega
     have HDp := aside hDp
     have HP1 := aside hP1
     have HP2 := aside hP2
     have HIn : Hid ((Tryz.prog.info? 55).map (·.size) = some 33) := aside hinfo
     clear hrg' hm' htx' hDp e1 e2 hinfo hP1 hP2 HNx HD hkk hpos
     refine wp_region_noPanic ?_
     refine wp_region_held_drew (S := (fun w' => Below w2.heap.size w2 w')) (by kernel_rfl) (below_drawn (Below.refl _ _) 1) (fun hS => ?_)
     refine tkH (i := 0) (v := ?_) rfl (by kernel_rfl) (fun _ _ _ h => h) (Or.inl ⟨by rfl, ?_⟩) hS ?_
     rotate_left
     ·(intro W hSw; (try dsimp only at hSw); go_simp; try with_reducible rfl)
     (repeat (first | simp only [q1] | simp only [q2] | simp only [q3] | simp only [Act.put] | simp only [q4] | simp only [q5] | simp only [q6]))
     refine tkH (i := 1) (v := ?_) rfl (by kernel_rfl) (fun _ _ _ h => h) (Or.inl ⟨by rfl, ?_⟩) hS ?_
     rotate_left
     ·(intro W hSw; (try dsimp only at hSw); go_simp; try with_reducible rfl)
     (repeat (first | simp only [q1] | simp only [q2] | simp only [q3] | simp only [Act.put] | simp only [q4] | simp only [q5] | simp only [q6]))
     refine tkH (i := 2) (v := ?_) rfl (by kernel_rfl) (fun _ _ _ h => h) (Or.inl ⟨by rfl, ?_⟩) hS ?_
     rotate_left
     ·(intro W hSw; (try dsimp only at hSw); go_simp; try with_reducible rfl)
     (repeat (first | simp only [q1] | simp only [q2] | simp only [q3] | simp only [Act.put] | simp only [q4] | simp only [q5] | simp only [q6]))
     refine tkH (i := 3) (v := ?_) rfl (by kernel_rfl) (fun _ _ _ h => h) (Or.inl ⟨by rfl, ?_⟩) hS ?_
     rotate_left
     ·(intro W hSw; (try dsimp only at hSw); go_simp; try with_reducible rfl)
     (repeat (first | simp only [q1] | simp only [q2] | simp only [q3] | simp only [Act.put] | simp only [q4] | simp only [q5] | simp only [q6]))
     refine tkH (i := 4) (v := ?_) rfl (by kernel_rfl) (fun _ _ _ h => h) (Or.inl ⟨by rfl, ?_⟩) hS ?_
     rotate_left
     ·(intro W hSw; (try dsimp only at hSw); go_simp; try with_reducible rfl)
     (repeat (first | simp only [q1] | simp only [q2] | simp only [q3] | simp only [Act.put] | simp only [q4] | simp only [q5] | simp only [q6]))
     refine tkH (i := 5) (v := ?_) rfl (by kernel_rfl) (fun _ _ _ h => h) (Or.inl ⟨by rfl, ?_⟩) hS ?_
     rotate_left
     ·(intro W hSw; (try dsimp only at hSw); go_simp; try with_reducible rfl)
     (repeat (first | simp only [q1] | simp only [q2] | simp only [q3] | simp only [Act.put] | simp only [q4] | simp only [q5] | simp only [q6]))
     refine tkH (i := 6) (v := ?_) rfl (by kernel_rfl) (fun _ _ _ h => h) (Or.inl ⟨by rfl, ?_⟩) hS ?_
     rotate_left
     ·(intro W hSw; (try dsimp only at hSw); go_simp; try with_reducible rfl)
     (repeat (first | simp only [q1] | simp only [q2] | simp only [q3] | simp only [Act.put] | simp only [q4] | simp only [q5] | simp only [q6]))
     refine tkH (i := 7) (v := ?_) rfl (by kernel_rfl) (fun _ _ _ h => h) (Or.inl ⟨by rfl, ?_⟩) hS ?_
     rotate_left
     ·(intro W hSw; (try dsimp only at hSw); go_simp; try with_reducible rfl)
     (repeat (first | simp only [q1] | simp only [q2] | simp only [q3] | simp only [Act.put] | simp only [q4] | simp only [q5] | simp only [q6]))
     refine tkH (i := 8) (v := _) rfl (by kernel_rfl) (fun _ _ _ h => h) (yieldsIf_load_mid (by rfl) _ _ rfl b (of + k' * 36) rfl (plC p.tx p.at_) _ (fun W hW => range_below HP1.out hW hbw) Tryz.underlying55 rfl (by rw [plC_len]; exact HIn.out)) hS ?_
     (repeat (first | simp only [q1] | simp only [q2] | simp only [q3] | simp only [Act.put] | simp only [q4] | simp only [q5] | simp only [q6]))
     refine tkH (i := 9) (v := ?_) rfl (by kernel_rfl) (fun _ _ _ h => h) (Or.inl ⟨by rfl, ?_⟩) hS ?_
     rotate_left
     ·(intro W hSw; (try dsimp only at hSw); go_simp; try with_reducible rfl)
     (repeat (first | simp only [q1] | simp only [q2] | simp only [q3] | simp only [Act.put] | simp only [q4] | simp only [q5] | simp only [q6]))
     refine tkH (i := 10) (v := _) rfl (by kernel_rfl) (fun _ _ _ h => h) (yieldsIf_load_mid (by rfl) _ _ rfl bx 0 rfl (plC r.tx r.at_) _ (fun W hW => range_below HP2.out hW hl2) Tryz.underlying55 rfl (by rw [plC_len]; exact HIn.out)) hS ?_
     (repeat (first | simp only [q1] | simp only [q2] | simp only [q3] | simp only [Act.put] | simp only [q4] | simp only [q5] | simp only [q6]))
     refine oneL (i := 11) (by kernel_rfl) rfl ?_
     (repeat (first | simp only [q1] | simp only [q2] | simp only [q3]))
     go_wp2_with (first
      | (go_at_call 99; refine (HCm.out _).mono ?_; rintro e w3 ⟨rfl, hb3⟩; have hS3 : Below w2.heap.size w2 w3 := hS.trans hb3; have HS3 := aside hS3; clear hb3 hS3)
      | fail)
     change _ ∧ _
     refine ⟨HS3.out, ?_⟩
     (try dsimp only)
     (repeat (first | simp only [q1] | simp only [q2] | simp only [q3] | simp only [Act.put] | simp only [q4] | simp only [q5] | simp only [q6]))
     refine tkH (i := 12) (v := ?_) rfl (by kernel_rfl) (fun _ _ _ h => h) (Or.inl ⟨by rfl, ?_⟩) HS3.out ?_
     rotate_left
     ·(intro W hSw; (try dsimp only at hSw); go_simp; try with_reducible rfl)
     (repeat (first | simp only [q1] | simp only [q2] | simp only [q3] | simp only [Act.put] | simp only [q4] | simp only [q5] | simp only [q6]))
     refine tkH (i := 13) (v := ?_) rfl (by kernel_rfl) (fun _ _ _ h => h) (Or.inl ⟨by rfl, ?_⟩) HS3.out ?_
     rotate_left
     ·(intro W hSw; (try dsimp only at hSw); go_simp; try with_reducible rfl)
     (repeat (first | simp only [q1] | simp only [q2] | simp only [q3] | simp only [Act.put] | simp only [q4] | simp only [q5] | simp only [q6]))
     refine tkH (i := 14) (v := ?_) rfl (by kernel_rfl) (fun _ _ _ h => h) (Or.inl ⟨by rfl, ?_⟩) HS3.out ?_
     rotate_left
     ·(intro W hSw; (try dsimp only at hSw); go_simp; try with_reducible rfl)
     (repeat (first | simp only [q1] | simp only [q2] | simp only [q3] | simp only [Act.put] | simp only [q4] | simp only [q5] | simp only [q6]))
     refine wpAnyH_done (by kernel_rfl) ?_ _
     refine NoPanic.normal ?_
     go_wp2_with fail
     go_meet
     exact ⟨by rw [HDp.out] <;> simp, HS3⟩
   case rest =>
   obtain ⟨rfl, hB3⟩ := hcut
   have HB3 := aside (HB2.out.trans (hB3.out.mono HB2.out.size))
   have hx := (hB3.out.block bx hl2).trans DX2.out
   have x0 : wc.cell? ⟨bx, 32, none⟩ = some (.int .i64 r.at_) := by rw [cell_of_row _ _ 32 _ _ _ hx, List.getElem?_toArray]; exact encC_at r 0
   have x1 : wc.cell? ⟨bx, 33, none⟩ = some (.int .i64 r.amt) := by rw [cell_of_row _ _ 33 _ _ _ hx, List.getElem?_toArray]; exact encC_at r 1
   have x2 : wc.cell? ⟨bx, 34, none⟩ = some (.slice r.lA r.ln r.lc) := by rw [cell_of_row _ _ 34 _ _ _ hx, List.getElem?_toArray]; exact encC_at r 2
   have x3 : wc.cell? ⟨bx, 35, none⟩ = some (.int .i64 r.ht) := by rw [cell_of_row _ _ 35 _ _ _ hx, List.getElem?_toArray]; exact encC_at r 3
   have HLk3 := aside (HLk2.out.step hB3.out)
   clear hx hB3 HC2 HLk2 DX2 HB2 HD HTx
   cases D with
   | true =>
    have hQ6 : Q = 6 := HDq.out.1 rfl
    subst hQ6
    go_wp2
    go_ret
    exact ⟨rfl, HB3.out⟩
   | false =>
    have HQ2 := aside (HDq.out.2 rfl)
    have HCo : Hid (coinQ r = if r.at_ < 0 ∨ 40 ≤ r.at_ ∨ r.ht < 0 ∨ 1073741824 < r.ht then 2 else if moneyE r.amt ≠ 0 then moneyE r.amt else lkQ r.pl) := aside rfl
    have hbad : (r.at_ < 0 ∨ 40 ≤ r.at_ ∨ r.ht < 0 ∨ 1073741824 < r.ht) → Q = 2 := fun hb => by
     have e9 := HCo.out.trans (if_pos hb)
     rw [HQ2.out, e9]
     rfl
    have HBad := aside hbad
    clear hbad HDq
    by_cases h1 : r.at_ < 0
    ·obtain rfl := HBad.out (.inl h1)
     go_wp2
     go_ret
     exact ⟨rfl, HB3.out⟩
    have h1' : 0 ≤ r.at_ := by omega
    by_cases h2 : 40 ≤ r.at_
    ·obtain rfl := HBad.out (.inr (.inl h2))
     clear h1
     go_wp2
     go_ret
     exact ⟨rfl, HB3.out⟩
    have h2' : r.at_ < 40 := by omega
    by_cases h3 : r.ht < 0
    ·obtain rfl := HBad.out (.inr (.inr (.inl h3)))
     clear h1 h2
     go_wp2
     go_ret
     exact ⟨rfl, HB3.out⟩
    have h3' : 0 ≤ r.ht := by omega
    by_cases h4 : 1073741824 < r.ht
    ·obtain rfl := HBad.out (.inr (.inr (.inr h4)))
     clear h1 h2 h3
     go_wp2
     go_ret
     exact ⟨rfl, HB3.out⟩
    have h4' : r.ht ≤ 1073741824 := by omega
    have HCo2 := aside (HCo.out.trans (if_neg (by omega)))
    have HMn := aside (money_any r.amt)
    generalize moneyE r.amt = q1 at HCo2 HMn
    have HLc := aside (lkC_any r.lk r.lA r.ln r.lc wc HLk3.out)
    change Hid (Calls _ _ _ _ (fun e w' => e = .returned (errP (lkQ r.pl)) ∧ _)) at HLc
    generalize lkQ r.pl = q2 at HCo2 HLc
    clear h1 h2 h3 h4 HCo HBad
    go_wp2_with fail
    refine (HMn.out _).mono ?_
    rintro e w3 ⟨rfl, hw3⟩
    rw [hw3]
    clear hw3 w3
    by_cases hq1 : q1 = 0
    ·subst hq1
     rw [show errP 0 = Value.nilIface from rfl]
     have HCo3 := aside (HCo2.out.trans (if_neg (by simp)))
     clear HCo2
     go_wp2_with fail
     refine HLc.out.mono ?_
     rintro e w4 ⟨rfl, hb4⟩
     have HB4 := aside (HB3.out.trans (hb4.mono HB3.out.size))
     clear hb4 HLc x0 x1 x2 x3
     by_cases hq2 : q2 = 0
     ·subst hq2
      rw [show errP 0 = Value.nilIface from rfl]
      have HQ3 : Hid (Q = chkQ (prevC cs (k + 1)) (cs.drop (k + 1))) := aside (HQ2.out.trans (if_neg (by rw [HCo3.out]; simp)))
      go_wp2
      exact ⟨⟨k + 1, by omega, by go_num, HB4, HQ3⟩, by simp [Go.RowKit.intOf]; omega⟩
     ·have hQq : Q = q2 := by
       rw [HQ2.out, HCo3.out, if_pos hq2]
      subst hQq
      rw [errP_no hq2]
      have HE := aside (errP_no hq2)
      clear hq2
      go_wp2
      go_ret
      exact ⟨by rw [HE.out] <;> rfl, HB4.out⟩
    ·have e9 := HCo2.out.trans (if_pos hq1)
     have hQq : Q = q1 := by
      rw [HQ2.out, e9, if_pos hq1]
     subst hQq
     rw [errP_no hq1]
     have HE := aside (errP_no hq1)
     clear hq1 e9
     go_wp2
     go_ret
     exact ⟨by rw [HE.out] <;> rfl, HB3.out⟩
  ·obtain rfl : n = k := by omega
   have i0 : ((n : Int) < (n : Int)) = False := by simp
   have hq : Q = 0 := by
    rw [HQ.out, List.drop_of_length_le (by have := HL.out; omega)]
    cases n <;> rfl
   subst hq
   clear hkn HQ
   go_wp2
   go_ret
   exact ⟨rfl, HB.out⟩
end Go.Proofs.YtbpabjhcjffkmaaGreatDoor
