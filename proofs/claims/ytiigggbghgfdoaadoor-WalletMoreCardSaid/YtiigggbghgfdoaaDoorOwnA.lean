/- moneyerlaw4.owned: the walk. Conditions: named in each theorem. -/
import Derived.Test.YtiigggbghgfdoaaDoorCoinA
import Derived.Test.YtiigggbghgfdoaaDoorWalH
namespace Go.Proofs.YtiigggbghgfdoaaDoor
open Go.RowKit Go.ChangeShapes Go.WideShapes Go.ChangeAt

/-- How many coins are locked by a lock. -/
def cntF (l : List POp) : List RCoin → Nat
  | [] => 0
  | c :: r => (if l = c.pl then 1 else 0) + cntF l r
theorem cntF_append (l : List POp) (a b : List RCoin) : cntF l (a ++ b) = cntF l a + cntF l b := by
  induction a with
  | nil => simp [cntF]
  | cons c r ih => simp only [List.cons_append, cntF, ih]; omega
theorem cntF_len (l : List POp) (cs : List RCoin) : cntF l cs ≤ cs.length := by
  induction cs with
  | nil => simp [cntF]
  | cons c r ih => simp only [cntF, List.length_cons]; split <;> omega
theorem cntF_two {l l' : List POp} (h : l ≠ l') (cs : List RCoin) : cntF l cs + cntF l' cs ≤ cs.length := by
  induction cs with
  | nil => simp [cntF]
  | cons c r ih =>
    simp only [cntF, List.length_cons]
    by_cases h1 : l = c.pl
    · have h2 : ¬ l' = c.pl := fun e => h (h1.trans e.symm)
      rw [if_pos h1, if_neg h2]
      omega
    · rw [if_neg h1]
      split <;> omega
theorem encC_out (r : RCoin) {j : Nat} {v : Value} (h : [Value.int .i64 r.amt, .slice r.lA r.ln r.lc][j]? = some v) : (encC r)[33 + j]? = some v := by
  have hj := (List.getElem?_eq_some_iff.1 h).1
  simp only [List.length_cons, List.length_nil] at hj
  have e := encC_at r (j + 1)
  rw [show 32 + (j + 1) = 33 + j by omega] at e
  rw [e]
  match j, hj with
  | 0, _ => exact h
  | 1, _ => exact h
theorem range_out {w : World} {b o : Nat} {r : RCoin} (h : w.rangeAt b o (encC r)) : w.rangeAt b (o + 33) [.int .i64 r.amt, .slice r.lA r.ln r.lc] := fun j v hj => by
  have := h (33 + j) v (encC_out r hj)
  rw [← this, Nat.add_assoc]
set_option maxHeartbeats 40000000 in
set_option maxRecDepth 100000 in
theorem owned_any (d : List Nat) (hd : d.length = 32) (hb : ∀ x ∈ d, x < 256) (cs : List RCoin) (A : Option Addr) (n c : Nat) (hn : n ≤ 20) (w : World) (h : CSl w w.heap.size A n cs) (hg : RoundsAt w) :
    Calls Tryd.prog 9 #[digV d, .slice A n c] w (fun e w' => e = .returned (.int .i64 (cntF (lockL d 0) cs : Nat)) ∧ Below w.heap.size w w') := by
  have hl := h.len
  have B1 : Hid (Below w.heap.size w (w.alloc (.cells (rowY d) 23))) := aside ((Below.refl _ _).alloc (Nat.le_refl _) _)
  have D0 : Hid (BlkY (w.alloc (.cells (rowY d) 23)) w.heap.size 23 d) := aside (BlkY.new w _ _)
  have HL := aside hl
  have HDl := aside hd
  have HDb := aside hb
  have HG := aside hg
  have H := aside h
  clear hl hd hb hg h
  unfold digV
  go_enter Tryd.func9, Tryd.ntmps9
  go_upto_region 1 with fail
  change Code.wp _ _ _ _ (w.alloc (.cells (rowY d) 23))
  generalize (w.alloc (.cells (rowY d) 23)) = w1 at B1 D0 ⊢
  obtain ⟨B0, hB0⟩ : ∃ B0, B0 = w.heap.size := ⟨_, rfl⟩
  have EB := aside hB0
  simp only [← hB0] at D0 ⊢
  clear hB0
  have l0 := D0.out.lt
  have HB0 := aside (Below.refl w1.heap.size w1)
  have HC0 : Hid ((0 : Int) = (cntF (lockL d 0) (cs.take 0) : Nat)) := aside rfl
  go_wp2_with fail
  go_loopw [5, 6] (fun v5 v6 wr => ∃ (k m : Nat), k ≤ n ∧ m ≤ k ∧ v6 = .int .i64 k ∧ v5 = .int .i64 m ∧ Hid ((m : Int) = (cntF (lockL d 0) (cs.take k) : Nat)) ∧ Hid (Below w1.heap.size w1 wr)) (fun _ v6 _ => n - (Go.RowKit.intOf v6).toNat)
  case atStart => exact ⟨0, 0, Nat.zero_le _, Nat.le_refl _, rfl, rfl, HC0, HB0⟩
  case round =>
    clear HB0 HC0
    obtain ⟨k, m, hk, hmk, rfl, rfl, HM, HB⟩ := hrel
    by_cases hkn : k < n
    · have k0 : (k : Int) < (n : Int) := by omega
      have HBw : Hid (Below w.heap.size w wr) := aside (B1.out.trans (HB.out.mono B1.out.size))
      have hCB := H.out.below HBw.out
      obtain ⟨b, of, hAe, hb1, hrg⟩ := hCB.at_ hkn
      have hm := H.out.mem hkn
      have hlk := hCB.lock _ hm
      have hnx : cntF (lockL d 0) (cs.take (k + 1)) = cntF (lockL d 0) (cs.take k) + (if lockL d 0 = (cs.getD k noC).pl then 1 else 0) := by
        rw [take_next noC (by have := HL.out; omega), cntF_append]
        simp [cntF]
      generalize cs.getD k noC = r at *
      have HRg := aside (range_out hrg)
      have HLk := aside hlk
      have HNx := aside hnx
      have hbl : b < wr.heap.size := Nat.lt_of_lt_of_le hb1 HBw.out.size
      have hl0 : B0 < wr.heap.size := Nat.lt_of_lt_of_le l0 HB.out.size
      have D1 : Hid (BlkY wr B0 23 d) := aside (D0.out.below HB.out l0)
      subst hAe
      clear hrg hlk hnx hm hCB hkn
      have HP0 := aside (Owns_any d HDl.out HDb.out 1 (by omega) r.lk r.amt r.lA r.ln r.lc wr.drew ((HLk.out.more HBw.out.size).drewN 1) (HG.out.below (below_drawn HBw.out 1)))
      rw [own_one] at HP0
      obtain ⟨V, hV⟩ : ∃ V : Int, V = if lockL d 0 = List.map ROp.pl r.lk then 0 else -1 := ⟨_, rfl⟩
      rw [← hV] at HP0
      have HV := aside hV
      clear hV
      go_upto_region 5 with fail
      refine wp_region_noPanic ?_
      refine wp_region_held_drew (S := (fun w' => Below wr.heap.size wr w')) (by kernel_rfl) (below_drawn (Below.refl _ _) 1) (fun hS => ?_)
      refine wpAnyH_take (i := 0) (v := _) rfl (by kernel_rfl) (by kernel_rfl) (by kernel_rfl) (fun _ _ _ h => h) (yieldsIf_load_mid (by rfl) _ _ rfl B0 0 rfl (u8s d) _ (fun W hW => (D1.out.below hW hl0).range) Tryd.underlying23 rfl (by rw [u8s_len, HDl.out]; exact digInfo)) hS ?_
      (repeat (first | simp only [List.getElem_toArray] | simp only [List.getElem_cons_succ] | simp only [List.getElem_cons_zero] | simp only [Act.put] | simp only [List.setIfInBounds_toArray] | simp only [List.set_cons_succ] | simp only [List.set_cons_zero]))
      refine wpAnyH_take (i := 1) (v := ?_) rfl (by kernel_rfl) (by kernel_rfl) (by kernel_rfl) (fun _ _ _ h => h) (Or.inl ⟨by rfl, ?_⟩) hS ?_
      rotate_left
      · (intro W hSw; (try dsimp only at hSw); go_simp; try with_reducible rfl)
      (repeat (first | simp only [List.getElem_toArray] | simp only [List.getElem_cons_succ] | simp only [List.getElem_cons_zero] | simp only [Act.put] | simp only [List.setIfInBounds_toArray] | simp only [List.set_cons_succ] | simp only [List.set_cons_zero]))
      refine wpAnyH_take (i := 2) (v := ?_) rfl (by kernel_rfl) (by kernel_rfl) (by kernel_rfl) (fun _ _ _ h => h) (Or.inl ⟨by rfl, ?_⟩) hS ?_
      rotate_left
      · (intro W hSw; (try dsimp only at hSw); go_simp; try with_reducible rfl)
      (repeat (first | simp only [List.getElem_toArray] | simp only [List.getElem_cons_succ] | simp only [List.getElem_cons_zero] | simp only [Act.put] | simp only [List.setIfInBounds_toArray] | simp only [List.set_cons_succ] | simp only [List.set_cons_zero]))
      refine wpAnyH_take (i := 3) (v := ?_) rfl (by kernel_rfl) (by kernel_rfl) (by kernel_rfl) (fun _ _ _ h => h) (Or.inl ⟨by rfl, ?_⟩) hS ?_
      rotate_left
      · (intro W hSw; (try dsimp only at hSw); go_simp; try with_reducible rfl)
      (repeat (first | simp only [List.getElem_toArray] | simp only [List.getElem_cons_succ] | simp only [List.getElem_cons_zero] | simp only [Act.put] | simp only [List.setIfInBounds_toArray] | simp only [List.set_cons_succ] | simp only [List.set_cons_zero]))
      refine wpAnyH_take (i := 4) (v := ?_) rfl (by kernel_rfl) (by kernel_rfl) (by kernel_rfl) (fun _ _ _ h => h) (Or.inl ⟨by rfl, ?_⟩) hS ?_
      rotate_left
      · (intro W hSw; (try dsimp only at hSw); go_simp; try with_reducible rfl)
      (repeat (first | simp only [List.getElem_toArray] | simp only [List.getElem_cons_succ] | simp only [List.getElem_cons_zero] | simp only [Act.put] | simp only [List.setIfInBounds_toArray] | simp only [List.set_cons_succ] | simp only [List.set_cons_zero]))
      refine wpAnyH_take (i := 5) (v := _) rfl (by kernel_rfl) (by kernel_rfl) (by kernel_rfl) (fun _ _ _ h => h) (yieldsIf_load_mid (by rfl) _ _ rfl b (of + k * 36 + 33) rfl [.int .i64 r.amt, .slice r.lA r.ln r.lc] _ (fun W hW => range_below HRg.out hW hbl) Tryd.underlying40 rfl outInfo) hS ?_
      (repeat (first | simp only [List.getElem_toArray] | simp only [List.getElem_cons_succ] | simp only [List.getElem_cons_zero] | simp only [Act.put] | simp only [List.setIfInBounds_toArray] | simp only [List.set_cons_succ] | simp only [List.set_cons_zero]))
      refine wpAnyH_all (rs := [6]) (by kernel_rfl) (by simp) ?_
      intro m hm
      obtain rfl := List.mem_singleton.1 hm
      refine wpOp_of_list rfl ?_
      (repeat (first | simp only [List.getElem_toArray] | simp only [List.getElem_cons_succ] | simp only [List.getElem_cons_zero]))
      go_wp2_with (first
        | (go_at_call 11; refine HP0.out.mono ?_; rintro e w3 ⟨rfl, hb3⟩; have hS3 : Below wr.heap.size wr w3 := hS.trans (hb3.mono (Nat.le_refl _)); have HS3 := aside hS3; clear hb3 hS3)
        | fail)
      change _ ∧ _
      refine ⟨HS3.out, ?_⟩
      (try dsimp only)
      (repeat (first | simp only [List.getElem_toArray] | simp only [List.getElem_cons_succ] | simp only [List.getElem_cons_zero] | simp only [Act.put] | simp only [List.setIfInBounds_toArray] | simp only [List.set_cons_succ] | simp only [List.set_cons_zero]))
      refine wpAnyH_take (i := 7) (v := ?_) rfl (by kernel_rfl) (by kernel_rfl) (by kernel_rfl) (fun _ _ _ h => h) (Or.inl ⟨by rfl, ?_⟩) HS3.out ?_
      rotate_left
      · (intro W hSw; (try dsimp only at hSw); go_simp; try with_reducible rfl)
      (repeat (first | simp only [List.getElem_toArray] | simp only [List.getElem_cons_succ] | simp only [List.getElem_cons_zero] | simp only [Act.put] | simp only [List.setIfInBounds_toArray] | simp only [List.set_cons_succ] | simp only [List.set_cons_zero]))
      refine wpAnyH_done (by kernel_rfl) ?_ _
      refine NoPanic.normal ?_
      have HB3 : Hid (Below w1.heap.size w1 w3) := aside (HB.out.trans (HS3.out.mono HB.out.size))
      by_cases hE : lockL d 0 = r.pl
      · obtain rfl : V = 0 := HV.out.trans (if_pos hE)
        have hnx2 := HNx.out
        rw [if_pos hE] at hnx2
        have HM2 : Hid (((m + 1 : Nat) : Int) = (cntF (lockL d 0) (cs.take (k + 1)) : Nat)) := aside (by rw [hnx2]; have := HM.out; omega)
        clear hE hnx2 HNx
        go_wp2
        exact ⟨⟨k + 1, m + 1, by omega, by omega, by go_num, by go_num, HM2, HB3⟩, by simp [Go.RowKit.intOf]; omega⟩
      · obtain rfl : V = -1 := HV.out.trans (if_neg hE)
        have hnx2 := HNx.out
        rw [if_neg hE] at hnx2
        have HM2 : Hid ((m : Int) = (cntF (lockL d 0) (cs.take (k + 1)) : Nat)) := aside (by rw [hnx2]; have := HM.out; omega)
        clear hE hnx2 HNx
        go_wp2
        exact ⟨⟨k + 1, m, by omega, by omega, by go_num, rfl, HM2, HB3⟩, by simp [Go.RowKit.intOf]; omega⟩
    · obtain rfl : n = k := by omega
      have i0 : ((n : Int) < (n : Int)) = False := by simp
      have hm := HM.out
      rw [List.take_of_length_le (by have := HL.out; omega)] at hm
      clear hkn
      go_wp2
      go_ret
      exact ⟨by rw [hm]; rfl, B1.out.trans (HB.out.mono B1.out.size)⟩
end Go.Proofs.YtiigggbghgfdoaaDoor
