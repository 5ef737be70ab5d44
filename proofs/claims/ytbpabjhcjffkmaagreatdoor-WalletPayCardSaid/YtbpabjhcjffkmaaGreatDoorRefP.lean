/- The reference's comparisons of bytes, and of outs: the walks. Conditions: named in each theorem. The reference's Owner and Own: the walks. Conditions: named in each theorem. -/
import Derived.Test.YtbpabjhcjffkmaaGreatDoorWalH
import Derived.Test.YtbpabjhcjffkmaaGreatDoorDelC
/- The reference's comparisons of bytes, and of outs: the walks. Conditions: named in each theorem. -/
namespace Go.Proofs.YtbpabjhcjffkmaaGreatDoor
open Go.RowKit Go.ChangeShapes Go.WideShapes Go.ChangeAt

set_option maxHeartbeats 8000000 in
set_option maxRecDepth 100000 in
theorem rsame_any (xs ys : List Nat) (V : Bool) (hV : V = true ↔ xs = ys) (A A' : Option Addr) (n c n' c' : Nat) (hn7 : n ≤ 1000) (w : World) (h : YSl w w.heap.size A n xs) (h' : YSl w w.heap.size A' n' ys) :
  Calls Tryz.prog 96 #[.slice A n c, .slice A' n' c'] w (fun e w' => e = .returned (.bool V) ∧ ∃ q, w' = w.drewN q) := by
 have hl := YSl.len1 h
 have hl' := YSl.len1 h'
 by_cases hn : n = n'
 ·subst hn
  have hnn : ((n : Int) != (n : Int)) = false := by simp
  have HV := aside hV
  have HL := aside hl
  have HL' := aside hl'
  have H := aside h
  have H' := aside h'
  clear h h' hl hl' hV
  go_enter Tryz.func96, Tryz.ntmps96
  go_wp2_with fail
  go_loopw [5] (fun v5 wr => ∃ (k q : Nat), k ≤ n ∧ v5 = .int .i64 k ∧ wr = w.drewN q ∧ Hid (xs.take k = ys.take k)) (fun v5 _ => n - (Go.RowKit.intOf v5).toNat)
  case atStart => exact ⟨0, 0, Nat.zero_le _, rfl, rfl, aside rfl⟩
  case round =>
   obtain ⟨k, q, hk, rfl, rfl, HP⟩ := hrel
   by_cases hlt : k < n
   ·obtain ⟨b, o, hAe, hb, hc⟩ := YSl.at1 H.out (by omega)
    obtain ⟨b', o', hAe', hb', hc'⟩ := YSl.at1 H'.out (by omega)
    have ck := hc k hlt
    have ck' := hc' k hlt
    have hi1 : (k : Int) < (n : Int) := by omega
    have hx1 : xs.take (k + 1) = xs.take k ++ [xs.getD k 0] := by rw [List.take_add_one, List.getD_eq_getElem?_getD, List.getElem?_eq_getElem (by have := HL.out; omega)]; rfl
    have hx2 : ys.take (k + 1) = ys.take k ++ [ys.getD k 0] := by rw [List.take_add_one, List.getD_eq_getElem?_getD, List.getElem?_eq_getElem (by have := HL'.out; omega)]; rfl
    have HX1 := aside hx1
    have HX2 := aside hx2
    have hno : xs.getD k 0 ≠ ys.getD k 0 → V = false := fun hne => by
     cases V with
     | false => rfl
     | true => exact absurd (by rw [HV.out.1 rfl]) hne
    generalize xs.getD k 0 = x at ck HX1 hno
    generalize ys.getD k 0 = y at ck' HX2 hno
    subst hAe hAe'
    clear hc hc' hx1 hx2 hb hb'
    by_cases hxy : x = y
    ·subst hxy
     have hq : ((x : Int) != (x : Int)) = false := by simp
     have HPn : Hid (xs.take (k + 1) = ys.take (k + 1)) := aside (by rw [HX1.out, HX2.out, HP.out])
     clear hno
     go_wp2_with fail
     go_quiet (fail)
     go_wp2
     exact ⟨⟨k + 1, _, by omega, by go_num, rfl, HPn⟩, by simp [Go.RowKit.intOf]; omega⟩
    ·have hq : ((x : Int) != (y : Int)) = true := by simp; omega
     obtain rfl := hno hxy
     clear hxy
     go_wp2_with fail
     go_quiet (fail)
     go_wp2
     go_ret
     exact ⟨rfl, _, World.drewN_drewN _ _ _⟩
   ·obtain rfl : n = k := by omega
    have hT : V = true := HV.out.2 (by
     have := HP.out
     rwa [← HL.out, List.take_length, HL.out, ← HL'.out, List.take_length] at this)
    subst hT
    have i0 : ((n : Int) < (n : Int)) = False := by simp
    clear hlt
    go_wp2
    go_ret
    exact ⟨rfl, _, rfl⟩
 ·have hnn : ((n : Int) != (n' : Int)) = true := by simp; omega
  have hF : V = false := by
   cases V with
   | false => rfl
   | true => exact absurd (by have := congrArg List.length (hV.1 rfl); rwa [hl, hl'] at this) hn
  subst hF
  clear h h' hV hn hl hl'
  go_enter Tryz.func96, Tryz.ntmps96
  go_wp2
  go_ret
  exact ⟨rfl, 0, rfl⟩
theorem quiet_add {P : Program} {f : FuncId} {args : Array Value} {w : World} {a n : Nat} {v : Value}
  (h : Calls P f args (w.drewN (a + n)) fun e w' => e = .returned v ∧ ∃ m, w' = (w.drewN (a + n)).drewN m) :
  Calls P f args (w.drewN (a + n)) fun e w'' => e = .returned v ∧ ∃ m, w'' = w.drewN (a + m) :=
 h.mono fun _ _ ⟨he, m, hm⟩ => ⟨he, n + m, by rw [hm, World.drewN_drewN, Nat.add_assoc]⟩
set_option maxHeartbeats 20000000 in
set_option maxRecDepth 100000 in
theorem rsout_any (a a' : Int) (rs rs' : List ROp) (V : Bool) (hV : V = true ↔ a = a' ∧ rs.map ROp.pl = rs'.map ROp.pl) (A A' : Option Addr) (n c n' c' : Nat) (hn7 : n ≤ 1000) (w : World) (h : RSl w w.heap.size A n rs) (h' : RSl w w.heap.size A' n' rs') (hd7 : ∀ r ∈ rs, r.dn ≤ 1000) :
  Calls Tryz.prog 50 #[.agg #[.int .i64 a, .slice A n c], .agg #[.int .i64 a', .slice A' n' c']] w (fun e w' => e = .returned (.bool V) ∧ Below w.heap.size w w') := by
 have hl := h.len
 have hl' := h'.len
 have B1 : Hid (Below w.heap.size w ((w.alloc (.cells #[.int .i64 a, .slice A n c] 27)).alloc (.cells #[.int .i64 a', .slice A' n' c'] 27))) := aside (((Below.refl _ _).alloc (Nat.le_refl _) _).alloc (by simp) _)
 by_cases ha : a = a'
 ·subst ha
  have haa : (a != a) = false := by simp
  by_cases hn : n = n'
  ·subst hn
   have hnn : ((n : Int) != (n : Int)) = false := by simp
   have HP0 : Hid ((rs.take 0).map ROp.pl = (rs'.take 0).map ROp.pl) := aside rfl
   have D0 : ((w.alloc (.cells #[.int .i64 a, .slice A n c] 27)).alloc (.cells #[.int .i64 a, .slice A' n c'] 27)).cell? ⟨w.heap.size, 1, none⟩ = some (.slice A n c) := by
    rw [cell_of_row _ _ 1 _ _ _ ((Below.heap_alloc _ _ _ (by simp)).trans (heap_alloc_new w _))]
    rfl
   have D1 : ((w.alloc (.cells #[.int .i64 a, .slice A n c] 27)).alloc (.cells #[.int .i64 a, .slice A' n c'] 27)).cell? ⟨w.heap.size + 1, 1, none⟩ = some (.slice A' n c') := by
    have h9 := heap_alloc_new (w.alloc (.cells #[.int .i64 a, .slice A n c] 27)) (.cells #[.int .i64 a, .slice A' n c'] 27)
    rw [show (w.alloc (.cells #[.int .i64 a, .slice A n c] 27)).heap.size = w.heap.size + 1 by simp] at h9
    rw [cell_of_row _ _ 1 _ _ _ h9]
    rfl
   have HV := aside hV
   have HL := aside hl
   have HL' := aside hl'
   have HD7 := aside hd7
   have H := aside (h.below B1.out)
   have H' := aside (h'.below B1.out)
   clear h h' hV hl hl' hd7
   go_enter Tryz.func50, Tryz.ntmps50
   go_wp2_with fail
   change Code.wp _ _ _ _ ((w.alloc (.cells #[.int .i64 a, .slice A n c] 27)).alloc (.cells #[.int .i64 a, .slice A' n c'] 27))
   generalize ((w.alloc (.cells #[.int .i64 a, .slice A n c] 27)).alloc (.cells #[.int .i64 a, .slice A' n c'] 27)) = w1 at B1 D0 D1 H H' ⊢
   obtain ⟨B0, hB0⟩ : ∃ B0, B0 = w.heap.size := ⟨_, rfl⟩
   have hsz1 := B1.out.size
   simp only [← hB0] at D0 D1 ⊢
   clear hB0
   go_loopw [5] (fun v5 wr => ∃ (k q : Nat), k ≤ n ∧ v5 = .int .i64 k ∧ wr = w1.drewN q ∧ Hid ((rs.take k).map ROp.pl = (rs'.take k).map ROp.pl)) (fun v5 _ => n - (Go.RowKit.intOf v5).toNat)
   case atStart => exact ⟨0, 0, Nat.zero_le _, rfl, rfl, HP0⟩
   case round =>
    clear HP0
    obtain ⟨k, q, hk, rfl, rfl, HP⟩ := hrel
    by_cases hkn : k < n
    ·have k0 : (k : Int) < (n : Int) := by omega
     obtain ⟨b1, of1, e1, hb1, p0, p1, p2⟩ := H.out.at_ hkn
     obtain ⟨b2, of2, e2, hb2, q0, q1, q2⟩ := H'.out.at_ hkn
     have hm1 := H.out.mem hkn
     have hm2 := H'.out.mem hkn
     have hY1 := Sl.more (H.out.data _ hm1) hsz1
     have hY2 := Sl.more (H'.out.data _ hm2) hsz1
     have hdn := HD7.out _ hm1
     have hn1 := pl_next (rs := rs) (k := k) (by have := HL.out; omega)
     have hn2 := pl_next (rs := rs') (k := k) (by have := HL'.out; omega)
     have ha1 := pl_at (rs := rs) (k := k) (by have := HL.out; omega)
     have ha2 := pl_at (rs := rs') (k := k) (by have := HL'.out; omega)
     generalize rs.getD k noR = r at *
     generalize rs'.getD k noR = r' at *
     obtain ⟨W, hW⟩ : ∃ W : Bool, W = decide (r.data = r'.data) := ⟨_, rfl⟩
     have hWi : W = true ↔ r.data = r'.data := by rw [hW]; exact decide_eq_true_iff
     have HC := aside (fun q => rsame_any r.data r'.data W hWi r.dA r'.dA r.dn r.dc r'.dn r'.dc hdn (w1.drewN q) (Sl.drewN hY1 q) (Sl.drewN hY2 q))
     have HN1 := aside hn1
     have HN2 := aside hn2
     have HW := aside hWi
     have hno : r.pl ≠ r'.pl → V = false := fun hne => by
      cases V with
      | false => rfl
      | true =>
       have e9 := (HV.out.1 rfl).2
       rw [e9, ha2] at ha1
       injection ha1 with ha1
       exact absurd ha1.symm hne
     have HNo := aside hno
     have hbz1 : b1 < w1.heap.size := by omega
     have hbz2 : b2 < w1.heap.size := by omega
     subst e1 e2
     clear hY1 hY2 hn1 hn2 ha1 ha2 hW hWi hm1 hm2 hno hkn
     by_cases ho : r.op = r'.op
     ·have hoo : (r.op != r'.op) = false := by simp [ho]
      by_cases hnq : r.n = r'.n
      ·have hnq2 : (r.n != r'.n) = false := by simp [hnq]
       cases W with
       | false =>
        have hF : V = false := HNo.out (fun h => absurd (HW.out.2 (by unfold ROp.pl at h; simpa using (Prod.mk.inj (Prod.mk.inj h).2).2)) (by simp))
        subst hF
        clear ho hnq
        go_wp2_with fail
        go_quiet (first | (go_at_call 96; exact quiet_add (HC.out _)))
        go_wp2
        go_ret
        exact ⟨rfl, by first | exact below_drawn B1.out _ | exact below_drawn (below_drawn B1.out _) _⟩
       | true =>
        have HPn : Hid ((rs.take (k + 1)).map ROp.pl = (rs'.take (k + 1)).map ROp.pl) := aside (by
         rw [HN1.out, HN2.out, HP.out]
         congr 2
         unfold ROp.pl
         rw [ho, hnq, HW.out.1 rfl])
        clear ho hnq
        go_wp2_with fail
        go_quiet (first | (go_at_call 96; exact quiet_add (HC.out _)))
        go_wp2
        exact ⟨⟨k + 1, _, by omega, by go_num, rfl, HPn⟩, by simp [Go.RowKit.intOf]; omega⟩
      ·have hnq2 : (r.n != r'.n) = true := by simp [hnq]
       have hF : V = false := HNo.out (fun h => hnq (by unfold ROp.pl at h; simpa using (Prod.mk.inj (Prod.mk.inj h).2).1))
       subst hF
       clear ho hnq
       go_wp2_with fail
       go_quiet (fail)
       go_wp2
       go_ret
       exact ⟨rfl, by first | exact below_drawn B1.out _ | exact below_drawn (below_drawn B1.out _) _⟩
     ·have hoo : (r.op != r'.op) = true := by simp [ho]
      have hF : V = false := HNo.out (fun h => ho (by unfold ROp.pl at h; exact (Prod.mk.inj h).1))
      subst hF
      clear ho
      go_wp2_with fail
      go_quiet (fail)
      go_wp2
      go_ret
      exact ⟨rfl, by first | exact below_drawn B1.out _ | exact below_drawn (below_drawn B1.out _) _⟩
    ·obtain rfl : n = k := by omega
     have i0 : ((n : Int) < (n : Int)) = False := by simp
     have hT : V = true := HV.out.2 ⟨by first | rfl | trivial, by
      have := HP.out
      rwa [← HL.out, List.take_length, HL.out, ← HL'.out, List.take_length] at this⟩
     subst hT
     clear hkn
     go_wp2
     go_ret
     exact ⟨rfl, by first | exact below_drawn B1.out _ | exact below_drawn (below_drawn B1.out _) _⟩
  ·have hnn : ((n : Int) != (n' : Int)) = true := by simp; omega
   have hF : V = false := by
    cases V with
    | false => rfl
    | true => exact absurd (by have := congrArg List.length (hV.1 rfl).2; simpa [hl, hl'] using this) hn
   subst hF
   clear h h' hV hn hl hl'
   go_enter Tryz.func50, Tryz.ntmps50
   go_wp2
   go_ret
   exact ⟨rfl, B1.out⟩
 ·have haa : (a != a') = true := by simp [ha]
  have hF : V = false := by
   cases V with
   | false => rfl
   | true => exact absurd (hV.1 rfl).1 ha
  subst hF
  clear h h' hV ha hl hl'
  go_enter Tryz.func50, Tryz.ntmps50
  go_wp2
  go_ret
  exact ⟨rfl, B1.out⟩
end Go.Proofs.YtbpabjhcjffkmaaGreatDoor

/- The reference's Owner and Own: the walks. Conditions: named in each theorem. -/
namespace Go.Proofs.YtbpabjhcjffkmaaGreatDoor
open Go.RowKit Go.ChangeShapes Go.WideShapes Go.ChangeAt

set_option maxHeartbeats 20000000 in
set_option maxRecDepth 100000 in
theorem qowner_any (ls : List Lk) (os : List ROp) (a : Int) (A oA : Option Addr) (N c on oc : Nat) (hN : N ≤ 100) (w : World) (h : Sl w w.heap.size 1 A N (ls.map lkV)) (hl : ∀ l ∈ ls, RSl w w.heap.size l.1 2 l.2) (hd : ∀ l ∈ ls, ∀ r ∈ l.2, r.dn ≤ 1000) (ho : RSl w w.heap.size oA on os) :
  Calls Tryz.prog 24 #[.slice A N c, .agg #[.int .i64 a, .slice oA on oc]] w (fun e w' => e = .returned (.int .i64 (ownF (ls.map lkP) 0 (os.map ROp.pl))) ∧ Below w.heap.size w w') := by
 have hll : ls.length = N := by have := h.len; simpa using this
 obtain ⟨R, hR⟩ : ∃ R, R = ownF (ls.map lkP) 0 (os.map ROp.pl) := ⟨_, rfl⟩
 rw [← hR]
 have HR : Hid (R = ownF ((ls.drop 0).map lkP) ((0 : Nat) : Int) (os.map ROp.pl)) := aside hR
 have B1 : Hid (Below w.heap.size w (w.alloc (.cells #[.int .i64 a, .slice oA on oc] 27))) := aside ((Below.refl _ _).alloc (Nat.le_refl _) _)
 have D0 : Hid ((w.alloc (.cells #[.int .i64 a, .slice oA on oc] 27)).cell? ⟨w.heap.size, 0, none⟩ = some (.int .i64 a) ∧ (w.alloc (.cells #[.int .i64 a, .slice oA on oc] 27)).cell? ⟨w.heap.size, 1, none⟩ = some (.slice oA on oc)) := aside ⟨by
  rw [cell_of_row _ _ 0 _ _ _ (heap_alloc_new w _)]
  rfl, by
  rw [cell_of_row _ _ 1 _ _ _ (heap_alloc_new w _)]
  rfl⟩
 have Z1 : Hid (w.heap.size < (w.alloc (.cells #[.int .i64 a, .slice oA on oc] 27)).heap.size) := aside (by simp)
 have H := aside h
 have HL := aside hl
 have HO := aside ho
 have HD := aside hd
 have HLl := aside hll
 clear h hl ho hll hR hd
 go_enter Tryz.func24, Tryz.ntmps24
 go_wp2_with fail
 change Code.wp _ _ _ _ (w.alloc (.cells #[.int .i64 a, .slice oA on oc] 27))
 generalize (w.alloc (.cells #[.int .i64 a, .slice oA on oc] 27)) = w1 at B1 D0 Z1 ⊢
 obtain ⟨B0, hB0⟩ : ∃ B0, B0 = w.heap.size := ⟨_, rfl⟩
 simp only [← hB0] at D0 Z1 ⊢
 clear hB0
 have HB := aside (Below.refl w1.heap.size w1)
 go_loopw [5] (fun v5 wr => ∃ k : Nat, k ≤ N ∧ v5 = .int .i64 k ∧ Hid (Below w1.heap.size w1 wr) ∧ Hid (R = ownF ((ls.drop k).map lkP) k (os.map ROp.pl))) (fun v5 _ => N - (Go.RowKit.intOf v5).toNat)
 case atStart => exact ⟨0, Nat.zero_le _, rfl, HB, HR⟩
 case round =>
  clear HB HR
  obtain ⟨k, hk, rfl, HB1, HR⟩ := hrel
  have HB : Hid (Below w.heap.size w wr) := aside (B1.out.trans (HB1.out.mono B1.out.size))
  by_cases hkn : k < N
  ·have k0 : (k : Int) < (N : Int) := by omega
   have hwz := HB.out.size
   obtain ⟨hmem, hdr⟩ := lk_at (ls := ls) (k := k) (by have := HLl.out; omega)
   obtain ⟨b, of, hAe, hbl, hc⟩ := (Sl.below H.out HB.out).cells (by omega)
   have hck := hc k (lkV (ls.getD k (none, []))) (by
    rw [List.getElem?_map, List.getD_eq_getElem?_getD, List.getElem?_eq_getElem (by have := HLl.out; omega)]
    rfl)
   have hRl := ((HL.out _ hmem).below HB.out).more hwz
   have hRo := (HO.out.below HB.out).more hwz
   have hRd := HD.out _ hmem
   have c0 := (HB1.out.cell (p := ⟨B0, 0, none⟩) Z1.out).trans D0.out.1
   have c1 := (HB1.out.cell (p := ⟨B0, 1, none⟩) Z1.out).trans D0.out.2
   generalize ls.getD k (none, []) = l at *
   obtain ⟨lA, lr⟩ := l
   unfold lkV at hck
   dsimp only at hck
   obtain ⟨W, hW⟩ : ∃ W : Bool, W = decide (lr.map ROp.pl = os.map ROp.pl) := ⟨_, rfl⟩
   have hWi : W = true ↔ lr.map ROp.pl = os.map ROp.pl := by rw [hW]; exact decide_eq_true_iff
   have HC := aside (rsout_any a a lr os W (by rw [hWi]; simp) lA oA 2 2 on oc (by decide) (wr.drewN 1) (hRl.drewN 1) (hRo.drewN 1) hRd)
   have hRn := HR.out
   rw [hdr, List.map_cons] at hRn
   have hRn2 : R = if lr.map ROp.pl = os.map ROp.pl then (k : Int) else ownF ((ls.drop (k + 1)).map lkP) ((k : Int) + 1) (os.map ROp.pl) := hRn
   have HRn := aside hRn2
   have HW := aside hWi
   subst hAe
   have HS0 : wr.drew.cell? ⟨B0, 0, none⟩ = some (.int .i64 a) ∧ wr.drew.cell? ⟨B0, 1, none⟩ = some (.slice oA on oc) ∧ wr.drew.cell? ⟨b, of + k, none⟩ = some (.slice lA 2 2) := ⟨c0, c1, hck⟩
   have l0 : B0 < wr.heap.size := Nat.lt_of_lt_of_le Z1.out HB1.out.size
   have l1 : b < wr.heap.size := by omega
   clear hW hWi hRl hRo hmem hdr hc hRn hRn2 hbl hkn hRd
   go_wp2_with fail
   go_region_held3 (fun X => X.cell? ⟨B0, 0, none⟩ = some (.int .i64 a) ∧ X.cell? ⟨B0, 1, none⟩ = some (.slice oA on oc) ∧ X.cell? ⟨b, of + k, none⟩ = some (.slice lA 2 2))
    (first | (with_reducible exact HS0) | (refine ⟨?_, ?_, ?_⟩ <;> assumption))
    (first | (go_at_call 50; refine HC.out.mono ?_; rintro e w3 ⟨rfl, hb3⟩; have hs1 := (hb3.cell (p := ⟨B0, 0, none⟩) l0).trans c0; have hs2 := (hb3.cell (p := ⟨B0, 1, none⟩) l0).trans c1; have hs3 := (hb3.cell (p := ⟨b, of + k, none⟩) l1).trans hck))
   have HB3 : Hid (Below w1.heap.size w1 w3) := aside (HB1.out.trans (((below_drawn (Below.refl wr.heap.size wr) 1).trans hb3).mono HB1.out.size))
   have HBw : Hid (Below w.heap.size w w3) := aside (B1.out.trans (HB3.out.mono B1.out.size))
   clear hb3 HC hck hs1 hs2 hs3 HS0 c0 c1
   cases W with
   | true =>
    have hRk : R = (k : Int) := HRn.out.trans (if_pos (HW.out.1 rfl))
    subst hRk
    go_wp2
    go_ret
    exact ⟨rfl, HBw.out⟩
   | false =>
    have HR2 : Hid (R = ownF ((ls.drop (k + 1)).map lkP) ((k + 1 : Nat) : Int) (os.map ROp.pl)) := aside (HRn.out.trans (if_neg (fun h => absurd (HW.out.2 h) (by simp))))
    go_wp2
    exact ⟨⟨k + 1, by omega, by go_num, HB3, HR2⟩, by simp [Go.RowKit.intOf]; omega⟩
  ·obtain rfl : N = k := by omega
   have i0 : ((N : Int) < (N : Int)) = False := by simp
   have hRk : R = -1 := by
    rw [HR.out, List.drop_of_length_le (by have := HLl.out; omega)]
    rfl
   subst hRk
   go_wp2
   go_ret
   exact ⟨rfl, HB.out⟩
theorem filt_one {α : Type} (p : α → Bool) (x : α) : [x].filter p = if p x then [x] else [] := by
 cases h : p x <;> simp [h]
end Go.Proofs.YtbpabjhcjffkmaaGreatDoor
