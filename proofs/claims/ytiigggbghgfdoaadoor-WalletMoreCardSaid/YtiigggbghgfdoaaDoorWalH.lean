/- moneyerlaw4.mine is true; moneyersame.Bytes and moneyersame.Lock: the walks. Conditions: named in each theorem. -/
import Derived.Test.YtiigggbghgfdoaaDoorWalG
import Derived.Deep.QuietTactic
import Derived.BigQuiet
namespace Go.Proofs.YtiigggbghgfdoaaDoor
open Go.RowKit Go.ChangeShapes Go.WideShapes Go.ChangeAt

def zeroD : List Nat := List.replicate 32 0
theorem zeroD_len : zeroD.length = 32 := by decide
theorem zeroD_small : ∀ x ∈ zeroD, x < 256 := by decide
theorem own_one (d : List Nat) (o : List POp) : ownF ((List.range (1 : Int).toNat).map (lockL d)) 0 o = if lockL d 0 = o then 0 else -1 := rfl
set_option maxHeartbeats 8000000 in
set_option maxRecDepth 100000 in
theorem mine_any (w : World) (hg : RoundsAt w) : Calls Tryd.prog 5 #[] w (fun e w' => e = .returned (.bool true) ∧ Below w.heap.size w w') := by
  have HG := aside hg
  clear hg
  go_enter Tryd.func5, Tryd.ntmps5
  go_wp2_with fail
  refine (show Calls _ _ #[digV zeroD, .int .i64 ((0 : Nat) : Int)] _ _ from lock_any zeroD zeroD_len zeroD_small 0 (by omega) w HG.out).mono ?_
  rintro e w2 ⟨A, rs, rfl, hdep, hpl, hb2⟩
  have HR2 := aside (hdep w2 (fun _ _ _ => rfl) (Nat.le_refl _))
  have HB2 := aside hb2
  have HPl := aside hpl
  clear hdep hb2 hpl
  have HC1 := aside (Owns_any zeroD zeroD_len zeroD_small 1 (by omega) rs 0 A 2 2 w2 HR2.out (HG.out.below HB2.out))
  rw [own_one, HPl.out, if_pos rfl] at HC1
  go_wp2_with fail
  refine (show Calls _ _ #[digV zeroD, .int .i64 1, .agg #[.int .i64 0, .slice A 2 2]] _ _ from HC1.out).mono ?_
  rintro e w3 ⟨rfl, hb3⟩
  have HB3 := aside (HB2.out.trans (hb3.mono HB2.out.size))
  clear hb3
  have HC2 := aside (Owns_any zeroD zeroD_len zeroD_small 1 (by omega) [] 0 none 0 0 w3 RSl.nil_ (HG.out.below HB3.out))
  rw [own_one, if_neg (by unfold lockL; simp)] at HC2
  go_wp2_with fail
  refine (show Calls _ _ #[digV zeroD, .int .i64 1, .agg #[.int .i64 0, .slice none 0 0]] _ _ from HC2.out).mono ?_
  rintro e w4 ⟨rfl, hb4⟩
  have HB4 := aside (HB3.out.trans (hb4.mono HB3.out.size))
  clear hb4
  go_wp2
  go_ret
  exact ⟨rfl, HB4.out⟩
set_option maxHeartbeats 8000000 in
set_option maxRecDepth 100000 in
theorem sbytes_any (xs ys : List Nat) (V : Bool) (hV : V = true ↔ xs = ys) (A A' : Option Addr) (n c n' c' : Nat) (hn7 : n ≤ 1000) (w : World) (h : YSl w w.heap.size A n xs) (h' : YSl w w.heap.size A' n' ys) :
    Calls Tryd.prog 15 #[.slice A n c, .slice A' n' c'] w (fun e w' => e = .returned (.bool V) ∧ Below w.heap.size w w') := by
  have hl := YSl.len1 h
  have hl' := YSl.len1 h'
  by_cases hn : n = n'
  · subst hn
    have hnn : ((n : Int) != (n : Int)) = false := by simp
    have HV := aside hV
    have HL := aside hl
    have HL' := aside hl'
    have H := aside h
    have H' := aside h'
    clear h h' hl hl' hV
    go_enter Tryd.func15, Tryd.ntmps15
    go_wp2_with fail
    go_loopw [5] (fun v5 wr => ∃ (k q : Nat), k ≤ n ∧ v5 = .int .i64 k ∧ wr = w.drewN q ∧ Hid (xs.take k = ys.take k)) (fun v5 _ => n - (Go.RowKit.intOf v5).toNat)
    case atStart => exact ⟨0, 0, Nat.zero_le _, rfl, rfl, aside rfl⟩
    case round =>
      obtain ⟨k, q, hk, rfl, rfl, HP⟩ := hrel
      by_cases hlt : k < n
      · obtain ⟨b, o, hAe, hb, hc⟩ := YSl.at1 H.out (by omega)
        obtain ⟨b', o', hAe', hb', hc'⟩ := YSl.at1 H'.out (by omega)
        have ck := hc k hlt
        have ck' := hc' k hlt
        have hi1 : (k : Int) < (n : Int) := by omega
        have hx1 : xs.take (k + 1) = xs.take k ++ [xs.getD k 0] := by rw [List.take_add_one, List.getD_eq_getElem?_getD, List.getElem?_eq_getElem (by have := HL.out; omega)]; rfl
        have hx2 : ys.take (k + 1) = ys.take k ++ [ys.getD k 0] := by rw [List.take_add_one, List.getD_eq_getElem?_getD, List.getElem?_eq_getElem (by have := HL'.out; omega)]; rfl
        have HX1 := aside hx1
        have HX2 := aside hx2
        have hno : xs.getD k 0 ≠ ys.getD k 0 → V = false := fun hne => by
          cases V with
          | false => rfl
          | true => exact absurd (by rw [HV.out.1 rfl]) hne
        generalize xs.getD k 0 = x at ck HX1 hno
        generalize ys.getD k 0 = y at ck' HX2 hno
        subst hAe hAe'
        clear hc hc' hx1 hx2 hb hb'
        by_cases hxy : x = y
        · subst hxy
          have hq : ((x : Int) != (x : Int)) = false := by simp
          have HPn : Hid (xs.take (k + 1) = ys.take (k + 1)) := aside (by rw [HX1.out, HX2.out, HP.out])
          clear hno
          go_wp2_with fail
          go_quiet (fail)
          go_wp2
          exact ⟨⟨k + 1, _, by omega, by go_num, rfl, HPn⟩, by simp [Go.RowKit.intOf]; omega⟩
        · have hq : ((x : Int) != (y : Int)) = true := by simp; omega
          obtain rfl := hno hxy
          clear hxy
          go_wp2_with fail
          go_quiet (fail)
          go_wp2
          go_ret
          exact ⟨rfl, below_drawn (below_drawn (Below.refl _ _) _) _⟩
      · obtain rfl : n = k := by omega
        have hT : V = true := HV.out.2 (by
          have := HP.out
          rwa [← HL.out, List.take_length, HL.out, ← HL'.out, List.take_length] at this)
        subst hT
        have i0 : ((n : Int) < (n : Int)) = False := by simp
        clear hlt
        go_wp2
        go_ret
        exact ⟨rfl, below_drawn (Below.refl _ _) _⟩
  · have hnn : ((n : Int) != (n' : Int)) = true := by simp; omega
    have hF : V = false := by
      cases V with
      | false => rfl
      | true => exact absurd (by have := congrArg List.length (hV.1 rfl); rwa [hl, hl'] at this) hn
    subst hF
    clear h h' hV hn hl hl'
    go_enter Tryd.func15, Tryd.ntmps15
    go_wp2
    go_ret
    exact ⟨rfl, Below.refl _ _⟩
set_option maxHeartbeats 20000000 in
set_option maxRecDepth 100000 in
theorem slock_any (rs rs' : List ROp) (V : Bool) (hV : V = true ↔ rs.map ROp.pl = rs'.map ROp.pl) (A A' : Option Addr) (n c n' c' : Nat) (hn7 : n ≤ 1000) (w : World) (h : RSl w w.heap.size A n rs) (h' : RSl w w.heap.size A' n' rs') (hd7 : ∀ r ∈ rs, r.dn ≤ 1000) :
    Calls Tryd.prog 7 #[.slice A n c, .slice A' n' c'] w (fun e w' => e = .returned (.bool V) ∧ Below w.heap.size w w') := by
  have hl := h.len
  have hl' := h'.len
  by_cases hn : n = n'
  · subst hn
    have hnn : ((n : Int) != (n : Int)) = false := by simp
    have HB0 := aside (Below.refl w.heap.size w)
    have HP0 : Hid ((rs.take 0).map ROp.pl = (rs'.take 0).map ROp.pl) := aside rfl
    have H := aside h
    have H' := aside h'
    have HV := aside hV
    have HL := aside hl
    have HL' := aside hl'
    have HD7 := aside hd7
    clear h h' hV hl hl' hd7
    go_enter Tryd.func7, Tryd.ntmps7
    go_wp2_with fail
    go_loopw [5] (fun v5 wr => ∃ k : Nat, k ≤ n ∧ v5 = .int .i64 k ∧ Hid (Below w.heap.size w wr) ∧ Hid ((rs.take k).map ROp.pl = (rs'.take k).map ROp.pl)) (fun v5 _ => n - (Go.RowKit.intOf v5).toNat)
    case atStart => exact ⟨0, Nat.zero_le _, rfl, HB0, HP0⟩
    case round =>
      clear HB0 HP0
      obtain ⟨k, hk, rfl, HB, HP⟩ := hrel
      by_cases hkn : k < n
      · have k0 : (k : Int) < (n : Int) := by omega
        have R1 := aside (H.out.below HB.out)
        have R2 := aside (H'.out.below HB.out)
        have hwz := HB.out.size
        obtain ⟨b1, of1, e1, hb1, p0, p1, p2⟩ := R1.out.at_ hkn
        obtain ⟨b2, of2, e2, hb2, q0, q1, q2⟩ := R2.out.at_ hkn
        have hm1 := R1.out.mem hkn
        have hm2 := R2.out.mem hkn
        have hY1 := Sl.more (R1.out.data _ hm1) hwz
        have hY2 := Sl.more (R2.out.data _ hm2) hwz
        have hdn := HD7.out _ hm1
        have hn1 := pl_next (rs := rs) (k := k) (by have := HL.out; omega)
        have hn2 := pl_next (rs := rs') (k := k) (by have := HL'.out; omega)
        have ha1 := pl_at (rs := rs) (k := k) (by have := HL.out; omega)
        have ha2 := pl_at (rs := rs') (k := k) (by have := HL'.out; omega)
        generalize rs.getD k noR = r at *
        generalize rs'.getD k noR = r' at *
        obtain ⟨W, hW⟩ : ∃ W : Bool, W = decide (r.data = r'.data) := ⟨_, rfl⟩
        have hWi : W = true ↔ r.data = r'.data := by rw [hW]; exact decide_eq_true_iff
        have HC := aside (fun q => sbytes_any r.data r'.data W hWi r.dA r'.dA r.dn r.dc r'.dn r'.dc hdn (wr.drewN q) (Sl.drewN hY1 q) (Sl.drewN hY2 q))
        have HN1 := aside hn1
        have HN2 := aside hn2
        have HW := aside hWi
        have hno : r.pl ≠ r'.pl → V = false := fun hne => by
          cases V with
          | false => rfl
          | true =>
            have e9 := HV.out.1 rfl
            rw [e9, ha2] at ha1
            injection ha1 with ha1
            exact absurd ha1.symm hne
        have HNo := aside hno
        have HS0 : wr.drew.cell? ⟨b1, of1 + k * 3 + 2, none⟩ = some (.slice r.dA r.dn r.dc) ∧ wr.drew.cell? ⟨b2, of2 + k * 3 + 2, none⟩ = some (.slice r'.dA r'.dn r'.dc) := ⟨p2, q2⟩
        have hbz1 : b1 < wr.heap.size := by omega
        have hbz2 : b2 < wr.heap.size := by omega
        subst e1 e2
        clear hY1 hY2 hn1 hn2 ha1 ha2 hW hWi hm1 hm2 R1 R2 hno hkn
        go_wp2_with fail
        go_region_held3 (fun X => X.cell? ⟨b1, of1 + k * 3 + 2, none⟩ = some (.slice r.dA r.dn r.dc) ∧ X.cell? ⟨b2, of2 + k * 3 + 2, none⟩ = some (.slice r'.dA r'.dn r'.dc))
          (first | (with_reducible exact HS0) | (constructor <;> assumption))
          (first | (go_at_call 15; refine (HC.out 1).mono ?_; rintro e w3 ⟨rfl, hb3⟩; have hs1 := (hb3.cell (p := ⟨b1, of1 + k * 3 + 2, none⟩) hbz1).trans p2; have hs2 := (hb3.cell (p := ⟨b2, of2 + k * 3 + 2, none⟩) hbz2).trans q2))
        have HB3 : Hid (Below wr.heap.size wr w3) := aside ((below_drawn (Below.refl wr.heap.size wr) 1).trans hb3)
        have HBw : Hid (Below w.heap.size w w3) := aside (HB.out.trans (HB3.out.mono hwz))
        have t0 := (HB3.out.cell (p := ⟨b1, of1 + k * 3, none⟩) hbz1).trans p0
        have t1 := (HB3.out.cell (p := ⟨b1, of1 + k * 3 + 1, none⟩) hbz1).trans p1
        have u0 := (HB3.out.cell (p := ⟨b2, of2 + k * 3, none⟩) hbz2).trans q0
        have u1 := (HB3.out.cell (p := ⟨b2, of2 + k * 3 + 1, none⟩) hbz2).trans q1
        clear hb3 hs1 hs2 p0 p1 p2 q0 q1 q2 HS0
        cases W with
        | false =>
          have hF : V = false := HNo.out (fun h => absurd (HW.out.2 (by unfold ROp.pl at h; simpa using (Prod.mk.inj (Prod.mk.inj h).2).2)) (by simp))
          subst hF
          go_wp2_with fail
          go_quiet (fail)
          go_wp2
          go_ret
          exact ⟨rfl, below_drawn HBw.out _⟩
        | true =>
          by_cases ho : r.op = r'.op
          · have hoo : (r.op != r'.op) = false := by simp [ho]
            by_cases hnq : r.n = r'.n
            · have hnq2 : (r.n != r'.n) = false := by simp [hnq]
              have HPn : Hid ((rs.take (k + 1)).map ROp.pl = (rs'.take (k + 1)).map ROp.pl) := aside (by
                rw [HN1.out, HN2.out, HP.out]
                congr 2
                unfold ROp.pl
                rw [ho, hnq, HW.out.1 rfl])
              clear ho hnq
              go_wp2_with fail
              go_quiet (fail)
              go_wp2
              exact ⟨⟨k + 1, by omega, by go_num, aside (below_drawn HBw.out _), HPn⟩, by simp [Go.RowKit.intOf]; omega⟩
            · have hnq2 : (r.n != r'.n) = true := by simp [hnq]
              have hF : V = false := HNo.out (fun h => hnq (by unfold ROp.pl at h; simpa using (Prod.mk.inj (Prod.mk.inj h).2).1))
              subst hF
              clear ho hnq
              go_wp2_with fail
              go_quiet (fail)
              go_wp2
              go_ret
              exact ⟨rfl, below_drawn HBw.out _⟩
          · have hoo : (r.op != r'.op) = true := by simp [ho]
            have hF : V = false := HNo.out (fun h => ho (by unfold ROp.pl at h; exact (Prod.mk.inj h).1))
            subst hF
            clear ho
            go_wp2_with fail
            go_quiet (fail)
            go_wp2
            go_ret
            exact ⟨rfl, below_drawn HBw.out _⟩
      · obtain rfl : n = k := by omega
        have i0 : ((n : Int) < (n : Int)) = False := by simp
        have hT : V = true := HV.out.2 (by
          have := HP.out
          rwa [← HL.out, List.take_length, HL.out, ← HL'.out, List.take_length] at this)
        subst hT
        clear hkn
        go_wp2
        go_ret
        exact ⟨rfl, HB.out⟩
  · have hnn : ((n : Int) != (n' : Int)) = true := by simp; omega
    have hF : V = false := by
      cases V with
      | false => rfl
      | true => exact absurd (by have := congrArg List.length (hV.1 rfl); simpa [hl, hl'] using this) hn
    subst hF
    clear h h' hV hn hl hl'
    go_enter Tryd.func7, Tryd.ntmps7
    go_wp2
    go_ret
    exact ⟨rfl, Below.refl _ _⟩
end Go.Proofs.YtiigggbghgfdoaaDoor
