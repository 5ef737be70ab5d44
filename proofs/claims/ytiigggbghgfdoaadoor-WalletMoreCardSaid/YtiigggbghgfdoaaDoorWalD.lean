/- Are two locks the same: the walks. Conditions: named in each theorem. -/
import Derived.Test.YtiigggbghgfdoaaDoorWalC
namespace Go.Proofs.YtiigggbghgfdoaaDoor
open Go.RowKit Go.ChangeShapes Go.WideShapes Go.ChangeAt

theorem RSl.at_ {w : World} {B n : Nat} {A : Option Addr} {rs : List ROp} (h : RSl w B A n rs) {k : Nat} (hk : k < n) :
    ∃ b off, A = some ⟨b, off, none⟩ ∧ b < B ∧ w.cell? ⟨b, off + k * 3, none⟩ = some (.int .i64 (rs.getD k noR).op) ∧ w.cell? ⟨b, off + k * 3 + 1, none⟩ = some (.int .i64 (rs.getD k noR).n) ∧ w.cell? ⟨b, off + k * 3 + 2, none⟩ = some (.slice (rs.getD k noR).dA (rs.getD k noR).dn (rs.getD k noR).dc) := by
  obtain ⟨b, off, e, hb, hc⟩ := FSl.at_ encR_len (by decide) noR h.cells hk
  exact ⟨b, off, e, hb, hc 0 _ rfl, hc 1 _ rfl, hc 2 _ rfl⟩
theorem RSl.mem {w : World} {B n : Nat} {A : Option Addr} {rs : List ROp} (h : RSl w B A n rs) {k : Nat} (hk : k < n) : rs.getD k noR ∈ rs := by
  have hl := h.len
  rw [List.getD_eq_getElem?_getD, List.getElem?_eq_getElem (by omega)]
  exact List.getElem_mem _
theorem pl_next {rs : List ROp} {k : Nat} (h : k < rs.length) : (rs.take (k + 1)).map ROp.pl = (rs.take k).map ROp.pl ++ [(rs.getD k noR).pl] := by
  rw [List.take_add_one, List.getElem?_eq_getElem h, List.map_append, List.getD_eq_getElem?_getD, List.getElem?_eq_getElem h]
  rfl
theorem pl_at {rs : List ROp} {k : Nat} (h : k < rs.length) : (rs.map ROp.pl)[k]? = some (rs.getD k noR).pl := by
  rw [List.getElem?_map, List.getD_eq_getElem?_getD, List.getElem?_eq_getElem h]
  rfl
set_option maxHeartbeats 20000000 in
set_option maxRecDepth 100000 in
theorem eqf_any (rs rs' : List ROp) (V : Bool) (hV : V = true ↔ rs.map ROp.pl = rs'.map ROp.pl) (A A' : Option Addr) (n c n' c' : Nat) (hn7 : n ≤ 1000) (w : World) (h : RSl w w.heap.size A n rs) (h' : RSl w w.heap.size A' n' rs') :
    Calls Tryd.prog 53 #[.slice A n c, .slice A' n' c', .func (.func 54) #[] #[]] w (fun e w' => e = .returned (.bool V) ∧ Below w.heap.size w w') := by
  have hl := h.len
  have hl' := h'.len
  by_cases hn : n = n'
  · subst hn
    have hnn : ((n : Int) != (n : Int)) = false := by simp
    have HB0 := aside (Below.refl w.heap.size w)
    have HP0 : Hid ((rs.take 0).map ROp.pl = (rs'.take 0).map ROp.pl) := aside rfl
    have H := aside h
    have H' := aside h'
    have HV := aside hV
    have HL := aside hl
    have HL' := aside hl'
    clear h h' hV hl hl'
    go_enter Tryd.func53, Tryd.ntmps53
    go_wp2_with fail
    go_loopw [17] (fun v17 wr => ∃ k : Nat, k ≤ n ∧ v17 = .int .i64 k ∧ Hid (Below w.heap.size w wr) ∧ Hid ((rs.take k).map ROp.pl = (rs'.take k).map ROp.pl)) (fun v17 _ => n - (Go.RowKit.intOf v17).toNat)
    case atStart => exact ⟨0, Nat.zero_le _, rfl, HB0, HP0⟩
    case round =>
      clear HB0 HP0
      obtain ⟨k, hk, rfl, HB, HP⟩ := hrel
      by_cases hkn : k < n
      · have k0 : (k : Int) < (n : Int) := by omega
        have R1 := aside (H.out.below HB.out)
        have R2 := aside (H'.out.below HB.out)
        have hwz := HB.out.size
        obtain ⟨b1, of1, e1, hb1, p0, p1, p2⟩ := R1.out.at_ hkn
        obtain ⟨b2, of2, e2, hb2, q0, q1, q2⟩ := R2.out.at_ hkn
        have hm1 := R1.out.mem hkn
        have hm2 := R2.out.mem hkn
        have hY1 := Sl.more (R1.out.data _ hm1) hwz
        have hY2 := Sl.more (R2.out.data _ hm2) hwz
        have hy1 := R1.out.byt _ hm1
        have hy2 := R2.out.byt _ hm2
        have hn1 := pl_next (rs := rs) (k := k) (by have := HL.out; omega)
        have hn2 := pl_next (rs := rs') (k := k) (by have := HL'.out; omega)
        have ha1 := pl_at (rs := rs) (k := k) (by have := HL.out; omega)
        have ha2 := pl_at (rs := rs') (k := k) (by have := HL'.out; omega)
        generalize rs.getD k noR = r at *
        generalize rs'.getD k noR = r' at *
        obtain ⟨W, hW⟩ : ∃ W : Bool, W = decide (r.pl = r'.pl) := ⟨_, rfl⟩
        have hWi : W = true ↔ r.pl = r'.pl := by rw [hW]; exact decide_eq_true_iff
        have hbb1 : b1 < wr.heap.size := by omega
        have hbb2 : b2 < wr.heap.size := by omega
        have B2 : Hid (Below wr.heap.size wr ((wr.alloc (.cells #[.int .i64 r.op, .int .i64 r.n, .slice r.dA r.dn r.dc] 51)).alloc (.cells #[.int .i64 r'.op, .int .i64 r'.n, .slice r'.dA r'.dn r'.dc] 51))) := aside (((Below.refl _ _).alloc (Nat.le_refl _) _).alloc (by simp) _)
        have HC := aside (same1_any r r' W hWi ((wr.alloc (.cells #[.int .i64 r.op, .int .i64 r.n, .slice r.dA r.dn r.dc] 51)).alloc (.cells #[.int .i64 r'.op, .int .i64 r'.n, .slice r'.dA r'.dn r'.dc] 51)) ((Sl.below hY1 B2.out).more B2.out.size) ((Sl.below hY2 B2.out).more B2.out.size) hy1 hy2)
        have HN1 := aside hn1
        have HN2 := aside hn2
        have HA1 := aside ha1
        have HA2 := aside ha2
        have HW := aside hWi
        subst e1 e2
        clear hY1 hY2 hy1 hy2 hn1 hn2 ha1 ha2 hW hWi hm1 hm2 R1 R2
        go_wp2_with fail
        refine HC.out.mono ?_
        rintro e w3 ⟨rfl, hb3⟩
        have HB3 := aside (HB.out.trans ((B2.out.trans (hb3.mono B2.out.size)).mono hwz))
        clear hb3 HC B2 p0 p1 p2 q0 q1 q2
        cases W with
        | true =>
          have HPn : Hid ((rs.take (k + 1)).map ROp.pl = (rs'.take (k + 1)).map ROp.pl) := aside (by rw [HN1.out, HN2.out, HP.out, HW.out.1 rfl])
          go_wp2
          exact ⟨⟨k + 1, by omega, by go_num, HB3, HPn⟩, by simp [Go.RowKit.intOf]; omega⟩
        | false =>
          have hF : V = false := by
            cases V with
            | false => rfl
            | true =>
              have e9 := HV.out.1 rfl
              have e8 := HA1.out
              rw [e9, HA2.out] at e8
              injection e8 with e8
              exact absurd (HW.out.2 e8.symm) (by simp)
          subst hF
          go_wp2
          go_ret
          exact ⟨rfl, HB3.out⟩
      · obtain rfl : n = k := by omega
        have i0 : ((n : Int) < (n : Int)) = False := by simp
        have hT : V = true := HV.out.2 (by
          have := HP.out
          rwa [← HL.out, List.take_length, HL.out, ← HL'.out, List.take_length] at this)
        subst hT
        clear hkn
        go_wp2
        go_ret
        exact ⟨rfl, HB.out⟩
  · have hnn : ((n : Int) != (n' : Int)) = true := by simp; omega
    have hF : V = false := by
      cases V with
      | false => rfl
      | true => exact absurd (by have := congrArg List.length (hV.1 rfl); simpa [hl, hl'] using this) hn
    subst hF
    clear h h' hV hn hl hl'
    go_enter Tryd.func53, Tryd.ntmps53
    go_wp2
    go_ret
    exact ⟨rfl, Below.refl _ _⟩
/-- Are two locks the same? -/
theorem same_any (rs rs' : List ROp) (V : Bool) (hV : V = true ↔ rs.map ROp.pl = rs'.map ROp.pl) (A A' : Option Addr) (n c n' c' : Nat) (hn7 : n ≤ 1000) (w : World) (h : RSl w w.heap.size A n rs) (h' : RSl w w.heap.size A' n' rs') :
    Calls Tryd.prog 39 #[.slice A n c, .slice A' n' c'] w (fun e w' => e = .returned (.bool V) ∧ Below w.heap.size w w') := by
  have HC := aside (eqf_any rs rs' V hV A A' n c n' c' hn7 w h h')
  clear h h' hV
  go_enter Tryd.func39, Tryd.ntmps39
  go_wp2_with fail
  refine HC.out.mono ?_
  rintro e w3 ⟨rfl, hb3⟩
  have HB3 := aside hb3
  clear hb3
  go_wp2
  go_ret
  exact ⟨rfl, HB3.out⟩
end Go.Proofs.YtiigggbghgfdoaaDoor
