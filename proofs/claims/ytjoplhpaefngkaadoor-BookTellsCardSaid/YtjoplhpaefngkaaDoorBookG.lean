/- Written: a list of lines with one more written. Conditions: named in each theorem. -/
import Derived.Test.YtjoplhpaefngkaaDoorBookF
namespace Go.Proofs.YtjoplhpaefngkaaDoor
open Go.RowKit Go.ChangeShapes Go.WideShapes Go.ChangeAt

theorem below_drawn {B : Nat} {a w : World} (h : Below B a w) (n : Nat) : Below B a (w.drewN n) := ⟨h.os, h.tape, h.output, h.size, h.block⟩
theorem quiet_add {P : Program} {f : FuncId} {args : Array Value} {w : World} {a n : Nat} {v : Value}
    (h : Calls P f args (w.drewN (a + n)) fun e w' => e = .returned v ∧ ∃ m, w' = (w.drewN (a + n)).drewN m) :
    Calls P f args (w.drewN (a + n)) fun e w'' => e = .returned v ∧ ∃ m, w'' = w.drewN (a + m) :=
  h.mono fun _ _ ⟨he, m, hm⟩ => ⟨he, n + m, by rw [hm, World.drewN_drewN, Nat.add_assoc]⟩
theorem before_at {y x : List UInt8} (w : World) (hs : y.length ≤ maxLen) {b : Bool} (h : decide (y < x) = b) :
    Calls Tryd.prog 20 #[.string ⟨y.toArray⟩, .string ⟨x.toArray⟩] w (fun e w' => e = .returned (.bool b) ∧ ∃ q, w' = w.drewN q) :=
  (before_any ⟨y.toArray⟩ ⟨x.toArray⟩ w (by show y.toArray.size ≤ maxLen; simpa using hs)).mono fun e w' ⟨h1, h2⟩ => ⟨by rw [h1]; simp only [h], h2⟩
/-- The address lies at or behind block N. -/
def Far (N : Nat) (A : Option Addr) : Prop := ∀ b o s, A = some ⟨b, o, s⟩ → N ≤ b
theorem Far.mono {N M : Nat} {A : Option Addr} (h : Far N A) (hM : M ≤ N) : Far M A := fun b o s e => Nat.le_trans hM (h b o s e)
theorem far_own {w : World} {base : Nat} {e : TypeId} {sz : Nat} {A : Option Addr} {n c m : Nat} {xs : List Value} (h : w.ownsRow base e sz (.slice A n c) m xs) : Far base A := by
  rintro b o s rfl
  exact own_block_ge h b (by simp [Value.ownBlock])
theorem flat_snoc (xs : List Ln) (s : List UInt8) (a : Int) : flatL (xs ++ [(s, a)]) = flatL xs ++ #[Value.string ⟨s.toArray⟩, .int .i64 a].toList := flatL_app xs s a
theorem filter_snoc {p : Ln → Bool} {xs : List Ln} {x : Ln} : (xs ++ [x]).filter p = xs.filter p ++ if p x then [x] else [] := by
  rw [List.filter_append]
  congr 1
  by_cases h : p x <;> simp [h]

set_option maxHeartbeats 8000000 in
set_option maxRecDepth 100000 in
theorem written_any (xs : List Ln) (A : Option Addr) (n c : Nat) (s : List UInt8) (a : Int) (w : World) (h : LSl w w.heap.size A n xs) (hn : n ≤ 200) (hs : s.length ≤ maxLen) (hx : ∀ l ∈ xs, l.1.length ≤ maxLen)
    (hb : ∀ k, -4611686018427387904 ≤ a + sumAt s (xs.take k) ∧ a + sumAt s (xs.take k) ≤ 4611686018427387904) :
    Calls Tryd.prog 14 #[.slice A n c, .agg #[.string ⟨s.toArray⟩, .int .i64 a]] w (fun e w' => ∃ A' c', e = .returned (.slice A' (writtenL xs (s, a)).length c') ∧ LSl w' w'.heap.size A' (writtenL xs (s, a)).length (writtenL xs (s, a)) ∧ Below w.heap.size w w' ∧ Far w.heap.size A') := by
  have hlen := h.len
  have HX := aside hx
  have HBd := aside hb
  have HS := aside hs
  clear hx hb hs
  go_enter Tryd.func14, Tryd.ntmps14
  go_wp2_with fail
  have hB0 : Below w.heap.size w (w.alloc (.cells #[.string ⟨s.toArray⟩, .int .i64 a] 38)) := (Below.refl _ _).alloc (Nat.le_refl _) _
  obtain ⟨W0, hW0⟩ : ∃ W0, W0 = w.alloc (.cells #[.string ⟨s.toArray⟩, .int .i64 a] 38) := ⟨_, rfl⟩
  have z0 : W0.heap.size = w.heap.size + 1 := by rw [hW0]; simp
  have k0 : W0.cell? ⟨w.heap.size, 0, none⟩ = some (.string ⟨s.toArray⟩) := by rw [hW0]; exact World.cell?_alloc_at _ _ _ _ rfl
  have k1 : W0.cell? ⟨w.heap.size, 1, none⟩ = some (.int .i64 a) := by rw [hW0]; exact World.cell?_alloc_at _ _ _ _ rfl
  rw [← hW0] at hB0 ⊢
  have hL0 : LSl W0 w.heap.size A n xs := Sl.below h hB0
  have HB0 := aside hB0
  have HL0 := aside hL0
  clear hW0 hB0 hL0 h
  have i0 : w.heap.size < W0.heap.size := by omega
  go_wp2_with fail
  go_loopw [5, 6, 7] (fun v5 v6 v7 wr => ∃ (k : Nat) (A' : Option Addr) (c' m : Nat), k ≤ n ∧ v7 = .int .i64 k ∧ v6 = .int .i64 (a + sumAt s (xs.take k)) ∧ v5 = .slice A' m c' ∧ m ≤ k ∧ Hid (wr.ownsRow W0.heap.size 38 2 (.slice A' m c') m (flatL ((xs.take k).filter fun x => decide (x.1 < s)))) ∧ Below W0.heap.size W0 wr) (fun _ _ v7 _ => n - (intOf v7).toNat)
  case atStart => exact ⟨0, none, 0, 0, Nat.zero_le _, rfl, by simp [sumAt], rfl, Nat.le_refl _, aside ⟨by simp [flatL], .inl ⟨rfl, rfl⟩⟩, Below.refl _ _⟩
  case round =>
    obtain ⟨k, A1, c1, m, hk, rfl, rfl, rfl, hm, HR, hb⟩ := hrel
    have hbz := hb.size
    have d0 := (hb.cell (p := ⟨w.heap.size, 0, none⟩) i0).trans k0
    have l0 : w.heap.size < wr.heap.size := by omega
    by_cases j1 : k < n
    · obtain ⟨b, off, rfl, hlt, c0, c1'⟩ := LSl.at_ HL0.out j1
      have HT := aside (take_next (ls := xs) (k := k) (by omega))
      have HLk : Hid (xs.getD k ([], 0) ∈ xs) := aside (by rw [List.getD_eq_getElem?_getD, List.getElem?_eq_getElem (by omega), Option.getD_some]; exact List.getElem_mem _)
      generalize xs.getD k ([], 0) = p at c0 c1' HT HLk
      obtain ⟨t, x⟩ := p
      simp only [strV] at c0 c1'
      have HC := aside (And.intro c0 c1')
      have e0 := (hb.cell (p := ⟨b, off + k * 2, none⟩) (by show b < W0.heap.size; omega)).trans c0
      have e1 := (hb.cell (p := ⟨b, off + k * 2 + 1, none⟩) (by show b < W0.heap.size; omega)).trans c1'
      have l1 : b < wr.heap.size := by omega
      have i1 : (k : Int) < (n : Int) := by omega
      have i4 : (0 : Int) ≤ (k : Int) := by omega
      have HTL : Hid (t.length ≤ maxLen) := aside (HX.out _ HLk.out)
      have HBw := aside hb
      clear c0 c1' hb
      by_cases hts : t < s
      · have HLt : Hid (decide (t < s) = true) := aside (by simpa using hts)
        have hst : (t == s) = false := by simpa using fun e : t = s => lt_irr t (e ▸ hts)
        have HSum : Hid (sumAt s (xs.take (k + 1)) = sumAt s (xs.take k)) := aside (by rw [HT.out, sumAt_app]; simp [sumAt, show s ≠ t from fun e => lt_irr t (e ▸ hts)])
        have HFil : Hid ((xs.take (k + 1)).filter (fun x => decide (x.1 < s)) = (xs.take k).filter (fun x => decide (x.1 < s)) ++ [(t, x)]) := aside (by rw [HT.out, filter_snoc]; simp [hts])
        clear hts
        go_wp2_with fail
        go_quiet ((go_at_call 20; exact Calls.quiet_of (before_at _ HTL.out HLt.out)))
        go_wp2_with (first
          | (at_builtin; refine wpList_push rfl (.tmp 25) (.tmp 30) 26 rfl W0.heap.size _ 2 24 Tryd.underlying26 lineInfo rfl (by decide) _ _ _ rfl rfl rfl rfl HR.out (by omega) (by unfold maxLen; omega) hbz ?_; intro A3 c3 w5 hc3 hc3' hown3 hb5 hz5 hg5)
          | fail)
        have hb6 := HBw.out.trans (show Below W0.heap.size wr w5 from ⟨hb5.os, hb5.tape, hb5.output, hb5.size, hb5.block⟩)
        have g0 := (hb6.cell (p := ⟨w.heap.size, 0, none⟩) i0).trans k0
        have f0 := (hb6.cell (p := ⟨b, off + k * 2, none⟩) (by show b < W0.heap.size; omega)).trans HC.out.1
        have l5 : w.heap.size < w5.heap.size := by have := hb6.size; omega
        have l6 : b < w5.heap.size := by omega
        have H6 := aside hb6
        have HO3 := aside hown3
        clear hb5 hown3 hg5 hb6 e0 e1 d0
        go_wp2_with fail
        go_quiet (fail)
        go_wp2
        exact ⟨⟨k + 1, A3, c3, m + 1, by omega, by go_num, by rw [HSum.out], rfl, by omega, aside (by rw [HFil.out, flat_snoc]; exact HO3.out), below_drawn H6.out _⟩, by simp [intOf]; omega⟩
      · have HLt : Hid (decide (t < s) = false) := aside (by simpa using hts)
        have HFil : Hid ((xs.take (k + 1)).filter (fun x => decide (x.1 < s)) = (xs.take k).filter (fun x => decide (x.1 < s))) := aside (by rw [HT.out, filter_snoc]; simp [HLt.out])
        clear hts
        by_cases he : t = s
        · have hst : (t == s) = true := by simpa using he
          have HSum : Hid (sumAt s (xs.take (k + 1)) = sumAt s (xs.take k) + x) := aside (by rw [HT.out, sumAt_app]; simp [sumAt, he])
          have HB1 : Hid (-4611686018427387904 ≤ a + sumAt s (xs.take k) + x ∧ a + sumAt s (xs.take k) + x ≤ 4611686018427387904) := aside (by have h := HBd.out (k + 1); rw [HSum.out] at h; omega)
          have HW : Hid (wrap64 (a + sumAt s (xs.take k) + x) = a + sumAt s (xs.take k) + x) := aside (by have := HB1.out; unfold wrap64; omega)
          clear he
          go_wp2_with fail
          go_quiet ((go_at_call 20; exact Calls.quiet_of (before_at _ HTL.out HLt.out)))
          go_wp2_with fail
          go_quiet (fail)
          go_wp2
          exact ⟨⟨k + 1, A1, c1, m, by omega, by go_num, by rw [HSum.out, HW.out]; simp only [Int.add_assoc], rfl, by omega, aside (by rw [HFil.out]; exact HR.out), below_drawn HBw.out _⟩, by simp [intOf]; omega⟩
        · have hst : (t == s) = false := by simpa using he
          have HSum : Hid (sumAt s (xs.take (k + 1)) = sumAt s (xs.take k)) := aside (by rw [HT.out, sumAt_app]; simp [sumAt, show s ≠ t from fun e => he e.symm])
          clear he
          go_wp2_with fail
          go_quiet ((go_at_call 20; exact Calls.quiet_of (before_at _ HTL.out HLt.out)))
          go_wp2_with fail
          go_quiet (fail)
          go_wp2
          exact ⟨⟨k + 1, A1, c1, m, by omega, by go_num, by rw [HSum.out], rfl, by omega, aside (by rw [HFil.out]; exact HR.out), below_drawn HBw.out _⟩, by simp [intOf]; omega⟩
    · have i1 : ((k : Int) < (n : Int)) = False := by simp only [eq_iff_iff, iff_false]; omega
      obtain rfl : k = n := by omega
      rw [List.take_of_length_le (by omega)] at HR ⊢
      have HBw := aside hb
      obtain ⟨ys, hys⟩ : ∃ ys, ys = xs.filter fun x => decide (x.1 < s) := ⟨_, rfl⟩
      have HY := aside hys
      rw [← hys] at HR
      clear hys hb
      go_wp2_with (first
        | (at_builtin; refine wpList_push rfl (.tmp 47) (.tmp 52) 26 rfl W0.heap.size _ 2 24 Tryd.underlying26 lineInfo rfl (by decide) _ _ _ rfl rfl rfl rfl HR.out (by omega) (by unfold maxLen; omega) hbz ?_; intro A3 c3 w5 hc3 hc3' hown3 hb5 hz5 hg5)
        | fail)
      obtain ⟨zs, hzs⟩ : ∃ zs, zs = ys ++ [(s, a + sumAt s xs)] := ⟨_, rfl⟩
      have HZ := aside hzs
      have HO3 : Hid (w5.ownsRow W0.heap.size 38 2 (.slice A3 (m + 1) c3) (m + 1) (flatL zs)) := aside (by rw [hzs, flat_snoc]; exact hown3)
      have H6 := aside (HBw.out.trans hb5)
      clear hzs hown3 hb5 hg5 hz5
      go_wp2_with fail
      go_loopw [5, 8] (fun v5 v8 wq => ∃ (j : Nat) (A' : Option Addr) (c' m' : Nat), j ≤ k ∧ v8 = .int .i64 j ∧ v5 = .slice A' m' c' ∧ m' ≤ m + 1 + j ∧ Hid (wq.ownsRow W0.heap.size 38 2 (.slice A' m' c') m' (flatL (zs ++ (xs.take j).filter fun x => decide (s < x.1)))) ∧ Below W0.heap.size W0 wq) (fun _ v8 _ => k - (intOf v8).toNat)
      case atStart => exact ⟨0, A3, c3, m + 1, Nat.zero_le _, rfl, rfl, by omega, aside (by simpa using HO3.out), H6.out⟩
      case round =>
        obtain ⟨j, A4, c4, m4, hj, rfl, rfl, hm4, HR4, hb4⟩ := hrel
        have hbz4 := hb4.size
        have d0 := (hb4.cell (p := ⟨w.heap.size, 0, none⟩) i0).trans k0
        have l0 : w.heap.size < wr.heap.size := by omega
        by_cases j1 : j < k
        · obtain ⟨b, off, rfl, hlt, c0, c1'⟩ := LSl.at_ HL0.out j1
          have HT := aside (take_next (ls := xs) (k := j) (by omega))
          generalize xs.getD j ([], 0) = p at c0 c1' HT
          obtain ⟨t, x⟩ := p
          simp only [strV] at c0 c1'
          have e0 := (hb4.cell (p := ⟨b, off + j * 2, none⟩) (by show b < W0.heap.size; omega)).trans c0
          have e1 := (hb4.cell (p := ⟨b, off + j * 2 + 1, none⟩) (by show b < W0.heap.size; omega)).trans c1'
          have l1 : b < wr.heap.size := by omega
          have i1 : (j : Int) < (k : Int) := by omega
          have i4 : (0 : Int) ≤ (j : Int) := by omega
          have HBw := aside hb4
          clear c0 c1' hb4
          by_cases hts : s < t
          · have HLt : Hid (decide (s < t) = true) := aside (by simpa using hts)
            have HFil : Hid ((xs.take (j + 1)).filter (fun x => decide (s < x.1)) = (xs.take j).filter (fun x => decide (s < x.1)) ++ [(t, x)]) := aside (by rw [HT.out, filter_snoc]; simp [hts])
            clear hts
            go_wp2_with fail
            go_quiet ((go_at_call 20; exact Calls.quiet_of (before_at _ HS.out HLt.out)))
            go_wp2_with (first
              | (at_builtin; refine wpList_push rfl (.tmp 68) (.tmp 73) 26 rfl W0.heap.size _ 2 24 Tryd.underlying26 lineInfo rfl (by decide) _ _ _ rfl rfl rfl rfl HR4.out (by omega) (by unfold maxLen; omega) hbz4 ?_; intro A5 c5 w6 hc5 hc5' hown5 hb6 hz6 hg6)
              | fail)
            have H7 := aside (HBw.out.trans (show Below W0.heap.size wr w6 from ⟨hb6.os, hb6.tape, hb6.output, hb6.size, hb6.block⟩))
            have HO5 := aside hown5
            clear hb6 hown5 hg6 e0 e1 d0
            exact ⟨⟨j + 1, A5, c5, m4 + 1, by omega, by go_num, rfl, by omega, aside (by rw [HFil.out, ← List.append_assoc, flat_snoc]; exact HO5.out), H7.out⟩, by simp [intOf]; omega⟩
          · have HLt : Hid (decide (s < t) = false) := aside (by simpa using hts)
            have HFil : Hid ((xs.take (j + 1)).filter (fun x => decide (s < x.1)) = (xs.take j).filter (fun x => decide (s < x.1))) := aside (by rw [HT.out, filter_snoc]; simp [HLt.out])
            clear hts
            go_wp2_with fail
            go_quiet ((go_at_call 20; exact Calls.quiet_of (before_at _ HS.out HLt.out)))
            go_wp2
            exact ⟨⟨j + 1, A4, c4, m4, by omega, by go_num, rfl, by omega, aside (by rw [HFil.out]; exact HR4.out), below_drawn HBw.out _⟩, by simp [intOf]; omega⟩
        · have i1 : ((j : Int) < (k : Int)) = False := by simp only [eq_iff_iff, iff_false]; omega
          obtain rfl : j = k := by omega
          have HBw := aside hb4
          clear hb4
          go_wp2
          go_ret
          have hr := HR4.out
          have hw : zs ++ (xs.take j).filter (fun x => decide (s < x.1)) = writtenL xs (s, a) := by
            rw [List.take_of_length_le (by omega), HZ.out, HY.out]
            rfl
          rw [hw] at hr
          have hL := LSl.ownR hr
          have hm5 := hL.len
          exact ⟨A4, c4, by rw [hm5]; rfl, by rw [hm5]; exact hL, HB0.out.trans (HBw.out.mono (by omega)), (far_own hr).mono (by omega)⟩
end Go.Proofs.YtjoplhpaefngkaaDoor
