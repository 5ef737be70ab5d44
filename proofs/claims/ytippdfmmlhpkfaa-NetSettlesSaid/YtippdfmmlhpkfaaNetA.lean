/- NetAdds: two lists are one. No condition. -/
import Derived.Test.YtippdfmmlhpkfaaNetZ
import Derived.Test.YtippdfmmlhpkfaaNetO
import Derived.Deep.Heap
namespace Go.Proofs.Ytippdfmmlhpkfaa
open Go.RowKit Go.ChangeShapes Go.WideShapes Go.ChangeAt

theorem sumAt_app (s : Int) : ∀ (xs ys : List Ln), sumAt s (xs ++ ys) = sumAt s xs + sumAt s ys
  | [], ys => by simp [sumAt]
  | x :: r, ys => by
    have := sumAt_app s r ys
    simp only [List.cons_append, sumAt, this]
    omega
theorem sumAt_netL (ds : List Db) (s : Int) : sumAt s (netL ds) = sumAt s (lnsOf ds) := by
  unfold netL
  rw [sumAt_trial (netD_bk ds) (netD_map ds), netF_eq]
theorem lnsOf_two (xa xb : List Db) : lnsOf (xa ++ xb) = lnsOf xa ++ lnsOf xb := by simp [lnsOf]
theorem netL_two (xa xb : List Db) {s v : Int} (h : (s, v) ∈ netL (xa ++ xb)) : v = sumAt s (netL xa) + sumAt s (netL xb) := by
  have := ((mem_netL _).1 h).2
  rw [lnsOf_two, sumAt_app] at this
  rw [this, sumAt_netL, sumAt_netL]
theorem putAll_two : ∀ (xs ys : List Ln) (D : DataW Unit) (f : Int → Int), putAll D f (xs ++ ys) = putAll (putAll D f xs) (addAll f xs) ys
  | [], _, _, _ => rfl
  | x :: r, ys, D, f => by simp only [List.cons_append, putAll, addAll]; exact putAll_two r ys _ _
theorem size_up : ∀ (ls : List Ln) (D : DataW Unit) (f : Int → Int), Maps.Tidy D → Maps.size D ≤ Maps.size (putAll D f ls)
  | [], _, _, _ => Nat.le_refl _
  | l :: r, D, f, h => by
    have h1 := size_up r (D.put (kOf l.1) (.lit (.int .i64 (f l.1 + l.2)))) (more f l.1 l.2) (h.put (isKey_kOf l.1) _)
    have h2 : Maps.size D ≤ Maps.size (D.put (kOf l.1) (.lit (.int .i64 (f l.1 + l.2)))) := by rw [Maps.size_put h]; split <;> omega
    simp only [putAll]
    omega
theorem size_with : ∀ (ls : List Ln) (D E : DataW Unit) (f g : Int → Int), Maps.Tidy D → Maps.Tidy E → (∀ k, Maps.has E (kOf k) = true → Maps.has D (kOf k) = true) → Maps.size (putAll D f ls) + Maps.size E ≤ Maps.size (putAll E g ls) + Maps.size D
  | [], _, _, _, _, _, _, _ => by simp only [putAll]; omega
  | l :: r, D, E, f, g, hD, hE, h => by
    have hi : ∀ k, Maps.has (E.put (kOf l.1) (.lit (.int .i64 (g l.1 + l.2)))) (kOf k) = true → Maps.has (D.put (kOf l.1) (.lit (.int .i64 (f l.1 + l.2)))) (kOf k) = true := by
      intro k hk
      by_cases e : k = l.1
      · subst e
        exact Maps.has_put_same hD.isMap (isKey_kOf l.1) _
      · rw [Maps.has_put_other (kOf_ne e)] at hk ⊢
        exact h k hk
    have h1 := size_with r _ _ (more f l.1 l.2) (more g l.1 l.2) (hD.put (isKey_kOf l.1) (.lit (.int .i64 (f l.1 + l.2)))) (hE.put (isKey_kOf l.1) (.lit (.int .i64 (g l.1 + l.2)))) hi
    rw [Maps.size_put hD, Maps.size_put hE] at h1
    simp only [putAll]
    by_cases e1 : Maps.has D (kOf l.1) = true
    · rw [if_pos e1] at h1
      by_cases e2 : Maps.has E (kOf l.1) = true
      · rw [if_pos e2] at h1; omega
      · rw [if_neg e2] at h1; omega
    · have e2 : ¬ Maps.has E (kOf l.1) = true := fun e => e1 (h _ e)
      rw [if_neg e1, if_neg e2] at h1
      omega
theorem netL_lens (xa xb : List Db) : (netL xa).length ≤ (netL (xa ++ xb)).length ∧ (netL xb).length ≤ (netL (xa ++ xb)).length ∧ (netL (xa ++ xb)).length ≤ (netL xa).length + (netL xb).length := by
  have e : ∀ xs ys : List Db, netD (xs ++ ys) = putAll (netD xs) (netF xs) (lnsOf ys) := fun xs ys => by
    unfold netD netF
    rw [lnsOf_two, putAll_two]
  have hu : ∀ xs ys : List Db, (netL xs).length ≤ (netL (xs ++ ys)).length := fun xs ys => by
    rw [netL_len, netL_len, e]
    exact size_up _ _ _ (netD_bk xs).tidy
  refine ⟨hu xa xb, ?_, ?_⟩
  · rw [netL_perm (List.perm_append_comm : (xa ++ xb).Perm (xb ++ xa))]
    exact hu xb xa
  · have h := size_with (lnsOf xb) (netD xa) (.map []) (netF xa) (fun _ => 0) (netD_bk xa).tidy Maps.tidy_empty (fun k hk => by simp [Maps.has_eq] at hk)
    rw [← e] at h
    rw [netL_len, netL_len, netL_len]
    have h0 : Maps.size (.map [] : DataW Unit) = 0 := rfl
    rw [h0] at h
    unfold netD at h ⊢
    omega

theorem sumAt_rising {M : Int} (hM : 0 ≤ M) {s : Int} {xs : List Ln} (hr : Rises xs) (h : ∀ l ∈ xs, -M ≤ l.2 ∧ l.2 ≤ M) : -M ≤ sumAt s xs ∧ sumAt s xs ≤ M := by
  by_cases he : ∃ v, (s, v) ∈ xs
  · obtain ⟨v, hv⟩ := he
    rw [sumAt_one hr hv]
    exact h _ hv
  · rw [sumAt_none fun v hv => he ⟨v, hv⟩]
    omega
theorem rises_take {xs : List Ln} (h : Rises xs) (j : Nat) : Rises (xs.take j) := List.Pairwise.sublist ((List.take_sublist _ _).map _) h
theorem own_empty {w : World} {T : TypeId} {sz : Nat} : (w.alloc (.cells #[] T)).ownsRow w.heap.size T sz (.slice (some ⟨w.heap.size, 0, none⟩) 0 0) 0 [] :=
  ⟨by simp, .inr ⟨w.heap.size, 0, #[], rfl, Nat.le_refl _, Go.Deep.blk_alloc_new _ _, Nat.le_refl _, by unfold maxLen; omega, by simp, by simp⟩⟩
theorem one_debts {ds : List Db} : ∀ u ∈ ds.flatMap dbV, u.oneCell' = true := by
  intro u hu
  obtain ⟨d, _, hd⟩ := List.mem_flatMap.1 hu
  simp [dbV] at hd
  rcases hd with rfl | rfl | rfl <;> rfl

set_option maxHeartbeats 8000000 in
set_option maxRecDepth 100000 in
theorem adds_any (xa xb : List Db) (A A' : Option Addr) (n n' c c' : Nat) (w : World) (h : DSl w w.heap.size A n xa) (h' : DSl w w.heap.size A' n' xb) (hI : ∀ d ∈ xa, DbIn d) (hI' : ∀ d ∈ xb, DbIn d) (hn : n ≤ 1048576) (hn' : n' ≤ 1048576) :
    Calls Try.prog 4 #[.slice A n c, .slice A' n' c'] w (LawPost w) := by
  have HI := aside hI
  have HI' := aside hI'
  clear hI hI'
  go_enter Try.func4, Try.ntmps4
  go_wp2_with fail
  refine (netted_any _).mono ?_
  rintro e w1 ⟨rfl, hb1⟩
  have HB1 := aside hb1
  have HA1 := aside ((FSl.below h hb1).more hb1.size)
  have HA1' := aside ((FSl.below h' hb1).more hb1.size)
  clear hb1
  go_wp2_with fail
  refine (net_any xa A n c _ HA1.out HI.out).mono ?_
  rintro e w2 ⟨hr2, hb2⟩
  have HR2 := aside hr2
  have H2 := aside (HB1.out.trans (hb2.mono HB1.out.size))
  have HA2 := aside ((FSl.below HA1.out hb2).more hb2.size)
  have HA2' := aside ((FSl.below HA1'.out hb2).more hb2.size)
  have hr2' : ∃ P m pc v, e = .returned (.tuple #[.slice P m pc, v]) := by
    rcases hr2 with ⟨-, P, pc, rfl, -⟩ | ⟨-, rfl⟩ <;> exact ⟨_, _, _, _, rfl⟩
  obtain ⟨Pa, ma, pca, va, rfl⟩ := hr2'
  clear hb2 hr2
  go_wp2_with fail
  refine (net_any xb A' n' c' _ HA2'.out HI'.out).mono ?_
  rintro e w3 ⟨hr3, hb3⟩
  have HR3 := aside hr3
  have H3 := aside (H2.out.trans (hb3.mono H2.out.size))
  have hr3' : ∃ P m pc v, e = .returned (.tuple #[.slice P m pc, v]) := by
    rcases hr3 with ⟨-, P, pc, rfl, -⟩ | ⟨-, rfl⟩ <;> exact ⟨_, _, _, _, rfl⟩
  obtain ⟨Pb, mb, pcb, vb, rfl⟩ := hr3'
  have HA3 := aside ((FSl.below HA2.out hb3).more hb3.size)
  have HA3' := aside ((FSl.below HA2'.out hb3).more hb3.size)
  have HB3 := aside hb3
  clear hb3 hr3
  go_wp2_with (first
    | (at_builtin; refine wpList_concat rfl (.tmp 30) (.tmp 31) 22 rfl w3.heap.size _ 3 24 Try.underlying22 debtInfo rfl (by decide) _ 0 [] rfl own_empty (w3.heap.size) A n c _ rfl (Sl.alloc HA3.out (Nat.le_refl _) _) one_debts (by omega) (by unfold maxLen; omega) (by simp) ?_; intro A4 c4 w4 hc4 hc4' hown4 hb4 hg4; simp only [Nat.zero_add, List.nil_append] at hown4)
    | (at_builtin; refine wpList_concat rfl (.tmp 32) (.tmp 33) 22 rfl w3.heap.size _ 3 24 Try.underlying22 debtInfo rfl (by decide) _ n _ rfl hown4 (w3.heap.size) A' n' c' _ rfl (Sl.below (Sl.alloc HA3'.out (Nat.le_refl _) _) hb4) one_debts (by omega) (by unfold maxLen; omega) (by have := hb4.size; rw [World.size_alloc] at this; omega) ?_; intro A5 c5 w5 hc5 hc5' hown5 hb5 hg5)
    | fail)
  have HK5 : Hid (DSl w5 w5.heap.size A5 (n + n') (xa ++ xb)) := aside (by
    have h1 := Sl.own hown5
    rw [← List.flatMap_append] at h1
    exact h1)
  have HB5 : Hid (Below w3.heap.size w3 w5) := aside (((Below.refl _ w3).alloc (Nat.le_refl _) _).trans (hb4.trans hb5))
  have HI5 : Hid (∀ d ∈ xa ++ xb, DbIn d) := aside fun d hd => (List.mem_append.1 hd).elim (HI.out d) (HI'.out d)
  have H5 := aside (H3.out.trans (HB5.out.mono H3.out.size))
  clear hown4 hb4 hg4 hown5 hb5 hg5
  refine (net_any (xa ++ xb) A5 (n + n') c5 _ HK5.out HI5.out).mono ?_
  rintro e w6 ⟨hr6, hb6⟩
  have H6 := aside (H5.out.trans (hb6.mono H5.out.size))
  have HB6 := aside (HB5.out.trans (hb6.mono HB5.out.size))
  rcases HR2.out with ⟨he1, P1, q1, e1, hp1⟩ | ⟨he1, e1⟩
  rotate_left
  · obtain ⟨rfl, rfl, rfl, rfl⟩ : Pa = none ∧ ma = 0 ∧ pca = 0 ∧ va = .iface 41 (.int .i64 (nErr xa)) := by simpa [and_assoc] using e1
    have hr6' : ∃ P m pc v, e = .returned (.tuple #[.slice P m pc, v]) := by
      rcases hr6 with ⟨-, P, pc, rfl, -⟩ | ⟨-, rfl⟩ <;> exact ⟨_, _, _, _, rfl⟩
    obtain ⟨Pc, mc, pcc, vc, rfl⟩ := hr6'
    clear hr6 hb6 e1 he1
    go_wp2
    go_ret
    exact ⟨rfl, H6.out⟩
  obtain ⟨rfl, rfl, rfl, rfl⟩ : Pa = P1 ∧ ma = (netL xa).length ∧ pca = q1 ∧ va = .nilIface := by simpa [and_assoc] using e1
  clear e1
  rcases HR3.out with ⟨he2, P2, q2, e2, hp2⟩ | ⟨he2, e2⟩
  rotate_left
  · obtain ⟨rfl, rfl, rfl, rfl⟩ : Pb = none ∧ mb = 0 ∧ pcb = 0 ∧ vb = .iface 41 (.int .i64 (nErr xb)) := by simpa [and_assoc] using e2
    have hr6' : ∃ P m pc v, e = .returned (.tuple #[.slice P m pc, v]) := by
      rcases hr6 with ⟨-, P, pc, rfl, -⟩ | ⟨-, rfl⟩ <;> exact ⟨_, _, _, _, rfl⟩
    obtain ⟨Pc, mc, pcc, vc, rfl⟩ := hr6'
    clear hr6 hb6 e2 he2 hp1 he1
    go_wp2
    go_ret
    exact ⟨rfl, H6.out⟩
  obtain ⟨rfl, rfl, rfl, rfl⟩ : Pb = P2 ∧ mb = (netL xb).length ∧ pcb = q2 ∧ vb = .nilIface := by simpa [and_assoc] using e2
  clear e2
  rcases hr6 with ⟨he3, Pc, q3, rfl, hp3⟩ | ⟨he3, rfl⟩
  rotate_left
  · clear hb6 he3 hp1 he1 hp2 he2
    go_wp2
    go_ret
    exact ⟨rfl, H6.out⟩
  have HP1 := aside ((FSl.below ((FSl.below hp1 HB3.out).more HB3.out.size) HB6.out).more HB6.out.size)
  have HP2 := aside ((FSl.below hp2 HB6.out).more HB6.out.size)
  have HP3 := aside hp3
  have HE1 := aside (nErr_zero he1)
  have HE2 := aside (nErr_zero he2)
  obtain ⟨l1, l2, l3⟩ := netL_lens xa xb
  have m60 := (nErr_zero he3).2
  have ma60 := HE1.out.2
  have mb60 := HE2.out.2
  have HV : Hid (∀ s v, (s, v) ∈ netL (xa ++ xb) → v = sumAt s (netL xa) + sumAt s (netL xb)) := aside fun s v h => netL_two xa xb h
  have HQ1 : Hid (∀ s j, -225179981368524800 ≤ sumAt s ((netL xa).take j) ∧ sumAt s ((netL xa).take j) ≤ 225179981368524800) := aside fun s j => sumAt_rising (by omega) (rises_take (netL_rises xa) j) fun l hl => netL_bnd HE1.out.1 l (List.mem_of_mem_take hl)
  have HQ2 : Hid (∀ s j, -225179981368524800 ≤ sumAt s ((netL xb).take j) ∧ sumAt s ((netL xb).take j) ≤ 225179981368524800) := aside fun s j => sumAt_rising (by omega) (rises_take (netL_rises xb) j) fun l hl => netL_bnd HE2.out.1 l (List.mem_of_mem_take hl)
  generalize hx1 : netL xa = z1 at *
  generalize hx2 : netL xb = z2 at *
  generalize hx3 : netL (xa ++ xb) = z3 at *
  generalize hm1 : z1.length = m1 at *
  generalize hm2 : z2.length = m2 at *
  generalize hm3 : z3.length = m3 at *
  have HM1 := aside hm1
  have HM2 := aside hm2
  have HM3 := aside hm3
  clear hp1 hp2 hp3 he1 he2 he3 hb6 hx1 hx2 hx3 hm1 hm2 hm3
  go_wp2_with fail
  go_loopw [12] (fun v12 wr => ∃ (k q : Nat), k ≤ m3 ∧ v12 = .int .i64 k ∧ wr = w6.drewN q) (fun v12 _ => m3 - (Go.RowKit.intOf v12).toNat)
  case atStart => exact ⟨0, 0, Nat.zero_le _, rfl, rfl⟩
  case round =>
    obtain ⟨k, q, hk, rfl, rfl⟩ := hrel
    by_cases k1 : k < m3
    · obtain ⟨b3, o3, rfl, hlt3, x0, x1⟩ := PSl.at2 HP3.out k1
      have HMm := aside (HV.out _ _ (show ((z3.getD k (0, 0)).1, (z3.getD k (0, 0)).2) ∈ z3 from getD_mem (ls := z3) (k := k) (0, 0) (by rw [HM3.out]; omega)))
      generalize z3.getD k (0, 0) = p at x0 x1 HMm
      obtain ⟨s, v⟩ := p
      simp only [] at x0 x1 HMm
      have i1 : (k : Int) < (m3 : Int) := by omega
      have i4 : (0 : Int) ≤ (k : Int) := by omega
      go_wp2_with fail
      go_loopw [13, 14] (fun v13 v14 wq => ∃ (j r : Nat), j ≤ m1 ∧ v14 = .int .i64 j ∧ v13 = .int .i64 (sumAt s (z1.take j)) ∧ wq = w6.drewN r) (fun _ v14 _ => m1 - (Go.RowKit.intOf v14).toNat)
      case atStart => exact ⟨0, q, Nat.zero_le _, rfl, rfl, rfl⟩
      case round =>
        obtain ⟨j, r, hj, rfl, rfl, rfl⟩ := hrel
        by_cases j1 : j < m1
        · obtain ⟨b1, o1, rfl, hlt1, y0, y1⟩ := PSl.at2 HP1.out j1
          have HT := aside (take_next (ls := z1) (k := j) (0, 0) (by rw [HM1.out]; omega))
          generalize z1.getD j (0, 0) = p at y0 y1 HT
          obtain ⟨t, u⟩ := p
          simp only [] at y0 y1
          have i5 : (j : Int) < (m1 : Int) := by omega
          have i6 : (0 : Int) ≤ (j : Int) := by omega
          by_cases hts : t = s
          · have hq : (t == s) = true := by simpa using hts
            have HS : Hid (sumAt s (z1.take (j + 1)) = sumAt s (z1.take j) + u) := aside (by rw [HT.out, sumAt_app]; simp [sumAt, hts])
            have HW : Hid (wrap64 (sumAt s (z1.take j) + u) = sumAt s (z1.take j) + u) := aside (by have h1 := HQ1.out s (j + 1); rw [HS.out] at h1; unfold wrap64; omega)
            clear hts
            go_wp2_with fail
            go_quiet (fail)
            go_wp2
            exact ⟨⟨j + 1, _, by omega, by go_num, by rw [HS.out, HW.out], rfl⟩, by simp [Go.RowKit.intOf]; omega⟩
          · have hq : (t == s) = false := by simpa using hts
            have HS : Hid (sumAt s (z1.take (j + 1)) = sumAt s (z1.take j)) := aside (by rw [HT.out, sumAt_app]; simp [sumAt, show s ≠ t from fun e => hts e.symm])
            clear hts
            go_wp2_with fail
            go_quiet (fail)
            go_wp2
            exact ⟨⟨j + 1, _, by omega, by go_num, by rw [HS.out], rfl⟩, by simp [Go.RowKit.intOf]; omega⟩
        · have i5 : ((j : Int) < (m1 : Int)) = False := by simp only [eq_iff_iff, iff_false]; omega
          have hjm : z1.take j = z1 := List.take_of_length_le (by rw [HM1.out]; omega)
          rw [hjm]
          clear hjm
          go_wp2_with fail
          go_loopw [13, 15] (fun v13 v15 wq => ∃ (i r : Nat), i ≤ m2 ∧ v15 = .int .i64 i ∧ v13 = .int .i64 (sumAt s z1 + sumAt s (z2.take i)) ∧ wq = w6.drewN r) (fun _ v15 _ => m2 - (Go.RowKit.intOf v15).toNat)
          case atStart => exact ⟨0, r, Nat.zero_le _, rfl, by simp [sumAt], rfl⟩
          case round =>
            obtain ⟨i, r', hi, rfl, rfl, rfl⟩ := hrel
            by_cases j2 : i < m2
            · obtain ⟨b1, o1, rfl, hlt1, y0, y1⟩ := PSl.at2 HP2.out j2
              have HT := aside (take_next (ls := z2) (k := i) (0, 0) (by rw [HM2.out]; omega))
              generalize z2.getD i (0, 0) = p at y0 y1 HT
              obtain ⟨t, u⟩ := p
              simp only [] at y0 y1
              have i7 : (i : Int) < (m2 : Int) := by omega
              have i8 : (0 : Int) ≤ (i : Int) := by omega
              by_cases hts : t = s
              · have hq : (t == s) = true := by simpa using hts
                have HS : Hid (sumAt s (z2.take (i + 1)) = sumAt s (z2.take i) + u) := aside (by rw [HT.out, sumAt_app]; simp [sumAt, hts])
                have HW : Hid (wrap64 (sumAt s z1 + sumAt s (z2.take i) + u) = sumAt s z1 + sumAt s (z2.take i) + u) := aside (by
                  have h1 := HQ2.out s (i + 1)
                  have h2 := HQ1.out s m1
                  rw [HS.out] at h1
                  rw [List.take_of_length_le (by rw [HM1.out]; omega)] at h2
                  unfold wrap64
                  omega)
                clear hts
                go_wp2_with fail
                go_quiet (fail)
                go_wp2
                exact ⟨⟨i + 1, _, by omega, by go_num, by rw [HS.out, HW.out, Int.add_assoc], rfl⟩, by simp [Go.RowKit.intOf]; omega⟩
              · have hq : (t == s) = false := by simpa using hts
                have HS : Hid (sumAt s (z2.take (i + 1)) = sumAt s (z2.take i)) := aside (by rw [HT.out, sumAt_app]; simp [sumAt, show s ≠ t from fun e => hts e.symm])
                clear hts
                go_wp2_with fail
                go_quiet (fail)
                go_wp2
                exact ⟨⟨i + 1, _, by omega, by go_num, by rw [HS.out], rfl⟩, by simp [Go.RowKit.intOf]; omega⟩
            · have i7 : ((i : Int) < (m2 : Int)) = False := by simp only [eq_iff_iff, iff_false]; omega
              have him : z2.take i = z2 := List.take_of_length_le (by rw [HM2.out]; omega)
              rw [him, ← HMm.out]
              have hvv : (v != v) = false := by simp
              clear him
              go_wp2
              exact ⟨⟨k + 1, _, by omega, by go_num, rfl⟩, by simp [Go.RowKit.intOf]; omega⟩
    · have i1 : ((k : Int) < (m3 : Int)) = False := by simp only [eq_iff_iff, iff_false]; omega
      have g1 : (m1 : Int) ≤ (m3 : Int) := by omega
      have g2 : (m2 : Int) ≤ (m3 : Int) := by omega
      have g3 : (m3 : Int) ≤ (m1 : Int) + (m2 : Int) := by omega
      go_wp2
      go_ret
      exact ⟨by first | rfl | simp | (simp; omega), below_drawn H6.out _⟩
end Go.Proofs.Ytippdfmmlhpkfaa
