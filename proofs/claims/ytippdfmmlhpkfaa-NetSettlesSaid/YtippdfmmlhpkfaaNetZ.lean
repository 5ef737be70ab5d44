/- NetZero: what some owe others are owed. No condition. -/
import Derived.Test.YtippdfmmlhpkfaaNetP
import Derived.Deep.RegionHeld3
import Derived.Deep.RegionLaw
import Derived.Deep.RegionWith
namespace Go.Proofs.Ytippdfmmlhpkfaa
open Go.RowKit Go.ChangeShapes Go.WideShapes Go.ChangeAt

theorem debtInfo : (Try.prog.info? 30).map (fun i => (i.zero, i.size, i.bytes)) = some (some (.agg #[.int .i64 0, .int .i64 0, .int .i64 0]), 3, 24) := by kernel_rfl
theorem flatD_app (xs : List Db) (f t a : Int) : (xs ++ [(f, t, a)]).flatMap dbV = xs.flatMap dbV ++ #[Value.int .i64 f, .int .i64 t, .int .i64 a].toList := by simp [dbV]
def Three (w : World) (b o : Nat) (f t a : Int) : Prop := w.cell? ⟨b, o, none⟩ = some (.int .i64 f) ∧ w.cell? ⟨b, o + 1, none⟩ = some (.int .i64 t) ∧ w.cell? ⟨b, o + 2, none⟩ = some (.int .i64 a)
theorem three_keep {W W' : World} {b o B : Nat} {f t a : Int} (hb : Below B W W') (l : b < B) (h : W.cell? ⟨b, o, none⟩ = some (.int .i64 f) ∧ W.cell? ⟨b, o + 1, none⟩ = some (.int .i64 t) ∧ W.cell? ⟨b, o + 2, none⟩ = some (.int .i64 a)) : W'.cell? ⟨b, o, none⟩ = some (.int .i64 f) ∧ W'.cell? ⟨b, o + 1, none⟩ = some (.int .i64 t) ∧ W'.cell? ⟨b, o + 2, none⟩ = some (.int .i64 a) :=
  ⟨(hb.cell (p := ⟨b, o, none⟩) l).trans h.1, (hb.cell (p := ⟨b, o + 1, none⟩) l).trans h.2.1, (hb.cell (p := ⟨b, o + 2, none⟩) l).trans h.2.2⟩
theorem three_drew {W : World} {b o : Nat} {f t a : Int} (h : W.cell? ⟨b, o, none⟩ = some (.int .i64 f) ∧ W.cell? ⟨b, o + 1, none⟩ = some (.int .i64 t) ∧ W.cell? ⟨b, o + 2, none⟩ = some (.int .i64 a)) : W.drew.cell? ⟨b, o, none⟩ = some (.int .i64 f) ∧ W.drew.cell? ⟨b, o + 1, none⟩ = some (.int .i64 t) ∧ W.drew.cell? ⟨b, o + 2, none⟩ = some (.int .i64 a) := h
theorem three_alloc_drew {W : World} {c : Obj} {b o : Nat} {f t a : Int} (l : b < W.heap.size) (h : W.cell? ⟨b, o, none⟩ = some (.int .i64 f) ∧ W.cell? ⟨b, o + 1, none⟩ = some (.int .i64 t) ∧ W.cell? ⟨b, o + 2, none⟩ = some (.int .i64 a)) : (W.alloc c).drew.cell? ⟨b, o, none⟩ = some (.int .i64 f) ∧ (W.alloc c).drew.cell? ⟨b, o + 1, none⟩ = some (.int .i64 t) ∧ (W.alloc c).drew.cell? ⟨b, o + 2, none⟩ = some (.int .i64 a) :=
  three_keep (W' := W.alloc c) ((Below.refl _ _).alloc (Nat.le_refl _) c) l h
theorem cells3 {w : World} {g : Nat} {f t a : Int} {T : TypeId} (hg : g = w.heap.size) : ∀ j u, [Value.int .i64 f, .int .i64 t, .int .i64 a][j]? = some u → (w.alloc (.cells #[.int .i64 f, .int .i64 t, .int .i64 a] T)).cell? ⟨g, j, none⟩ = some u := by
  subst hg
  intro j u hj
  refine (World.cell?_alloc_at _ _ _ _ rfl).trans ?_
  simpa using hj
theorem one3 {f t a : Int} : ∀ u ∈ [Value.int .i64 f, .int .i64 t, .int .i64 a], u.oneCell' = true := by
  intro u hu
  simp at hu
  rcases hu with rfl | rfl | rfl <;> rfl
theorem drop_next {ds : List Db} {n k j : Nat} (hn : ds.length = n) (hj : n = j + k + 1) : (ds.drop (n - (k + 1))).reverse = (ds.drop (n - k)).reverse ++ [ds.getD j (0, 0, 0)] := by
  have h1 : n - (k + 1) = j := by omega
  have h2 : n - k = j + 1 := by omega
  rw [h1, h2, List.drop_eq_getElem_cons (by omega), List.reverse_cons, List.getD_eq_getElem?_getD, List.getElem?_eq_getElem (by omega)]
  rfl

theorem total_app (xs : List Ln) (s a : Int) : total (xs ++ [(s, a)]) = total xs + a := by simp [total]
theorem sumOver_none (n : Int) (a : Int) {ks : List Int} (h : n ∉ ks) : sumOver (fun s => if s = n then a else 0) ks = 0 :=
  sumOver_zero fun s hs => if_neg fun (e : s = n) => h (e ▸ hs)
theorem sumOver_bnd {M : Int} {ks : List Int} (hd : ks.Nodup) : ∀ {ls : List Ln}, (∀ l ∈ ls, -M ≤ l.2 ∧ l.2 ≤ M) → 0 ≤ M → -((ls.length : Int) * M) ≤ sumOver (fun s => sumAt s ls) ks ∧ sumOver (fun s => sumAt s ls) ks ≤ (ls.length : Int) * M
  | [], _, _ => by
    have : sumOver (fun s => sumAt s []) ks = 0 := sumOver_zero fun _ _ => rfl
    rw [this]
    simp
  | l :: r, h, hM => by
    have h1 := sumOver_bnd hd (ls := r) (fun x hx => h x (by simp [hx])) hM
    have h2 := h l (by simp)
    have h3 := sumOver_add (fun s => if s = l.1 then l.2 else 0) (fun s => sumAt s r) ks
    have e : (fun s => sumAt s (l :: r)) = fun s => (if s = l.1 then l.2 else 0) + sumAt s r := rfl
    have e2 : ((r.length + 1 : Nat) : Int) * M = (r.length : Int) * M + M := by rw [Int.natCast_add, Int.add_mul]; simp
    rw [e, h3, List.length_cons, e2]
    by_cases hm : l.1 ∈ ks
    · rw [sumOver_one l.1 l.2 hd hm]
      omega
    · rw [sumOver_none l.1 l.2 hm]
      omega
theorem netL_part {ds : List Db} (h : dErr ds = 0) (j : Nat) : -225179981368524800 ≤ total ((netL ds).take j) ∧ total ((netL ds).take j) ≤ 225179981368524800 := by
  obtain ⟨h1, h2⟩ := dErr_zero h
  have hk : ((keysOf (netD ds)).take j).Nodup := List.Pairwise.sublist (List.take_sublist _ _) ((keysOf_perm _).nodup_iff.2 (netD_map ds).facts.1)
  have h3 := sumOver_bnd hk (lns_bnd h2) (by omega)
  have e : total ((netL ds).take j) = sumOver (fun s => sumAt s (lnsOf ds)) ((keysOf (netD ds)).take j) := by
    unfold netL trialOf total sumOver
    rw [← List.map_take, List.map_map]
    congr 1
    refine List.map_congr_left fun x _ => ?_
    simp [netF_eq]
  rw [e]
  rw [lnsOf_len] at h3
  omega
set_option maxHeartbeats 8000000 in
set_option maxRecDepth 100000 in
theorem zero_any (ds : List Db) (A : Option Addr) (n c : Nat) (w : World) (h : DSl w w.heap.size A n ds) (hI : ∀ d ∈ ds, DbIn d) :
    Calls Try.prog 3 #[.slice A n c] w (LawPost w) := by
  have HI := aside hI
  have hlen := DSl.len3 h
  clear hI
  go_enter Try.func3, Try.ntmps3
  go_wp2_with fail
  refine (netted_any _).mono ?_
  rintro e w1 ⟨rfl, hb1⟩
  have HB1 := aside hb1
  have HD1 := aside ((FSl.below h hb1).more hb1.size)
  clear hb1
  go_wp2_with fail
  refine (net_any ds A n c _ HD1.out HI.out).mono ?_
  rintro e w2 ⟨⟨he, Aa, ca, rfl, hp⟩ | ⟨he, rfl⟩, hb2⟩
  rotate_left
  · have H2 := aside (HB1.out.trans (hb2.mono HB1.out.size))
    clear hb2
    go_wp2
    go_ret
    exact ⟨rfl, H2.out⟩
  have HE := aside he
  have HP := aside hp
  have H2 := aside (HB1.out.trans (hb2.mono HB1.out.size))
  have hn60 := (nErr_zero he).2
  have hd0 := (nErr_zero he).1
  have hn100 : n ≤ 100 := by have := (dErr_zero hd0).1; omega
  have HD2 := aside ((FSl.below HD1.out hb2).more hb2.size)
  have HBn := aside (netL_bnd hd0)
  have wn1 : wrap64 ((n : Int) - 1) = (n : Int) - 1 := by unfold wrap64; omega
  have WN := aside wn1
  clear he hp hb2 hd0 wn1
  generalize hm : (netL ds).length = m at *
  have HM := aside hm
  clear hm
  have wn1 := WN.out
  go_wp2_with fail
  clear wn1
  go_loopw [6, 7, 8] (fun v6 v7 v8 wr => ∃ (k : Nat) (A1 : Option Addr) (c1 : Nat) (A2 : Option Addr) (c2 : Nat), k ≤ n ∧ v8 = .int .i64 ((n : Int) - 1 - (k : Int)) ∧ v6 = .slice A1 k c1 ∧ v7 = .slice A2 k c2 ∧ Hid (wr.ownsRow w2.heap.size 30 3 (.slice A1 k c1) k ((ds.drop (n - k)).reverse.flatMap dbV)) ∧ Hid (wr.ownsRow w2.heap.size 30 3 (.slice A2 k c2) k (((ds.drop (n - k)).reverse.map turned).flatMap dbV)) ∧ Hid (Apart (.slice A1 k c1) (.slice A2 k c2)) ∧ Below w2.heap.size w2 wr) (fun _ _ v8 _ => (Go.RowKit.intOf v8 + 1).toNat)
  case atStart =>
    have hd0 : ds.drop (n - 0) = [] := List.drop_eq_nil_of_le (by omega)
    exact ⟨0, none, 0, none, 0, Nat.zero_le _, by simp, rfl, rfl, aside (by rw [hd0]; exact ⟨by simp, .inl ⟨rfl, rfl⟩⟩), aside (by rw [hd0]; exact ⟨by simp, .inl ⟨rfl, rfl⟩⟩), aside (apart_nil _ _ _), Below.refl _ _⟩
  case round =>
    obtain ⟨k, A1, c1, A2, c2, hk, rfl, rfl, rfl, HR1, HR2, HAp, hb⟩ := hrel
    have hbz := hb.size
    by_cases k1 : k < n
    · obtain ⟨j, hj⟩ : ∃ j, n = j + k + 1 := ⟨n - k - 1, by omega⟩
      have hij : (n : Int) - 1 - (k : Int) = (j : Int) := by omega
      rw [hij]
      obtain ⟨b, off, rfl, hlt, c0, c1', c2'⟩ := DSl.at3 HD2.out (k := j) (by omega)
      have HT := aside (drop_next hlen hj)
      generalize ds.getD j (0, 0, 0) = p at c0 c1' c2' HT
      obtain ⟨f, t, a⟩ := p
      simp only [] at c0 c1' c2'
      have HC := aside (And.intro c0 (And.intro c1' c2'))
      obtain ⟨d0, d1, d2⟩ := three_keep hb hlt HC.out
      have l0 : b < wr.heap.size := by omega
      have i1 : (j : Int) < (n : Int) := by omega
      have i4 : (0 : Int) ≤ (j : Int) := by omega
      have HBr := aside hb
      have HJ := aside hj
      have hjn : j < n := by omega
      clear c0 c1' c2' hb hij hj
      go_wp2_with (first
        | (at_builtin; refine wpList_push rfl (.tmp 32) (.tmp 37) 22 rfl w2.heap.size _ 3 24 Try.underlying22 debtInfo rfl (by decide) (.slice A1 k c1) k _ rfl rfl rfl rfl HR1.out (by omega) (by unfold maxLen; omega) hbz ?_; intro A3 c3 w3 hc3 hc3' hown3 hb3 hz3 hg3)
        | fail)
      obtain ⟨hr2, hap⟩ := hg3.other HR2.out HAp.out
      have HO3 := aside hown3
      have HO2 := aside hr2
      have HA3 := aside hap
      have hb4 := HBr.out.trans hb3
      have HB4 := aside hb4
      obtain ⟨d0, d1, d2⟩ := three_keep hb4 hlt HC.out
      have l3 : b < w3.heap.size := by omega
      have hbz3 : w2.heap.size ≤ w3.heap.size := by omega
      clear hown3 hg3 hr2 hap hb3 hb4
      have HS0 := three_drew ⟨d0, d1, d2⟩
      have HS1 := fun c => three_alloc_drew (c := c) l3 ⟨d0, d1, d2⟩
      go_region_held3 (fun v => v.cell? ⟨b, off + j * 3, none⟩ = some (.int .i64 f) ∧ v.cell? ⟨b, off + j * 3 + 1, none⟩ = some (.int .i64 t) ∧ v.cell? ⟨b, off + j * 3 + 2, none⟩ = some (.int .i64 a))
        (with_reducible (first | exact HS0 | exact HS1 _ | exact HS3))
        (first
          | (refine step_push1 (by rfl) _ _ 22 30 (by rfl) Try.underlying22 debtInfo rfl (by decide) (base := w2.heap.size) (n := k) (cs := [.int .i64 t, .int .i64 f, .int .i64 a]) (by rfl) (by rfl) (World.ownsRow.alloc HO2.out _) rfl (cells3 rfl) one3 (by unfold maxLen; omega) (by omega) (by first | exact Nat.le_trans hbz3 (Nat.le_succ _) | (simp; omega)) ?_; intro A5 c5 w5 hown5 hb5 hg5; have hb5w : Below w2.heap.size w2 w5 := (HB4.out.alloc hbz3 _).trans ⟨hb5.os, hb5.tape, hb5.output, hb5.size, hb5.block⟩; have HS3 := three_keep hb5w hlt HC.out; skip))
      obtain ⟨hr1, hap⟩ := hg5.other (World.ownsRow.alloc HO3.out _) HA3.out.symm
      have HO1 := aside hr1
      have HO5 := aside hown5
      have HA5 := aside hap.symm
      have H5 := aside hb5w
      have wj : wrap64 ((j : Int) - 1) = (j : Int) - 1 := by unfold wrap64; omega
      have WJ := aside wj
      clear hown5 hg5 hb5 hb5w hr1 hap d0 d1 d2 HS0 HS1 HS3 wj
      have wj := WJ.out
      go_wp2
      clear wj
      refine ⟨⟨k + 1, A3, c3, A5, c5, by omega, ?_, rfl, rfl, aside ?_, aside ?_, HA5, H5.out⟩, ?_⟩
      · have := HJ.out
        rw [show (n : Int) - 1 - ((k + 1 : Nat) : Int) = (j : Int) - 1 by omega]
      · rw [HT.out, flatD_app]
        exact HO1.out
      · rw [HT.out, List.map_append, List.map_cons, List.map_nil, turned, flatD_app]
        exact HO5.out
      · simp [Go.RowKit.intOf]
    · have hkn : (n : Int) - 1 - (k : Int) = -1 := by omega
      obtain rfl : k = n := by omega
      rw [hkn]
      have hdr : (ds.drop (k - k)).reverse = ds.reverse := by simp
      rw [hdr] at HR1 HR2
      have HP3 := aside ((FSl.below HP.out hb).more hb.size)
      have H3 := aside (H2.out.trans (hb.mono H2.out.size))
      have HK1 : Hid (DSl wr wr.heap.size A1 k ds.reverse) := aside (Sl.own HR1.out)
      have HK2 : Hid (DSl wr wr.heap.size A2 k (ds.reverse.map turned)) := aside (Sl.own HR2.out)
      have HI1 : Hid (∀ d ∈ ds.reverse, DbIn d) := aside fun d hd => HI.out d (List.mem_reverse.1 hd)
      have HI2 : Hid (∀ d ∈ ds.reverse.map turned, DbIn d) := aside fun d hd => by
        obtain ⟨x, hx, rfl⟩ := List.mem_map.1 hd
        have := HI1.out x hx
        exact ⟨this.2, this.1⟩
      have hE1 : nErr ds.reverse = 0 := (nErr_perm (List.reverse_perm ds)).trans HE.out
      have HE1 := aside hE1
      have HE2 := aside ((nErr_turned ds.reverse).trans hE1)
      have HL1 : Hid (netL ds.reverse = netL ds) := aside (netL_perm (List.reverse_perm ds))
      have HL2 : Hid (netL (ds.reverse.map turned) = (netL ds).map opposite) := aside (by rw [netL_turned, HL1.out])
      clear hkn hdr hb hE1
      go_wp2_with fail
      refine (net_any ds.reverse A1 k c1 _ HK1.out HI1.out).mono ?_
      rintro e w3 ⟨⟨-, Ab, cb, rfl, hpb⟩ | ⟨he, -⟩, hb3⟩
      rotate_left
      · exact absurd HE1.out he
      rw [HL1.out, HM.out] at hpb ⊢
      have HPb := aside hpb
      have HP4 := aside ((FSl.below HP3.out hb3).more hb3.size)
      have HK3 := aside ((FSl.below HK2.out hb3).more hb3.size)
      have H4 := aside (H3.out.trans (hb3.mono H3.out.size))
      clear hpb hb3
      go_wp2_with fail
      refine (net_any (ds.reverse.map turned) A2 k c2 _ HK3.out HI2.out).mono ?_
      rintro e w4 ⟨⟨-, Ac, cc, rfl, hpc⟩ | ⟨he, -⟩, hb4⟩
      rotate_left
      · exact absurd HE2.out he
      rw [HL2.out, List.length_map, HM.out] at hpc ⊢
      have HPc := aside hpc
      have HPa5 := aside ((FSl.below HP4.out hb4).more hb4.size)
      have HPb5 := aside ((FSl.below HPb.out hb4).more hb4.size)
      have H5 := aside (H4.out.trans (hb4.mono H4.out.size))
      have hmm : ((m : Int) != m) = false := by simp
      clear hpc hb4
      go_wp2_with fail
      refine (piles_same _ _ _ _ _ _ _ HPa5.out HPb5.out (by omega)).mono ?_
      rintro e w5 ⟨rfl, q, rfl⟩
      go_wp2_with fail
      go_loopw [13, 14] (fun v13 v14 wq => ∃ (j r : Nat), j ≤ m ∧ v14 = .int .i64 j ∧ v13 = .int .i64 (total ((netL ds).take j)) ∧ wq = w4.drewN r) (fun _ v14 _ => m - (Go.RowKit.intOf v14).toNat)
      case atStart => exact ⟨0, q, Nat.zero_le _, rfl, rfl, rfl⟩
      case round =>
        obtain ⟨j, r, hj, rfl, rfl, rfl⟩ := hrel
        have HTB := aside (netL_part (nErr_zero HE.out).1 j)
        by_cases j1 : j < m
        · obtain ⟨b, off, rfl, hlt, x0, x1⟩ := PSl.at2 HPa5.out j1
          obtain ⟨b2, off2, rfl, hlt2, y0, y1⟩ := PSl.at2 HPc.out j1
          have hop : ((netL ds).map opposite).getD j (0, 0) = opposite ((netL ds).getD j (0, 0)) := by simp [List.getD_eq_getElem?_getD, List.getElem?_eq_getElem (show j < (netL ds).length by rw [HM.out]; exact j1)]
          rw [hop] at y0 y1
          have HT := aside (take_next (ls := netL ds) (k := j) (0, 0) (by rw [HM.out]; omega))
          have hxb := HBn.out _ (getD_mem (ls := netL ds) (k := j) (0, 0) (by rw [HM.out]; omega))
          generalize (netL ds).getD j (0, 0) = p at x0 x1 y0 y1 HT hxb
          obtain ⟨s, a⟩ := p
          simp only [opposite] at x0 x1 y0 y1 hxb
          have i1 : (j : Int) < (m : Int) := by omega
          have i4 : (0 : Int) ≤ (j : Int) := by omega
          have HW1 : Hid (wrap64 (total ((netL ds).take j) + a) = total ((netL ds).take j) + a) := aside (by have := HTB.out; unfold wrap64; omega)
          have HW2 : Hid (IntKind.i64.wrap (-a) = -a) := aside (by rw [IntKind.wrap_i64]; omega)
          have hne1 : (s != s) = false := by simp
          have hne2 : ((-a : Int) != -a) = false := by simp
          clear hop hxb
          have hw1 := HW1.out
          have hw2 := HW2.out
          go_wp2_with fail
          go_quiet (fail)
          go_wp2
          clear hw1 hw2
          exact ⟨⟨j + 1, _, by omega, by go_num, by rw [HT.out, total_app, HW1.out], rfl⟩, by simp [Go.RowKit.intOf]; omega⟩
        · have i1 : ((j : Int) < (m : Int)) = False := by simp only [eq_iff_iff, iff_false]; omega
          obtain rfl : j = m := by omega
          have HZ : Hid (total ((netL ds).take j) = 0) := aside (by rw [List.take_of_length_le (by rw [HM.out]; omega)]; exact netL_total ds)
          have hz0 := HZ.out
          rw [hz0]
          clear hz0
          go_wp2
          go_ret
          exact ⟨by first | rfl | simp, below_drawn H5.out _⟩
end Go.Proofs.Ytippdfmmlhpkfaa
