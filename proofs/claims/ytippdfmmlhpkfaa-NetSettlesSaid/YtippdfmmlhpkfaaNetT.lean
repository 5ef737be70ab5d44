/- NetSettles: all are even, with fewer payments than there are people. No condition. -/
import Derived.Test.YtippdfmmlhpkfaaNetE
import Derived.Test.YtippdfmmlhpkfaaNetW
namespace Go.Proofs.Ytippdfmmlhpkfaa
open Go.RowKit Go.ChangeShapes Go.WideShapes Go.ChangeAt

theorem St.dbIn {ps own : List Ln} {out : List Db} (h : St ps own out) (hI : ∀ p ∈ ps, In64 p.1) : ∀ d ∈ out, DbIn d := fun d hd => by
  obtain ⟨_, i, j, hi, hj, e1, e2, _⟩ := h.debts d hd
  exact ⟨by rw [e1]; exact hI _ (at_mem hi), by rw [e2]; exact hI _ (at_mem hj)⟩
theorem ownOf_snoc (xs : List Ln) (s a : Int) : ownOf (xs ++ [(s, a)]) = ownOf xs ++ if a = 0 then [] else [(s, a)] := by
  unfold ownOf
  rw [List.filter_append]
  congr 1
  by_cases h : a = 0 <;> simp [h]
theorem ownOf_le (xs : List Ln) : (ownOf xs).length ≤ xs.length := List.length_filter_le _ _

set_option maxHeartbeats 8000000 in
set_option maxRecDepth 100000 in
theorem settles_any (ps : List Ln) (A : Option Addr) (n c : Nat) (w : World) (h : PSl w w.heap.size A n ps) (hI : ∀ p ∈ ps, In64 p.1) :
    Calls Try.prog 5 #[.slice A n c] w (LawPost w) := by
  have HI := aside hI
  have hlen := PSl.len2 h
  clear hI
  go_enter Try.func5, Try.ntmps5
  go_wp2_with fail
  refine (netted_any _).mono ?_
  rintro e w1 ⟨rfl, hb1⟩
  have HB1 := aside hb1
  have HD1 := aside ((FSl.below h hb1).more hb1.size)
  clear hb1
  go_wp2_with fail
  refine (settle_any ps A n c _ HD1.out).mono ?_
  rintro e w2 ⟨⟨he, Ad, cd, own, out, rfl, hd, hst, hno⟩ | ⟨he, rfl⟩, hb2⟩
  rotate_left
  · have H2 := aside (HB1.out.trans (hb2.mono HB1.out.size))
    clear hb2
    go_wp2
    go_ret
    exact ⟨rfl, H2.out⟩
  obtain ⟨h60, hok, hri, -⟩ := rErr_zero he
  have H2 := aside (HB1.out.trans (hb2.mono HB1.out.size))
  have HP2 := aside ((FSl.below HD1.out hb2).more hb2.size)
  have HDs := aside hd
  have HE := aside (hst.ok h60 hok hri hno)
  have HL := aside (hst.nets hri hno)
  have HFew := aside hst.fewer
  have HIn := aside (hst.dbIn HI.out)
  have HAp : Hid (∀ d ∈ out, ∀ e ∈ out, d.1 ≠ e.2.1) := aside fun d hd e he => hst.apart hri hd he
  have HOne : Hid (∀ d ∈ out, 1 ≤ d.2.2) := aside fun d hd => (hst.debts d hd).1
  have hn60 : n ≤ 60 := by omega
  have ho60 : out.length ≤ 60 := by
    have h1 := hst.count
    have h2 : nz ps ≤ ps.length := List.countP_le_length
    omega
  have hol := ownOf_le ps
  clear he hd hst hno hb2 h60 hok hri
  generalize hm : out.length = m at *
  have HM := aside hm
  clear hm
  go_wp2_with fail
  go_loopw [6, 7] (fun v6 v7 wr => ∃ (k : Nat) (A1 : Option Addr) (c1 m1 : Nat), k ≤ n ∧ v7 = .int .i64 k ∧ m1 ≤ k ∧ v6 = .slice A1 m1 c1 ∧ Hid (wr.ownsRow w2.heap.size 33 2 (.slice A1 m1 c1) m1 ((ownOf (ps.take k)).flatMap plV)) ∧ Below w2.heap.size w2 wr) (fun _ v7 _ => n - (Go.RowKit.intOf v7).toNat)
  case atStart => exact ⟨0, none, 0, 0, Nat.zero_le _, rfl, Nat.le_refl _, rfl, aside ⟨by simp [ownOf], .inl ⟨rfl, rfl⟩⟩, Below.refl _ _⟩
  case round =>
    obtain ⟨k, A1, c1, m1, hk, rfl, hm1, rfl, HR, hb⟩ := hrel
    have hbz := hb.size
    by_cases k1 : k < n
    · obtain ⟨b, off, rfl, hlt, c0, c1'⟩ := PSl.at2 HP2.out k1
      have HT := aside (take_next (ls := ps) (k := k) (0, 0) (by omega))
      generalize ps.getD k (0, 0) = p at c0 c1' HT
      obtain ⟨s, a⟩ := p
      simp only [] at c0 c1'
      have d0 := (hb.cell (p := ⟨b, off + k * 2, none⟩) hlt).trans c0
      have d1 := (hb.cell (p := ⟨b, off + k * 2 + 1, none⟩) hlt).trans c1'
      have l0 : b < wr.heap.size := by omega
      have i1 : (k : Int) < (n : Int) := by omega
      have i4 : (0 : Int) ≤ (k : Int) := by omega
      have HBr := aside hb
      clear c0 c1' hb
      by_cases ha : a = 0
      · have hq : (a != 0) = false := by simp [ha]
        have HO : Hid (ownOf (ps.take (k + 1)) = ownOf (ps.take k)) := aside (by rw [HT.out, ownOf_snoc, if_pos ha, List.append_nil])
        clear ha
        go_wp2
        exact ⟨⟨k + 1, A1, c1, m1, by omega, by go_num, by omega, rfl, aside (by rw [HO.out]; exact HR.out), HBr.out⟩, by simp [Go.RowKit.intOf]; omega⟩
      · have hq : (a != 0) = true := by simpa using ha
        have HO : Hid (ownOf (ps.take (k + 1)) = ownOf (ps.take k) ++ [(s, a)]) := aside (by rw [HT.out, ownOf_snoc, if_neg ha])
        clear ha
        go_wp2_with (first
          | (at_builtin; refine wpList_push rfl (.tmp 33) (.tmp 38) 24 rfl w2.heap.size _ 2 16 Try.underlying24 pileInfo rfl (by decide) (.slice A1 m1 c1) m1 _ rfl rfl rfl rfl HR.out (by omega) (by unfold maxLen; omega) hbz ?_; intro A3 c3 w3 hc3 hc3' hown3 hb3 hz3 hg3)
          | fail)
        have HO3 := aside hown3
        have H3 := aside (HBr.out.trans hb3)
        clear hown3 hb3 hg3
        exact ⟨⟨k + 1, A3, c3, m1 + 1, by omega, by go_num, by omega, rfl, aside (by rw [HO.out, flatP_app]; exact HO3.out), H3.out⟩, by simp [Go.RowKit.intOf]; omega⟩
    · have i1 : ((k : Int) < (n : Int)) = False := by simp only [eq_iff_iff, iff_false]; omega
      obtain rfl : k = n := by omega
      rw [List.take_of_length_le (by omega)] at HR
      have HOw : Hid (PSl wr wr.heap.size A1 m1 (ownOf ps)) := aside (Sl.own HR.out)
      have hml := PSl.len2 HOw.out
      have HMl := aside hml
      have HDs3 := aside ((FSl.below HDs.out hb).more hb.size)
      have H3 := aside (H2.out.trans (hb.mono H2.out.size))
      clear hb hml hol
      go_wp2_with fail
      go_loopw [8] (fun v8 wq => ∃ (j q : Nat), j ≤ m ∧ v8 = .int .i64 j ∧ wq = wr.drewN q) (fun v8 _ => m - (Go.RowKit.intOf v8).toNat)
      case atStart => exact ⟨0, 0, Nat.zero_le _, rfl, rfl⟩
      case round =>
        obtain ⟨j, q, hj, rfl, rfl⟩ := hrel
        by_cases j1 : j < m
        · obtain ⟨b, off, rfl, hlt, x0, x1, x2⟩ := DSl.at3 HDs3.out j1
          have hmem := getD_mem (ls := out) (k := j) (0, 0, 0) (by rw [HM.out]; omega)
          have h1 := HOne.out _ hmem
          have HAj := aside (HAp.out _ hmem)
          have hsf := HAp.out _ hmem _ hmem
          generalize out.getD j (0, 0, 0) = p at x0 x1 x2 h1 HAj hsf
          clear hmem
          obtain ⟨f, t, a⟩ := p
          simp only [] at x0 x1 x2 h1 hsf HAj
          have i5 : (j : Int) < (m : Int) := by omega
          have i6 : (0 : Int) ≤ (j : Int) := by omega
          have ha1 : (a < 1) = False := by simp only [eq_iff_iff, iff_false]; omega
          have hft : (f == t) = false := by simpa using hsf
          clear hsf
          go_wp2_with fail
          go_quiet (fail)
          go_wp2_with fail
          go_loopw [9] (fun v9 wp => ∃ (i r : Nat), i ≤ m ∧ v9 = .int .i64 i ∧ wp = wr.drewN r) (fun v9 _ => m - (Go.RowKit.intOf v9).toNat)
          case atStart => exact ⟨0, _, Nat.zero_le _, rfl, World.drewN_drewN _ _ _⟩
          case round =>
            obtain ⟨i, r, hi, rfl, rfl⟩ := hrel
            by_cases j2 : i < m
            · obtain ⟨b2, off2, e2, -, -, y1, -⟩ := DSl.at3 HDs3.out j2
              injection e2 with e2
              injection e2 with e2 e3
              subst e2 e3
              have hne := HAj.out _ (getD_mem (ls := out) (k := i) (0, 0, 0) (by rw [HM.out]; omega))
              generalize (out.getD i (0, 0, 0)).2.1 = u at y1 hne
              have hfu : (f == u) = false := by simpa using hne
              have i7 : (i : Int) < (m : Int) := by omega
              have i8 : (0 : Int) ≤ (i : Int) := by omega
              clear hne
              go_wp2_with fail
              go_quiet (fail)
              go_wp2
              exact ⟨⟨i + 1, _, by omega, by go_num, rfl⟩, by simp [Go.RowKit.intOf]; omega⟩
            · have i7 : ((i : Int) < (m : Int)) = False := by simp only [eq_iff_iff, iff_false]; omega
              go_wp2
              exact ⟨⟨j + 1, _, by omega, by go_num, rfl⟩, by simp [Go.RowKit.intOf]; omega⟩
        · have i5 : ((j : Int) < (m : Int)) = False := by simp only [eq_iff_iff, iff_false]; omega
          have HDq := aside (FSl.drewN HDs3.out q)
          have HOq := aside (FSl.drewN HOw.out q)
          go_wp2_with fail
          refine (net_any out Ad m cd _ HDq.out HIn.out).mono ?_
          rintro e w5 ⟨⟨-, Ag, cgg, rfl, hp⟩ | ⟨he, -⟩, hb5⟩
          rotate_left
          · exact absurd HE.out he
          rw [HL.out, HMl.out] at hp ⊢
          have HPg := aside hp
          have HOw5 := aside ((FSl.below HOq.out hb5).more hb5.size)
          have H5 := aside (H3.out.trans ((below_drawn (Below.refl wr.heap.size wr) q |>.trans hb5).mono H3.out.size))
          clear hp hb5
          go_wp2_with fail
          refine (piles_same _ _ _ _ _ _ _ HPg.out HOw5.out (by omega)).mono ?_
          rintro e w6 ⟨rfl, q6, rfl⟩
          have hfew := HFew.out
          rw [HMl.out] at hfew
          rcases hfew with ⟨h1, h2⟩ | h1
          · subst h1 h2
            go_wp2
            go_ret
            exact ⟨by first | rfl | simp, below_drawn H5.out _⟩
          · have g1 : ((m1 : Int) == 0) = false := by simp; omega
            have g2 : (m : Int) < (m1 : Int) := by omega
            have g3 : (m1 = 0) = False := by simp only [eq_iff_iff, iff_false]; omega
            go_wp2
            go_ret
            exact ⟨by first | rfl | simp | (simp; omega), below_drawn H5.out _⟩
end Go.Proofs.Ytippdfmmlhpkfaa
