/- Settled: the reference's settling. Conditions: named in each theorem. -/
import Derived.Test.YtippdfmmlhpkfaaDoorNetF
namespace Go.Proofs.YtippdfmmlhpkfaaDoor
open Go.RowKit Go.ChangeShapes Go.WideShapes Go.ChangeAt

/-- What Settled leaves. -/
def SettledPost (ps : List Ln) (w : World) (e : Ending) (w' : World) : Prop :=
  ∃ A c out, e = .returned (.slice A out.length c) ∧ DSl w' w'.heap.size A out.length out ∧ Run ps out ∧ Below w.heap.size w w'
theorem not_all {own : List Ln} {i : Nat} (hi : First Neg own i) (ht : total own = 0) {j : Nat} (h : ∀ k, k < j → ¬ Pos (at_ own k)) : j < own.length := by
  rcases Nat.lt_or_ge j own.length with h1 | h1
  · exact h1
  · refine absurd ht (neg_total hi fun p hp => ?_)
    obtain ⟨k, hk, rfl⟩ := mem_at hp
    exact h k (by omega)

set_option maxHeartbeats 16000000 in
set_option maxRecDepth 100000 in
theorem settled_any (ps : List Ln) (A : Option Addr) (n c : Nat) (w : World) (h : PSl w w.heap.size A n ps) (he : rErr ps = 0) :
    Calls Tryd.prog 12 #[.slice A n c] w (SettledPost ps w) := by
  have hlen := PSl.len2 h
  obtain ⟨h60, hok, hri, htot⟩ := rErr_zero he
  have HOk := aside hok
  have HRi := aside hri
  have hst := St.start htot
  have HSt := aside hst
  have hn60 : n ≤ 60 := by omega
  have HP := aside h
  clear hok hri htot hst h60 he h
  go_enter Tryd.func12, Tryd.ntmps12
  go_wp2_with (first
    | (at_builtin; refine wpList_concat rfl (.tmp 8) (.tmp 9) 23 rfl w.heap.size _ 2 16 Tryd.underlying23 pileInfo rfl (by decide) _ 0 [] rfl (⟨by simp, .inl ⟨rfl, rfl⟩⟩) w.heap.size A n c _ rfl HP.out one_piles (by omega) (by unfold maxLen; omega) (Nat.le_refl _) ?_; intro G cg w2 hc2 hc2' hown hb2 hg2; simp only [Nat.zero_add, List.nil_append] at hown)
    | fail)
  have HFz := aside (frozen_own hown)
  have HFar : Hid (Far w.heap.size G) := aside (far_own hown)
  have HG := aside (Sl.own hown : PSl w2 w2.heap.size G n ps)
  have H2 := aside hb2
  have hz2 := hb2.size
  clear hown hb2 hg2 HP
  go_wp2_with fail
  go_loopw [4, 5, 6] (fun v4 v5 v6 wr => ∃ (own : List Ln) (out : List Db) (A' : Option Addr) (c' i j : Nat), v4 = .slice A' out.length c' ∧ v5 = .int .i64 i ∧ v6 = .int .i64 j ∧ i ≤ n ∧ j ≤ n ∧ Hid (∀ k, k < i → ¬ Neg (at_ own k)) ∧ Hid (∀ k, k < j → ¬ Pos (at_ own k)) ∧ Hid (St ps own out) ∧ Hid (PSl wr w2.heap.size G n own) ∧ Hid (∀ b o s, G = some ⟨b, o, s⟩ → ∀ i, wr.frozen? ⟨b, i, none⟩ = false) ∧ Hid (wr.ownsRow w2.heap.size 41 3 (.slice A' out.length c') out.length (out.flatMap dbV)) ∧ w2.heap.size ≤ wr.heap.size ∧ Below w.heap.size w wr) (fun v4 v5 v6 _ => (n - (Go.RowKit.intOf v5).toNat) + (n - (Go.RowKit.intOf v6).toNat) + 2 * (100 - lenOf v4))
  case atStart => exact ⟨ps, [], none, 0, 0, 0, rfl, rfl, rfl, Nat.zero_le _, Nat.zero_le _, aside (fun k hk => absurd hk (Nat.not_lt_zero k)), aside (fun k hk => absurd hk (Nat.not_lt_zero k)), HSt, HG, aside (fun b o s e => (HFz.out b o s e).2), aside ⟨by simp, .inl ⟨rfl, rfl⟩⟩, Nat.le_refl _, H2.out⟩
  case round =>
    obtain ⟨own, out, A1, c1, i, j, rfl, rfl, rfl, hin, hjn, HN, HPo, HS, HP, HF, HR, hz, hb⟩ := hrel
    have hbz := hb.size
    have HBL := aside hb
    have hol : own.length = n := by rw [HS.out.len, hlen]
    clear hb
    by_cases i1 : i < n
    rotate_left
    · have e1 : ((i : Int) < (n : Int)) = False := by simp only [eq_iff_iff, iff_false]; omega
      obtain rfl : i = n := by omega
      go_wp2
      go_ret
      refine ⟨A1, c1, out, rfl, Sl.own HR.out, ?_, HBL.out⟩
      have h1 := HS.out.run [] (.stop fun p hp => by
        obtain ⟨k, hk, rfl⟩ := mem_at hp
        exact HN.out k (by omega))
      rw [List.append_nil] at h1
      exact h1
    have e1 : (i : Int) < (n : Int) := by omega
    have e2 : (0 : Int) ≤ (i : Int) := by omega
    obtain ⟨g, off, hG, hlt, x0, x1⟩ := PSl.at2 HP.out i1
    subst hG
    have hbi := HS.out.bounds HOk.out i (by omega)
    have HA : Hid (own.getD i (0, 0) = at_ own i) := aside rfl
    rw [HA.out] at x0 x1
    have lr : g < wr.heap.size := by omega
    by_cases ha : 0 ≤ (at_ own i).2
    · have HNx : Hid (∀ k, k < i + 1 → ¬ Neg (at_ own k)) := aside (by
        intro k hk
        by_cases e : k = i
        · subst e; unfold Neg; omega
        · exact HN.out k (by omega))
      generalize (at_ own i).2 = a at x1 ha hbi
      generalize (at_ own i).1 = s at x0
      go_wp2
      exact ⟨⟨own, out, A1, c1, i + 1, j, rfl, by go_num, rfl, by omega, hjn, HNx, HPo, HS, HP, HF, HR, hz, HBL.out⟩, by simp [Go.RowKit.intOf]; omega⟩
    have hni : (at_ own i).2 < 0 := by omega
    have HFi : Hid (First Neg own i) := aside ⟨by omega, hni, HN.out⟩
    have hjl : j < n := by have := not_all HFi.out HS.out.tot HPo.out; omega
    have e3 : (j : Int) < (n : Int) := by omega
    have e4 : (0 : Int) ≤ (j : Int) := by omega
    obtain ⟨g2, off2, hG2, -, y0, y1⟩ := PSl.at2 HP.out hjl
    injection hG2 with hG2
    injection hG2 with hG2 hG3
    subst hG2 hG3
    have hbj := HS.out.bounds HOk.out j (by omega)
    have HA2 : Hid (own.getD j (0, 0) = at_ own j) := aside rfl
    rw [HA2.out] at y0 y1
    have ha' : (0 ≤ (at_ own i).2) = False := by simp only [eq_iff_iff, iff_false]; exact ha
    by_cases hb : (at_ own j).2 ≤ 0
    · have HPx : Hid (∀ k, k < j + 1 → ¬ Pos (at_ own k)) := aside (by
        intro k hk
        by_cases e : k = j
        · subst e; unfold Pos; omega
        · exact HPo.out k (by omega))
      clear ha
      generalize (at_ own i).2 = a at x1 ha' hbi hni
      generalize (at_ own i).1 = s at x0
      generalize (at_ own j).2 = b at y1 hb hbj
      generalize (at_ own j).1 = t at y0
      go_wp2
      exact ⟨⟨own, out, A1, c1, i, j + 1, rfl, rfl, by go_num, hin, by omega, HN, HPx, HS, HP, HF, HR, hz, HBL.out⟩, by simp [Go.RowKit.intOf]; omega⟩
    have hpj : 0 < (at_ own j).2 := by omega
    have HFj : Hid (First Pos own j) := aside ⟨by omega, hpj, HPo.out⟩
    have hb' : ((at_ own j).2 ≤ 0) = False := by simp only [eq_iff_iff, iff_false]; exact hb
    have hij : i ≠ j := ne_of_first HFi.out HFj.out
    have HSt1 := aside (HS.out.step HRi.out HFi.out HFj.out)
    have HXi : Hid (∀ k, k < i → ¬ Neg (at_ (then_ own i j) k)) := aside (by
      intro k hk
      have hm := much_pos HFi.out HFj.out
      rw [at_then HFi.out HFj.out, if_neg (by omega)]
      by_cases e : k = j
      · rw [if_pos e]; unfold Neg; simp only; omega
      · rw [if_neg e]; exact HN.out k hk)
    have HXj : Hid (∀ k, k < j → ¬ Pos (at_ (then_ own i j) k)) := aside (by
      intro k hk
      have hm := much_pos HFi.out HFj.out
      rw [at_then HFi.out HFj.out]
      by_cases e : k = i
      · rw [if_pos e]; unfold Pos; simp only; omega
      · rw [if_neg e, if_neg (by omega)]; exact HPo.out k hk)
    have HDe0 : Hid (debt own i j = ((at_ own i).1, (at_ own j).1, min (-(at_ own i).2) (at_ own j).2)) := aside rfl
    have HTh0 : Hid (then_ own i j = (own.set i ((at_ own i).1, (at_ own i).2 + min (-(at_ own i).2) (at_ own j).2)).set j ((at_ own j).1, (at_ own j).2 - min (-(at_ own i).2) (at_ own j).2)) := aside rfl
    have HA1 : Hid ((at_ own i).1 = (at_ own i).1 ∧ (at_ own j).1 = (at_ own j).1) := aside ⟨rfl, rfl⟩
    have hai : at_ own i = ((at_ own i).1, (at_ own i).2) := rfl
    have haj : at_ own j = ((at_ own j).1, (at_ own j).2) := rfl
    have HAi := aside hai
    have HAj := aside haj
    clear ha hb hai haj
    generalize hga : (at_ own i).2 = a at *
    generalize hgs : (at_ own i).1 = s at *
    generalize hgb : (at_ own j).2 = b at *
    generalize hgt : (at_ own j).1 = t at *
    clear hga hgs hgb hgt
    obtain ⟨m, hm⟩ : ∃ m, m = min (-a) b := ⟨_, rfl⟩
    rw [← hm] at HDe0 HTh0
    have hm0 : 0 < m ∧ m ≤ -a ∧ m ≤ b := by omega
    have hms : (b < -a ∧ m = b) ∨ (¬ b < -a ∧ m = -a) := by omega
    have hol100 : out.length ≤ 60 := by
      have h1 := HS.out.count
      have h2 : nz ps ≤ ps.length := List.countP_le_length
      omega
    have HW0 : Hid (wrap64 (0 - a) = -a) := aside (by unfold wrap64; omega)
    have HV1 : Hid (wrap64 (a + m) = a + m) := aside (by unfold wrap64; omega)
    have HV2 : Hid (wrap64 (b - m) = b - m) := aside (by unfold wrap64; omega)
    clear hm
    have HP5 : Hid (PSl wr w2.heap.size (some ⟨g, off, none⟩) n own) := HP
    have HF5 : Hid (∀ i, wr.frozen? ⟨g, i, none⟩ = false) := aside fun i => HF.out _ _ _ rfl i
    have HC5 := aside (And.intro (And.intro x0 y0) (And.intro x1 y1))
    have hgw : w.heap.size ≤ g := HFar.out _ _ _ rfl
    rcases hms with ⟨hlt2, hmb⟩ | ⟨hlt2, hmb⟩
    all_goals
      have HMb := aside hmb
      clear hmb
      have hw0 := HW0.out
      go_wp2_with fail
      rw [← HMb.out]
      clear hw0
      have HS0 := pair_drew ⟨x0, y0⟩
      have HS1 := fun c => pair_alloc_drew (c := c) lr ⟨x0, y0⟩
      go_region_held3 (fun v => v.cell? ⟨g, off + i * 2, none⟩ = some (.int .i64 s) ∧ v.cell? ⟨g, off + j * 2, none⟩ = some (.int .i64 t))
        (with_reducible (first | exact HS0 | exact HS1 _ | exact HS3))
        (first
          | (refine step_push1 (by rfl) _ _ 22 41 (by rfl) Tryd.underlying22 debtInfo rfl (by decide) (base := w2.heap.size) (n := out.length) (cs := [.int .i64 s, .int .i64 t, .int .i64 m]) (by rfl) (by rfl) (World.ownsRow.alloc HR.out _) rfl (cells3 rfl) one3 (by unfold maxLen; omega) (by omega) (by first | exact Nat.le_trans hz (Nat.le_succ _) | (simp; omega)) ?_; intro A5 c5 w6 hown6 hb6 hg6; have hb6w : Below w2.heap.size wr w6 := ((Below.refl _ _).alloc hz _).trans ⟨hb6.os, hb6.tape, hb6.output, hb6.size, hb6.block⟩; have HS3 := pair_keep hb6w hlt HC5.out.1; skip))
      have HO6 := aside hown6
      have HB6 : Hid (Below w.heap.size w w6) := aside (HBL.out.trans (hb6w.mono hz2))
      have HP6 := aside (FSl.below HP5.out hb6w)
      have fz := fun k => (hb6w.frozen (p := ⟨g, k, none⟩) hlt).trans (HF5.out k)
      obtain ⟨x1', y1'⟩ := pair_keep hb6w hlt HC5.out.2
      have hz6 : w2.heap.size ≤ w6.heap.size := by have := hb6w.size; omega
      have l6 : g < w6.heap.size := by omega
      have hne1 : off + j * 2 + 1 ≠ off + i * 2 + 1 := by omega
      have hne2 : off + i * 2 + 1 ≠ off + j * 2 + 1 := by omega
      clear hown6 hb6 hg6 hb6w HS0 HS1 HS3
      have hv1 := HV1.out
      have hv2 := HV2.out
      go_wp2
      clear hv1 hv2
      have hPn : PSl ((w6.setCell ⟨g, off + i * 2 + 1, none⟩ (.int .i64 (a + m))).setCell ⟨g, off + j * 2 + 1, none⟩ (.int .i64 (b - m))) w2.heap.size (some ⟨g, off, none⟩) n (then_ own i j) := by
        have h1 := PSl.set HP6.out i1 (a + m)
        rw [HAi.out] at h1
        have h2 := PSl.set h1 hjl (b - m)
        rw [at_set_ne hij, HAj.out] at h2
        rw [HTh0.out]
        exact h2
      have hne : (Value.slice A5 (out.length + 1) c5).ownBlock ≠ some g := fun e => by have := own_block_ge HO6.out _ e; omega
      have hlo : (out ++ [debt own i j]).length = out.length + 1 := by simp
      refine ⟨⟨then_ own i j, out ++ [debt own i j], A5, c5, i, j, by rw [hlo], rfl, rfl, hin, hjn, HXi, HXj, HSt1, aside hPn, aside ?_, aside ?_, by simpa using hz6, (HB6.out.setCell hgw _).setCell hgw _⟩, ?_⟩
      · intro b1 o s1 e k
        injection e with e
        injection e with e1 e2
        subst e1
        simp [go_sem, fz]
      · rw [HDe0.out, flatD_app]
        have h1 := ownsRow_setCell_other (ownsRow_setCell_other HO6.out (a := ⟨g, off + i * 2 + 1, none⟩) hne (.int .i64 (a + m))) (a := ⟨g, off + j * 2 + 1, none⟩) hne (.int .i64 (b - m))
        have hl2 : (out ++ [(s, t, m)]).length = out.length + 1 := by simp
        rw [hl2]
        exact h1
      · show _ + _ + 2 * (100 - (out.length + 1)) < _ + _ + 2 * (100 - out.length)
        omega
end Go.Proofs.YtippdfmmlhpkfaaDoor
