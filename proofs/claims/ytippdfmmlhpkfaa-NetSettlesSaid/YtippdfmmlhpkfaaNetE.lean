/- What settled piles net to: plain laws. Conditions: named in each theorem. -/
import Derived.Test.YtippdfmmlhpkfaaNetS
import Derived.Test.YtippdfmmlhpkfaaNetA
namespace Go.Proofs.Ytippdfmmlhpkfaa
open Go.RowKit Go.ChangeShapes Go.WideShapes Go.ChangeAt

/-- The piles that are not 0. -/
def ownOf (ps : List Ln) : List Ln := ps.filter fun p => p.2 != 0
theorem nz_len (ps : List Ln) : nz ps = (ownOf ps).length := by simp [nz, ownOf, List.countP_eq_length_filter]
theorem zero_of_total : ∀ {xs : List Ln}, (∀ p ∈ xs, 0 ≤ p.2) → total xs = 0 → ∀ p ∈ xs, p.2 = 0
  | [], _, _, _, h => by cases h
  | x :: r, h, ht, p, hp => by
    have e : total (x :: r) = x.2 + total r := by simp [total]
    have hx := h x (by simp)
    have hr : 0 ≤ total r := by
      have : ∀ (ys : List Ln), (∀ q ∈ ys, 0 ≤ q.2) → 0 ≤ total ys := by
        intro ys
        induction ys with
        | nil => intro _; simp [total]
        | cons y s ih =>
          intro h
          have h1 := ih fun q hq => h q (by simp [hq])
          have h2 := h y (by simp)
          have e : total (y :: s) = y.2 + total s := by simp [total]
          omega
      exact this r fun q hq => h q (by simp [hq])
    rw [e] at ht
    rcases List.mem_cons.1 hp with rfl | hp
    · omega
    · exact zero_of_total (fun q hq => h q (by simp [hq])) (by omega) p hp
section
variable {ps own : List Ln} {out : List Db}
theorem St.even (h : St ps own out) (hno : ∀ p ∈ own, ¬ Neg p) : ∀ k, k < ps.length → (at_ own k).2 = 0 := fun k hk =>
  zero_of_total (fun p hp => by have := hno p hp; unfold Neg at this; omega) h.tot _ (at_mem (by rw [h.len]; exact hk))
theorem St.sum (h : St ps own out) (hno : ∀ p ∈ own, ¬ Neg p) (k : Nat) (hk : k < ps.length) : sumAt (at_ ps k).1 (lnsOf out) = (at_ ps k).2 := by
  have h1 := h.bal k hk
  have h2 := h.even hno k hk
  omega
theorem St.nets (h : St ps own out) (hr : Rises ps) (hno : ∀ p ∈ own, ¬ Neg p) : netL out = ownOf ps := by
  refine netL_is (List.Pairwise.sublist ((List.filter_sublist (l := ps) (p := fun p => p.2 != 0)).map _) hr) fun s v => ?_
  unfold ownOf
  rw [List.mem_filter]
  constructor
  · rintro ⟨hm, hv⟩
    obtain ⟨k, hk, e⟩ := mem_at hm
    have hs := h.sum hno k hk
    rw [e] at hs
    simp only at hs
    refine ⟨?_, hs.symm⟩
    refine Classical.byContradiction fun hn => ?_
    have h0 : sumAt s (lnsOf out) = 0 := sumAt_none fun u hu => hn ⟨_, hu, rfl⟩
    simp at hv
    exact hv (hs.symm.trans h0)
  · rintro ⟨⟨l, hl, rfl⟩, hv⟩
    obtain ⟨d, hd, hl⟩ := List.mem_flatMap.1 hl
    obtain ⟨hd1, i, j, hi, hj, e1, e2, g1, g2, _⟩ := h.debts d hd
    simp at hl
    rcases hl with rfl | rfl
    · have hs := h.sum hno j hj
      simp only at hv ⊢
      rw [e2] at hv ⊢
      rw [hs] at hv
      subst hv
      exact ⟨at_mem hj, by simp; omega⟩
    · have hs := h.sum hno i hi
      simp only at hv ⊢
      rw [e1] at hv ⊢
      rw [hs] at hv
      subst hv
      exact ⟨at_mem hi, by simp; omega⟩
theorem St.ok (h : St ps own out) (hl : ps.length ≤ 60) (hok : ∀ p ∈ ps, PlOk p) (hr : Rises ps) (hno : ∀ p ∈ own, ¬ Neg p) : nErr out = 0 := by
  have hc := h.count
  have hz : nz ps ≤ ps.length := List.countP_le_length
  have hd : dErr out = 0 := dErr_ok (by omega) fun d hd => by
    obtain ⟨hd1, i, j, hi, hj, e1, e2, g1, g2, g3⟩ := h.debts d hd
    have p1 := hok _ (at_mem hi)
    have p2 := hok _ (at_mem hj)
    unfold PlOk at p1 p2
    exact ⟨by omega, by omega, by unfold Money; omega⟩
  unfold nErr
  rw [if_pos hd, h.nets hr hno, if_neg (by rw [← nz_len]; omega)]
theorem St.fewer (h : St ps own out) : (ownOf ps).length = 0 ∧ out.length = 0 ∨ out.length < (ownOf ps).length := by
  rw [← nz_len]
  rcases h.less with rfl | h1
  · rcases Nat.eq_zero_or_pos (nz ps) with h0 | h0
    · exact .inl ⟨h0, rfl⟩
    · exact .inr h0
  · exact .inr h1
theorem St.apart (h : St ps own out) (hr : Rises ps) {d e : Db} (hd : d ∈ out) (he : e ∈ out) : d.1 ≠ e.2.1 := by
  obtain ⟨_, i, j, hi, hj, e1, e2, g1, g2, _⟩ := h.debts d hd
  obtain ⟨_, i', j', hi', hj', e1', e2', g1', g2', _⟩ := h.debts e he
  rw [e1, e2']
  intro e3
  have := rises_at hr hi hj' e3
  subst this
  omega
end
end Go.Proofs.Ytippdfmmlhpkfaa
