/- What is told of the least choice, of the first ones and of the greatest: plain laws of PickLeast and PickOrder. Conditions: named in each theorem. -/
import Derived.Test.YtgickjghfndaaaaDoorPickH
namespace Go.Proofs.YtgickjghfndaaaaDoor

theorem range_vals (ns : List Int) : ∀ n, n ≤ ns.length → (rangeZ n).map (atZ ns) = ns.take n
  | 0, _ => rfl
  | n + 1, h => by
    rw [rangeZ_succ, List.map_append, range_vals ns n (by omega), List.take_add_one, List.getElem?_eq_getElem (by omega)]
    show _ ++ [atZ ns (n : Int)] = _
    unfold atZ
    rw [Int.toNat_natCast, nth_get (by omega)]
    rfl
theorem rise_nodup {p : List Int} (h : Rise p) : p.Nodup := List.Pairwise.imp (fun {a b} (h : a < b) (e : a = b) => by omega) h
theorem sub_of {n : Nat} {q : List Int} (hd : q.Nodup) (hok : ∀ x ∈ q, OkZ n x) : q.Perm ((rangeZ n).filter (fun x => decide (x ∈ q))) := by
  refine (List.perm_ext_iff_of_nodup hd ((rise_nodup (rangeZ_rise n)).filter _)).2 fun x => ?_
  rw [List.mem_filter, rangeZ_mem, decide_eq_true_iff]
  exact ⟨fun h => ⟨hok x h, h⟩, fun h => h.2⟩
/-- Different places are worth what some of the amounts are. -/
theorem vals_sub {ns : List Int} {n : Nat} (hn : ns.length = n) {q : List Int} (hd : q.Nodup) (hok : ∀ x ∈ q, OkZ n x) : ∃ c : List Int, c.Sublist ns ∧ c.sum = sumG (atZ ns) q ∧ c.length = q.length := by
  have hp := sub_of hd hok
  refine ⟨((rangeZ n).filter (fun x => decide (x ∈ q))).map (atZ ns), ?_, ?_, ?_⟩
  · have h := ((List.filter_sublist (l := rangeZ n) (p := fun x => decide (x ∈ q))).map (atZ ns))
    subst hn
    rwa [range_vals ns _ (Nat.le_refl _), List.take_length] at h
  · exact (sumG_perm hp).symm
  · rw [List.length_map]; exact hp.length_eq.symm
/-- What is told of places that Exact tells. -/
structure Lst (ns : List Int) (want : Int) (n : Nat) (p : List Int) : Prop where
  rise : Rise p
  ok : ∀ x ∈ p, OkZ n x
  len : p.length ≤ n
  enough : want ≤ sumG (atZ ns) p
  most : 0 ≤ sumG (atZ ns) p ∧ sumG (atZ ns) p ≤ 1125899906842624
  pos : ∀ x ∈ p, 0 ≤ atZ ns x
  least : ∀ q : List Int, q.Nodup → (∀ x ∈ q, OkZ n x) → want ≤ sumG (atZ ns) q → Lex (sumG (atZ ns) p) p.length (sumG (atZ ns) q) q.length
theorem pick_sum {ns : List Int} {want : Int} (h0 : ∀ x ∈ ns, 0 ≤ x) (hw : want ≤ ns.sum) : sumG (atZ ns) (pickF ns 0 want) = (bestF ns want).s ∧ ((pickF ns 0 want).length : Int) = (bestF ns want).k ∧ want ≤ (bestF ns want).s := by
  have hv : (pickF ns 0 want).map (atZ ns) = valsF ns want := pickF_vals ns 0 want fun j _ => by unfold atZ; rw [Int.zero_add, Int.toNat_natCast]
  have hl := (bestF_least ns h0 want ns (List.Sublist.refl _) hw).1
  obtain ⟨s1, s2, s3⟩ := valsF_sum ns want hl
  refine ⟨?_, ?_, s3⟩
  · unfold sumG
    rw [hv, s1]
  · rw [← s2, ← hv, List.length_map]
theorem lst_of {ns : List Int} {want : Int} {n : Nat} (hn : ns.length = n) (hq : pickQ ns want = 0) : Lst ns want n (pickF ns 0 want) := by
  obtain ⟨q1, q2, q3, q4, q5, q6⟩ := pickQ_zero hq
  have h0 : ∀ x ∈ ns, 0 ≤ x := fun x hx => (q2 x hx).1
  obtain ⟨s1, s2, s3⟩ := pick_sum h0 q6
  have hin := bestF_in ns h0 want
  have hpi := pickF_in ns 0 want
  unfold totZ at q5
  have hok : ∀ x ∈ pickF ns 0 want, OkZ n x := fun x hx => by
    have := hpi.1 x hx
    unfold OkZ
    omega
  refine ⟨hpi.2, hok, by omega, by omega, by omega, fun x hx => (atZ_nonneg hn q2 (hok x hx)).1, fun q hd hqo hw => ?_⟩
  obtain ⟨c, c1, c2, c3⟩ := vals_sub hn hd hqo
  have h := (bestF_least ns h0 want c c1 (by omega)).2
  rw [s1, s2, ← c2, ← c3]
  exact h
/-- What is told of places till it is enough, in an order. -/
structure Tkn (ns : List Int) (want : Int) (n : Nat) (p : List Int) : Prop where
  ok : ∀ x ∈ p, OkZ n x
  len : p.length ≤ n
  dup : p.Nodup
  enough : want ≤ sumG (atZ ns) p
  most : 0 ≤ sumG (atZ ns) p ∧ sumG (atZ ns) p ≤ 1125899906842624
  pos : ∀ x ∈ p, 0 ≤ atZ ns x
theorem tkn_of {ns : List Int} {want : Int} {n : Nat} {p o : List Int} (hn : ns.length = n) (hq : pickQ ns want = 0) (hp : p = (takeT (atZ ns) want o).mergeSort (fun x y => decide (x ≤ y))) (ho : o.Perm (rangeZ n)) : Tkn ns want n p := by
  obtain ⟨q1, q2, q3, q4, q5, q6⟩ := pickQ_zero hq
  have hpp : p.Perm (takeT (atZ ns) want o) := by rw [hp]; exact List.mergeSort_perm _ _
  obtain ⟨k, hk, he, -⟩ := takeT_head (atZ ns) o want
  have hoo : ∀ x ∈ o, OkZ n x := fun x hx => rangeZ_mem.1 (ho.mem_iff.1 hx)
  have hpos : ∀ x ∈ o, 0 ≤ atZ ns x := fun x hx => (atZ_nonneg hn q2 (hoo x hx)).1
  have hmem : ∀ x ∈ p, x ∈ o := fun x hx => by
    have := hpp.mem_iff.1 hx
    rw [he] at this
    exact List.mem_of_mem_take this
  have hso : sumG (atZ ns) o = totZ ns := by
    rw [sumG_perm ho, sumG_range ns n (by omega), ← hn, List.take_length]
    rfl
  have hsp : sumG (atZ ns) p = sumG (atZ ns) (takeT (atZ ns) want o) := sumG_perm hpp
  have htk := sumG_take hpos k
  rw [← he, ← hsp, hso] at htk
  have hdo : o.Nodup := ho.nodup_iff.2 (rise_nodup (rangeZ_rise n))
  refine ⟨fun x hx => hoo x (hmem x hx), ?_, ?_, ?_, by omega, fun x hx => hpos x (hmem x hx)⟩
  · rw [hpp.length_eq, he, List.length_take]
    have := ho.length_eq
    rw [rangeZ_len] at this
    omega
  · refine hpp.nodup_iff.2 ?_
    rw [he]
    exact hdo.sublist (List.take_sublist _ _)
  · rw [hsp]
    exact takeT_enough (atZ ns) o want (by omega) hpos
theorem lst_tkn {ns : List Int} {want : Int} {n : Nat} {p q : List Int} (h : Lst ns want n p) (h2 : Tkn ns want n q) : sumG (atZ ns) p ≤ sumG (atZ ns) q := by
  have := h.least q h2.dup h2.ok h2.enough
  unfold Lex at this
  omega
/-- From the last to the first: as much, and as many. -/
theorem rev_sum (ns : List Int) : ns.reverse.sum = ns.sum := by rw [List.sum_reverse]
theorem best_le {ns ms : List Int} {want : Int} (h0 : ∀ x ∈ ns, 0 ≤ x) (h1 : ∀ x ∈ ms, 0 ≤ x) (hw : want ≤ ns.sum) (hs : ∃ c : List Int, c.Sublist ms ∧ c.sum = (valsF ns want).sum ∧ c.length = (valsF ns want).length) : Lex (bestF ms want).s (bestF ms want).k (bestF ns want).s (bestF ns want).k := by
  obtain ⟨c, c1, c2, c3⟩ := hs
  have hl := (bestF_least ns h0 want ns (List.Sublist.refl _) hw).1
  obtain ⟨s1, s2, s3⟩ := valsF_sum ns want hl
  have h := (bestF_least ms h1 want c c1 (by omega)).2
  rw [c2, c3, s1, s2] at h
  exact h
theorem best_rev {ns : List Int} {want : Int} (h0 : ∀ x ∈ ns, 0 ≤ x) (hw : want ≤ ns.sum) : (bestF ns want).s = (bestF ns.reverse want).s ∧ (bestF ns want).k = (bestF ns.reverse want).k := by
  have h1 : ∀ x ∈ ns.reverse, 0 ≤ x := fun x hx => h0 x (List.mem_reverse.1 hx)
  have a := best_le h0 h1 hw ⟨(valsF ns want).reverse, (valsF_sub ns want).reverse, rev_sum _, List.length_reverse⟩
  have b := best_le h1 h0 (by rw [rev_sum]; exact hw) ⟨(valsF ns.reverse want).reverse, by have := (valsF_sub ns.reverse want).reverse; rwa [List.reverse_reverse] at this, rev_sum _, List.length_reverse⟩
  unfold Lex at a b
  omega
theorem best_more {ns : List Int} {want more : Int} (h0 : ∀ x ∈ ns, 0 ≤ x) (hm : 0 ≤ more) (hw : want ≤ ns.sum) : (bestF (ns ++ [more]) want).s ≤ (bestF ns want).s := by
  have h1 : ∀ x ∈ ns ++ [more], 0 ≤ x := fun x hx => by
    rcases List.mem_append.1 hx with h | h
    · exact h0 x h
    · simp at h; omega
  have a := best_le h0 h1 hw ⟨valsF ns want, (valsF_sub ns want).trans (List.sublist_append_left _ _), rfl, rfl⟩
  unfold Lex at a
  omega
theorem pickQ_rev (ns : List Int) (want : Int) : pickQ ns.reverse want = pickQ ns want := by
  unfold pickQ totZ
  simp only [List.length_reverse, List.mem_reverse, rev_sum]
/-- What Great tells of amounts and of the same from the last to the first. -/
theorem great_alike {ns ms : List Int} {want : Int} {n : Nat} {o o' : List Int} (hn : ns.length = n) (hm : ms.length = n) (hp : ns.Perm ms) (h1 : o.Perm (rangeZ n)) (h2 : o'.Perm (rangeZ n)) (s1 : o.Pairwise (LtG (atZ ns))) (s2 : o'.Pairwise (LtG (atZ ms))) : (takeT (atZ ns) want o).map (atZ ns) = (takeT (atZ ms) want o').map (atZ ms) := by
  refine takeT_vals _ _ _ ?_
  refine vals_sorted ?_ (vals_falls (falls_of s1)) (vals_falls (falls_of s2))
  have a := h1.map (atZ ns)
  have b := h2.map (atZ ms)
  rw [range_vals ns n (by omega), ← hn, List.take_length] at a
  rw [range_vals ms n (by omega), ← hm, List.take_length] at b
  exact a.trans (hp.trans b.symm)
theorem sorted_sum {g h : Int → Int} {a b p q : List Int} (e : a.map g = b.map h) (hp : p = a.mergeSort (fun x y => decide (x ≤ y))) (hq : q = b.mergeSort (fun x y => decide (x ≤ y))) : p.length = q.length ∧ sumG g p = sumG h q := by
  have p1 : p.Perm a := by rw [hp]; exact List.mergeSort_perm _ _
  have p2 : q.Perm b := by rw [hq]; exact List.mergeSort_perm _ _
  refine ⟨?_, ?_⟩
  · rw [p1.length_eq, p2.length_eq, ← List.length_map (f := g), e, List.length_map]
  · rw [sumG_perm p1, sumG_perm p2]
    unfold sumG
    rw [e]
end Go.Proofs.YtgickjghfndaaaaDoor
