/- What picked coins are worth; picked is true; fewer are not enough: plain law. Conditions: named in each theorem. -/
import Derived.Test.YtgickjghfndaaaaDoorPickD
import Derived.Deep.QuietTactic
import Derived.BigQuiet
namespace Go.Proofs.YtgickjghfndaaaaDoor
open Go.RowKit Go.ChangeShapes Go.WideShapes Go.ChangeAt

set_option maxHeartbeats 4000000 in
theorem ints_same (zs : List Int) (A A' : Option Addr) (n c c' : Nat) (w : World) (h : ISl w w.heap.size A n zs) (h' : ISl w w.heap.size A' n zs) (hn : n ≤ 1000) :
    Calls Tryd.prog 12 #[.slice A n c, .slice A' n c'] w fun e w' => e = .returned (.bool true) ∧ Below w.heap.size w w' := by
  have hnn : ((n : Int) != n) = false := by simp
  go_enter Tryd.func12, Tryd.ntmps12
  go_wp2_with fail
  go_loopw [5] (fun v5 wr => ∃ (k q : Nat), k ≤ n ∧ v5 = .int .i64 k ∧ wr = w.drewN q) (fun v5 _ => n - (Go.RowKit.intOf v5).toNat)
  case atStart => exact ⟨0, 0, Nat.zero_le _, rfl, rfl⟩
  case round =>
    obtain ⟨k, q, hk, rfl, rfl⟩ := hrel
    by_cases hlt : k < n
    · obtain ⟨b, o, rfl, hb, hc⟩ := h.at_ hlt
      obtain ⟨b', o', rfl, hb', hc'⟩ := h'.at_ hlt
      have hi1 : (k : Int) < (n : Int) := by omega
      have hi2 : (0 : Int) ≤ (k : Int) := by omega
      have hq : (nth zs k != nth zs k) = false := by simp
      go_wp2_with fail
      go_quiet (fail)
      go_wp2
      exact ⟨⟨k + 1, _, by omega, by go_num, rfl⟩, by simp [Go.RowKit.intOf]; omega⟩
    · obtain rfl : n = k := by omega
      go_wp2
      go_ret
      exact ⟨rfl, below_drawn (Below.refl _ _) _⟩
theorem sumG_take {g : Int → Int} {p : List Int} (h : ∀ x ∈ p, 0 ≤ g x) (k : Nat) : 0 ≤ sumG g (p.take k) ∧ sumG g (p.take k) ≤ sumG g p := by
  have e : sumG g p = sumG g (p.take k) + sumG g (p.drop k) := by rw [← sumG_app, List.take_append_drop]
  have h1 := sumG_nonneg (g := g) (p := p.take k) fun x hx => h x (List.mem_of_mem_take hx)
  have h2 := sumG_nonneg (g := g) (p := p.drop k) fun x hx => h x (List.mem_of_mem_drop hx)
  omega
theorem sumG_next {g : Int → Int} {p : List Int} {k : Nat} (h : k < p.length) : sumG g (p.take (k + 1)) = sumG g (p.take k) + g (nth p k) := by
  rw [List.take_add_one, List.getElem?_eq_getElem h, sumG_app, nth_get h]
  show _ + (g _ + 0) = _
  omega
set_option maxHeartbeats 4000000 in
set_option maxRecDepth 100000 in
theorem worth_any (ns : List Int) (A : Option Addr) (n c : Nat) (p : List Int) (P : Option Addr) (k c' : Nat) (w : World) (h : ISl w w.heap.size A n ns) (hp : ISl w w.heap.size P k p) (hk : k ≤ 1000) (hok : ∀ x ∈ p, OkZ n x) (h0 : ∀ x ∈ p, 0 ≤ atZ ns x) (hM : sumG (atZ ns) p ≤ 1125899906842624) :
    Calls Tryd.prog 28 #[.slice A n c, .slice P k c'] w (fun e w' => e = .returned (.int .i64 (sumG (atZ ns) p)) ∧ w' = w) := by
  have HLp := aside (ISl.len hp)
  have H := aside h
  have HP := aside hp
  have HOk := aside hok
  have H0 := aside h0
  have HM := aside hM
  clear h hp hok h0 hM
  go_enter Tryd.func28, Tryd.ntmps28
  go_wp2
  go_loopw [5, 6] (fun v5 v6 wr => ∃ i : Nat, i ≤ k ∧ v5 = .int .i64 (sumG (atZ ns) (p.take i)) ∧ v6 = .int .i64 i ∧ wr = w) (fun _ v6 _ => k - (Go.RowKit.intOf v6).toNat)
  case atStart => exact ⟨0, Nat.zero_le _, rfl, rfl, rfl⟩
  case round =>
    obtain ⟨i, hi, rfl, rfl, hw⟩ := hrel
    try subst hw
    by_cases hik : i < k
    · have i0 : (i : Int) < (k : Int) := by omega
      obtain ⟨b, of, hPe, hbl, cP⟩ := ISl.at_ HP.out hik
      have hx : nth p i ∈ p := nth_mem (by have := HLp.out; omega)
      have hxk := HOk.out _ hx
      obtain ⟨xi, hxi⟩ : ∃ q : Nat, nth p i = (q : Int) := ⟨(nth p i).toNat, by have := hxk.1; omega⟩
      have hst := sumG_next (g := atZ ns) (p := p) (k := i) (by have := HLp.out; omega)
      have hb1 := sumG_take H0.out i
      have hb2 := sumG_take H0.out (i + 1)
      have hm := HM.out
      rw [hxi] at cP hxk hst
      have hAt : atZ ns (xi : Int) = nth ns xi := by unfold atZ; rw [Int.toNat_natCast]
      rw [hAt] at hst
      have hxn : xi < n := by have := hxk.2; omega
      have hxz : (xi : Int) < (n : Int) := by omega
      obtain ⟨b', of', hAe, hbl', cA⟩ := ISl.at_ H.out hxn
      have HST := aside hst
      have hwr : IntKind.i64.wrap (sumG (atZ ns) (p.take i) + nth ns xi) = sumG (atZ ns) (p.take i) + nth ns xi := by rw [IntKind.wrap_i64]; omega
      generalize nth ns xi = y at cA hwr HST
      subst hPe hAe
      clear hx hxk hxi hst hb1 hb2 hm hAt hbl hbl'
      go_wp2
      exact ⟨⟨i + 1, by omega, by rw [HST.out], by go_num, by trivial⟩, by simp [Go.RowKit.intOf]; omega⟩
    · obtain rfl : k = i := by omega
      have i0 : ((k : Int) < (k : Int)) = False := by simp
      have HT : Hid (sumG (atZ ns) (p.take k) = sumG (atZ ns) p) := aside (by rw [← HLp.out, List.take_length])
      go_wp2
      go_ret
      exact ⟨by rw [← HT.out] <;> rfl, rfl⟩
theorem atZ_nonneg {ns : List Int} {n : Nat} (hn : ns.length = n) (h : ∀ x ∈ ns, 0 ≤ x ∧ x ≤ 1125899906842624) {x : Int} (hx : OkZ n x) : 0 ≤ atZ ns x ∧ atZ ns x ≤ 1125899906842624 := by
  unfold atZ OkZ at *
  exact h _ (nth_mem (by omega))
theorem sumG_range (ns : List Int) : ∀ k, k ≤ ns.length → sumG (atZ ns) (rangeZ k) = (ns.take k).sum
  | 0, _ => rfl
  | k + 1, h => by
    rw [rangeZ_succ, sumG_app, sumG_range ns k (by omega), sum_next (by omega)]
    show _ + (atZ ns (k : Int) + 0) = _
    unfold atZ
    rw [Int.toNat_natCast]
    omega
/-- What is told of Great's places, in plain words. -/
structure Few (ns : List Int) (want : Int) (n : Nat) (p : List Int) : Prop where
  ok : ∀ x ∈ p, OkZ n x
  len : p.length ≤ n
  enough : want ≤ sumG (atZ ns) p
  most : 0 ≤ sumG (atZ ns) p ∧ sumG (atZ ns) p ≤ 1125899906842624
  few : ∀ f : Int → Bool, ((rangeZ n).filter f).length < p.length → sumG (atZ ns) ((rangeZ n).filter f) < want
  less : p ≠ [] → ∀ y, (∃ x ∈ p, atZ ns x ≤ y) → sumG (atZ ns) p - y < want
  pos : ∀ x ∈ p, 0 ≤ atZ ns x
theorem few_of {ns : List Int} {want : Int} {n : Nat} {p o : List Int} (hn : ns.length = n) (hq : pickQ ns want = 0) (hp : p = (takeT (atZ ns) want o).mergeSort (fun x y => decide (x ≤ y))) (ho : o.Perm (rangeZ n)) (hs : o.Pairwise (LtG (atZ ns))) : Few ns want n p := by
  obtain ⟨q1, q2, q3, q4, q5, q6⟩ := pickQ_zero hq
  have hpp : p.Perm (takeT (atZ ns) want o) := by rw [hp]; exact List.mergeSort_perm _ _
  obtain ⟨k, hk, he, -⟩ := takeT_head (atZ ns) o want
  have hoo : ∀ x ∈ o, OkZ n x := fun x hx => rangeZ_mem.1 (ho.mem_iff.1 hx)
  have hpos : ∀ x ∈ o, 0 ≤ atZ ns x := fun x hx => (atZ_nonneg hn q2 (hoo x hx)).1
  have hmem : ∀ x ∈ p, x ∈ o := fun x hx => by
    have := hpp.mem_iff.1 hx
    rw [he] at this
    exact List.mem_of_mem_take this
  have hso : sumG (atZ ns) o = totZ ns := by
    rw [sumG_perm ho, sumG_range ns n (by omega), ← hn, List.take_length]
    rfl
  have hsp : sumG (atZ ns) p = sumG (atZ ns) (takeT (atZ ns) want o) := sumG_perm hpp
  have htk := sumG_take hpos k
  rw [← he, ← hsp, hso] at htk
  have hfl := falls_of hs
  refine ⟨fun x hx => hoo x (hmem x hx), ?_, ?_, by omega, ?_, ?_, fun x hx => hpos x (hmem x hx)⟩
  · rw [hpp.length_eq, he, List.length_take]
    have := ho.length_eq
    rw [rangeZ_len] at this
    omega
  · rw [hsp]
    exact takeT_enough (atZ ns) o want (by omega) hpos
  · intro f hf
    have hfp := ho.filter f
    rw [← sumG_perm hfp]
    rw [← hfp.length_eq, hpp.length_eq] at hf
    exact great_few hpos hfl f hf
  · intro hne y hy
    rw [hsp]
    refine great_without hfl (fun e => hne ?_) ?_
    · rw [e] at hpp
      exact List.perm_nil.1 hpp
    · obtain ⟨x, hx, hxy⟩ := hy
      exact ⟨x, hpp.mem_iff.1 hx, hxy⟩
theorem heap_ints (w : World) (zs : List Int) {n : Nat} (hn : zs.length = n) : ISl (w.alloc (.cells (zs.map (Value.int .i64)).toArray 3)) (w.alloc (.cells (zs.map (Value.int .i64)).toArray 3)).heap.size (some ⟨w.heap.size, 0, none⟩) n zs := by
  have h := heap_alloc_new w (.cells (zs.map (Value.int .i64)).toArray 3)
  exact row_isl (g := w.heap.size) ⟨[], by rw [List.append_nil]; exact h⟩ hn
set_option maxHeartbeats 8000000 in
set_option maxRecDepth 100000 in
theorem picked_any (w : World) : Calls Tryd.prog 4 #[] w (fun e w' => e = .returned (.bool true) ∧ Below w.heap.size w w') := by
  have hq : pickQ [2, 9, 3] 8 = 0 := by decide
  have HA : Hid (ISl (w.alloc (.cells #[.int .i64 2, .int .i64 9, .int .i64 3] 3)) (w.alloc (.cells #[.int .i64 2, .int .i64 9, .int .i64 3] 3)).heap.size (some ⟨w.heap.size, 0, none⟩) 3 [2, 9, 3]) := aside (heap_ints w [2, 9, 3] rfl)
  have HB := aside ((Below.refl w.heap.size w).alloc (Nat.le_refl _) (.cells #[.int .i64 2, .int .i64 9, .int .i64 3] 3))
  have HG := aside (great_ok [2, 9, 3] (some ⟨w.heap.size, 0, none⟩) 3 3 8 _ HA.out hq)
  have hone : ∀ o : List Int, o.Perm (rangeZ 3) → o.Pairwise (LtG (atZ [2, 9, 3])) → (takeT (atZ [2, 9, 3]) 8 o).mergeSort (fun x y => decide (x ≤ y)) = [1] := by
    intro o hp hs
    have e : o = [1, 2, 0] := order_one (b := [1, 2, 0]) (hp.trans (by decide)) hs (by
      unfold LtG
      simp [atZ, nth])
    subst e
    rw [show takeT (atZ [2, 9, 3]) 8 [1, 2, 0] = [1] by decide]
    exact List.mergeSort_singleton _
  have HOne := aside hone
  clear hq hone
  go_enter Tryd.func4, Tryd.ntmps4
  go_wp2_with fail
  refine HG.out.mono ?_
  rintro e w2 ⟨A2, c2, p, o, rfl, hp, hpe, hperm, hsrt, hb⟩
  have hp1 := hpe.trans (HOne.out o hperm hsrt)
  subst hp1
  have HP := aside hp
  have HB2 := aside (HB.out.trans (hb.mono HB.out.size))
  clear hp hpe hperm hsrt hb HG
  go_wp2_with fail
  have HP2 := aside (isl_more (isl_below HP.out ((Below.refl w2.heap.size w2).alloc (Nat.le_refl _) (.cells #[.int .i64 1] 3))) (Below.alloc (Below.refl w2.heap.size w2) (Nat.le_refl _) (.cells #[.int .i64 1] 3)).size)
  refine (ints_same [1] A2 (some ⟨w2.heap.size, 0, none⟩) 1 c2 1 _ HP2.out (heap_ints w2 [1] rfl) (by omega)).mono ?_
  rintro e w3 ⟨rfl, hb3⟩
  have HB3 := aside ((HB2.out.alloc HB2.out.size _).trans (hb3.mono (HB2.out.alloc HB2.out.size _).size))
  clear hb3
  go_wp2
  go_ret
  exact ⟨rfl, HB3.out⟩
end Go.Proofs.YtgickjghfndaaaaDoor
