/- What debts in another order, or the other way round, net to; two piles of the same; the start. Conditions: named in each theorem. -/
import Derived.Test.YtippdfmmlhpkfaaDoorNetN
import Derived.Deep.QuietTactic
import Derived.BigQuiet
namespace Go.Proofs.YtippdfmmlhpkfaaDoor
open Go.RowKit Go.ChangeShapes Go.WideShapes Go.ChangeAt

theorem netD_has (ds : List Db) (x : Int) : Maps.has (netD ds) (kOf x) = (lnsOf ds).any fun l => decide (l.1 = x) := by
  unfold netD
  rw [has_putAll _ _ _ _ Maps.tidy_empty]
  simp [Maps.has_eq]
theorem netF_eq (ds : List Db) (x : Int) : netF ds x = sumAt x (lnsOf ds) := by
  unfold netF
  rw [addAll_eq]
  omega
theorem mem_netL (ds : List Db) {s v : Int} : (s, v) ∈ netL ds ↔ (∃ l ∈ lnsOf ds, l.1 = s) ∧ v = sumAt s (lnsOf ds) := by
  unfold netL
  rw [mem_trial (netD_map ds), netD_has, netF_eq, List.any_eq_true]
  simp
theorem netL_rises (ds : List Db) : Rises (netL ds) := trial_rises _ (netD_map ds)
theorem netL_is {ds : List Db} {xs : List Ln} (hr : Rises xs) (h : ∀ s v, (s, v) ∈ xs ↔ (∃ l ∈ lnsOf ds, l.1 = s) ∧ v = sumAt s (lnsOf ds)) : netL ds = xs :=
  rises_eq (netL_rises ds) hr fun ⟨s, v⟩ => (mem_netL ds).trans (h s v).symm
theorem sumAt_perm (s : Int) {xs ys : List Ln} (h : xs.Perm ys) : sumAt s xs = sumAt s ys := by
  induction h with
  | nil => rfl
  | cons x _ ih => simp only [sumAt, ih]
  | swap x y l => simp only [sumAt]; omega
  | trans _ _ ih1 ih2 => exact ih1.trans ih2
theorem lnsOf_perm {ds es : List Db} (h : ds.Perm es) : (lnsOf ds).Perm (lnsOf es) := h.flatMap_right _
theorem netL_perm {ds es : List Db} (h : ds.Perm es) : netL ds = netL es :=
  netL_is (netL_rises es) fun s v => by
    rw [mem_netL, sumAt_perm s (lnsOf_perm h)]
    have e : (∃ l ∈ lnsOf ds, l.1 = s) ↔ ∃ l ∈ lnsOf es, l.1 = s := ⟨fun ⟨l, hl, h2⟩ => ⟨l, (lnsOf_perm h).mem_iff.1 hl, h2⟩, fun ⟨l, hl, h2⟩ => ⟨l, (lnsOf_perm h).mem_iff.2 hl, h2⟩⟩
    rw [e]
theorem dErr_perm {ds es : List Db} (h : ds.Perm es) : dErr ds = dErr es := by
  unfold dErr
  rw [h.length_eq]
  have e : (∀ d ∈ ds, DbOk d) ↔ ∀ d ∈ es, DbOk d := ⟨fun g d hd => g d (h.mem_iff.2 hd), fun g d hd => g d (h.mem_iff.1 hd)⟩
  by_cases hh : ∀ d ∈ es, DbOk d
  · rw [if_pos (e.2 hh), if_pos hh]
  · rw [if_neg (fun g => hh (e.1 g)), if_neg hh]
theorem nErr_perm {ds es : List Db} (h : ds.Perm es) : nErr ds = nErr es := by
  unfold nErr
  rw [dErr_perm h, netL_perm h]
/-- The other way round. -/
def turned (d : Db) : Db := (d.2.1, d.1, d.2.2)
theorem sumAt_turned (s : Int) : ∀ ds : List Db, sumAt s (lnsOf (ds.map turned)) = - sumAt s (lnsOf ds)
  | [] => rfl
  | d :: r => by
    have := sumAt_turned s r
    simp only [lnsOf, List.map_cons, List.flatMap_cons, List.cons_append, List.nil_append, sumAt, turned] at this ⊢
    rw [this]
    split <;> split <;> omega
theorem names_turned (s : Int) (ds : List Db) : (∃ l ∈ lnsOf (ds.map turned), l.1 = s) ↔ ∃ l ∈ lnsOf ds, l.1 = s := by
  have e : ∀ es : List Db, (∃ l ∈ lnsOf es, l.1 = s) ↔ ∃ d ∈ es, d.1 = s ∨ d.2.1 = s := by
    intro es
    unfold lnsOf
    constructor
    · rintro ⟨l, hl, rfl⟩
      obtain ⟨d, hd, hl⟩ := List.mem_flatMap.1 hl
      simp at hl
      rcases hl with rfl | rfl
      · exact ⟨d, hd, .inr rfl⟩
      · exact ⟨d, hd, .inl rfl⟩
    · rintro ⟨d, hd, rfl | rfl⟩
      · exact ⟨(d.1, -d.2.2), List.mem_flatMap.2 ⟨d, hd, by simp⟩, rfl⟩
      · exact ⟨(d.2.1, d.2.2), List.mem_flatMap.2 ⟨d, hd, by simp⟩, rfl⟩
  rw [e, e]
  constructor
  · rintro ⟨d, hd, h⟩
    obtain ⟨x, hx, rfl⟩ := List.mem_map.1 hd
    exact ⟨x, hx, h.symm⟩
  · rintro ⟨d, hd, h⟩
    exact ⟨turned d, List.mem_map.2 ⟨d, hd, rfl⟩, h.symm⟩
def opposite (p : Ln) : Ln := (p.1, -p.2)
theorem netL_turned (ds : List Db) : netL (ds.map turned) = (netL ds).map opposite := by
  refine netL_is ?_ fun s v => ?_
  · unfold Rises
    rw [List.map_map]
    exact netL_rises ds
  · rw [names_turned, sumAt_turned, List.mem_map]
    constructor
    · rintro ⟨⟨t, u⟩, hp, e⟩
      simp only [opposite, Prod.mk.injEq] at e
      obtain ⟨rfl, rfl⟩ := e
      obtain ⟨h1, h2⟩ := (mem_netL ds).1 hp
      exact ⟨h1, by rw [h2]⟩
    · rintro ⟨h1, rfl⟩
      exact ⟨(s, sumAt s (lnsOf ds)), (mem_netL ds).2 ⟨h1, rfl⟩, rfl⟩
theorem dErr_turned (ds : List Db) : dErr (ds.map turned) = dErr ds := by
  unfold dErr
  rw [List.length_map]
  have e : (∀ d ∈ ds.map turned, DbOk d) ↔ ∀ d ∈ ds, DbOk d := by
    constructor
    · intro g d hd
      have := g (turned d) (List.mem_map.2 ⟨d, hd, rfl⟩)
      exact ⟨this.2.1, this.1, this.2.2⟩
    · intro g d hd
      obtain ⟨x, hx, rfl⟩ := List.mem_map.1 hd
      have := g x hx
      exact ⟨this.2.1, this.1, this.2.2⟩
  by_cases hh : ∀ d ∈ ds, DbOk d
  · rw [if_pos (e.2 hh), if_pos hh]
  · rw [if_neg (fun g => hh (e.1 g)), if_neg hh]
theorem nErr_turned (ds : List Db) : nErr (ds.map turned) = nErr ds := by
  unfold nErr
  rw [dErr_turned, netL_turned, List.length_map]
theorem total_lns : ∀ ds : List Db, total (lnsOf ds) = 0
  | [] => rfl
  | d :: r => by
    have := total_lns r
    simp only [total, lnsOf, List.flatMap_cons, List.cons_append, List.nil_append, List.map_cons, List.sum_cons] at this ⊢
    omega
theorem netL_total (ds : List Db) : total (netL ds) = 0 := by
  have hk : ∀ l ∈ lnsOf ds, l.1 ∈ keysOf (netD ds) := fun l hl => (keysOf_perm _).mem_iff.2 (((netD_map ds).facts.2 l.1).2 (by
    rw [netD_has, List.any_eq_true]
    exact ⟨l, hl, by simp⟩))
  have h := sumOver_sumAt ((keysOf_perm _).nodup_iff.2 (netD_map ds).facts.1) hk
  rw [total_lns] at h
  rw [← h]
  unfold netL trialOf total sumOver
  rw [List.map_map]
  congr 1
  refine List.map_congr_left fun x _ => ?_
  simp [netF_eq]
theorem netL_bnd {ds : List Db} (h : dErr ds = 0) : ∀ l ∈ netL ds, -225179981368524800 ≤ l.2 ∧ l.2 ≤ 225179981368524800 := by
  obtain ⟨h1, h2⟩ := dErr_zero h
  rintro ⟨s, v⟩ hl
  have h3 := ((mem_netL ds).1 hl).2
  have h4 := netF_bnd h2 s
  rw [netF_eq] at h4
  simp only
  omega
theorem nErr_zero {ds : List Db} (h : nErr ds = 0) : dErr ds = 0 ∧ (netL ds).length ≤ 60 := by
  unfold nErr at h
  by_cases h1 : dErr ds = 0
  · rw [if_pos h1] at h
    by_cases h2 : 60 < (netL ds).length
    · rw [if_pos h2] at h; cases h
    · exact ⟨h1, by omega⟩
  · rw [if_neg h1] at h
    exact absurd h h1

set_option maxHeartbeats 4000000 in
set_option maxRecDepth 100000 in
theorem piles_same (ls : List Ln) (A A' : Option Addr) (n c c' : Nat) (w : World) (h : PSl w w.heap.size A n ls) (h' : PSl w w.heap.size A' n ls) (hn : n ≤ 100) :
    Calls Tryd.prog 10 #[.slice A n c, .slice A' n c'] w fun e w' => e = .returned (.bool true) ∧ ∃ q, w' = w.drewN q := by
  have hnn : ((n : Int) != n) = false := by simp
  go_enter Tryd.func10, Tryd.ntmps10
  go_wp2_with fail
  go_loopw [5] (fun v5 wr => ∃ (k q : Nat), k ≤ n ∧ v5 = .int .i64 k ∧ wr = w.drewN q) (fun v5 _ => n - (Go.RowKit.intOf v5).toNat)
  case atStart => exact ⟨0, 0, Nat.zero_le _, rfl, rfl⟩
  case round =>
    obtain ⟨k, q, hk, rfl, rfl⟩ := hrel
    by_cases hlt : k < n
    · obtain ⟨b, o, rfl, hb, hc0, hc1⟩ := PSl.at2 h hlt
      obtain ⟨b', o', rfl, hb', hd0, hd1⟩ := PSl.at2 h' hlt
      have hi1 : (k : Int) < (n : Int) := by omega
      have hi2 : (0 : Int) ≤ (k : Int) := by omega
      generalize ls.getD k (0, 0) = p at hc0 hc1 hd0 hd1
      obtain ⟨s, a⟩ := p
      simp only [] at hc0 hc1 hd0 hd1
      go_wp2_with fail
      go_quiet (fail)
      go_wp2
      exact ⟨⟨k + 1, _, by omega, by go_num, rfl⟩, by simp [Go.RowKit.intOf]; omega⟩
    · obtain rfl : k = n := by omega
      go_wp2
      go_ret
      exact ⟨rfl, _, rfl⟩

theorem netL_one : netL [(1, 2, 5)] = [(1, -5), (2, 5)] := by
  refine netL_is ?_ fun s v => ?_
  · unfold Rises
    decide
  · simp [lnsOf, sumAt]
    constructor
    · rintro (⟨rfl, rfl⟩ | ⟨rfl, rfl⟩) <;> simp
    · rintro ⟨rfl | rfl, rfl⟩ <;> simp
theorem nErr_one : nErr [(1, 2, 5)] = 0 := by
  have h : dErr [(1, 2, 5)] = 0 := dErr_ok (by decide) (by
    intro d hd
    simp at hd
    subst hd
    simp [DbOk, Money])
  unfold nErr
  rw [if_pos h, netL_one]
  rfl
set_option maxHeartbeats 4000000 in
set_option maxRecDepth 100000 in
theorem netted_any (w : World) : Calls Tryd.prog 4 #[] w (fun e w' => e = .returned (.bool true) ∧ Below w.heap.size w w') := by
  go_enter Tryd.func4, Tryd.ntmps4
  go_wp2_with fail
  refine (net_any [(1, 2, 5)] _ 1 1 _ ⟨rfl, fun _ => ⟨_, 0, rfl, by simp, fun j u hj => ?_⟩⟩ (by
    intro d hd
    simp at hd
    subst hd
    simp [DbIn, In64])).mono ?_
  · rw [Nat.zero_add]
    refine (World.cell?_alloc_at _ _ _ _ (by simp)).trans ?_
    simpa [dbV] using hj
  rintro e w1 ⟨⟨-, A, c, rfl, hp⟩ | ⟨h, -⟩, hb1⟩
  rotate_left
  · exact absurd nErr_one h
  have HB1 := aside (((Below.refl _ w).alloc (Nat.le_refl _) _).trans (hb1.mono (by simp)))
  rw [netL_one] at hp ⊢
  obtain ⟨b, off, rfl, hlt, c0, c1⟩ := PSl.at2 hp (k := 0) (by decide)
  simp only [List.length_cons, List.length_nil, Nat.zero_mul, Nat.add_zero, Nat.zero_add, Nat.reduceAdd, List.getD_cons_zero] at c0 c1 ⊢
  clear hp hb1
  go_wp2
  go_ret
  exact ⟨rfl, HB1.out⟩
end Go.Proofs.YtippdfmmlhpkfaaDoor
