/- Before: is a text ahead of another one; lines: two lists that read the same. Conditions: named in each theorem. -/
import Derived.Test.YtjoplhpaefngkaaDoorBookI
import Derived.Deep.QuietTactic
import Derived.BigQuiet
namespace Go.Proofs.YtjoplhpaefngkaaDoor
open Go.RowKit Go.ChangeShapes Go.WideShapes Go.ChangeAt

theorem lt_parts : ∀ (k : Nat) (x y : List UInt8), x.take k = y.take k → (hx : k < x.length) → (hy : k < y.length) → x[k] ≠ y[k] → ((x < y) ↔ (x[k] < y[k]))
  | 0, a :: x, b :: y, _, _, _, h => by
    rw [List.cons_lt_cons_iff]
    simp only [List.getElem_cons_zero] at h ⊢
    exact ⟨fun e => e.resolve_right fun e => h e.1, .inl⟩
  | k + 1, a :: x, b :: y, ht, hx, hy, h => by
    simp only [List.take_succ_cons, List.cons.injEq] at ht
    obtain ⟨rfl, ht⟩ := ht
    rw [List.cons_lt_cons_iff]
    have ih := lt_parts k x y ht (by simpa using hx) (by simpa using hy) (by simpa using h)
    simp only [List.getElem_cons_succ]
    rw [← ih]
    exact ⟨fun e => e.elim (fun e => absurd e (UInt8.lt_irrefl a)) (·.2), fun e => .inr ⟨trivial, e⟩⟩
theorem lt_ends : ∀ (k : Nat) (x y : List UInt8), x.take k = y.take k → k ≤ x.length → k ≤ y.length → (k = x.length ∨ k = y.length) → ((x < y) ↔ (x.length < y.length))
  | 0, [], [], _, _, _, _ => by simp
  | 0, [], b :: y, _, _, _, _ => by simp
  | 0, a :: x, [], _, _, _, _ => by simp
  | 0, a :: x, b :: y, _, _, _, h => by simp at h
  | k + 1, [], _, _, h, _, _ => by simp at h
  | k + 1, _ :: _, [], _, _, h, _ => by simp at h
  | k + 1, a :: x, b :: y, ht, hx, hy, h => by
    simp only [List.take_succ_cons, List.cons.injEq] at ht
    obtain ⟨rfl, ht⟩ := ht
    rw [List.cons_lt_cons_iff]
    have ih := lt_ends k x y ht (by simpa using hx) (by simpa using hy) (by simpa using h)
    simp only [List.length_cons, Nat.add_lt_add_iff_right]
    rw [← ih]
    exact ⟨fun e => e.elim (fun e => absurd e (UInt8.lt_irrefl a)) (·.2), fun e => .inr ⟨trivial, e⟩⟩

theorem ret_bool {a b : Bool} (h : a = b) : Ending.returned (.bool a) = .returned (.bool b) := by rw [h]
theorem drewN_two (w : World) (a b : Nat) : (w.drewN a).drewN b = w.drewN (a + b) := by
  simp only [World.drewN, Nat.add_assoc]
set_option maxHeartbeats 4000000 in
set_option maxRecDepth 100000 in
theorem before_any (s t : ByteArray) (w : World) (hs : s.size ≤ maxLen) :
    Calls Tryd.prog 20 #[.string s, .string t] w (fun e w' => e = .returned (.bool (decide (s.data.toList < t.data.toList))) ∧ ∃ q, w' = w.drewN q) := by
  unfold maxLen at hs
  go_enter Tryd.func20, Tryd.ntmps20
  go_wp2_with fail
  go_loopw [5] (fun v5 wr => ∃ (k q : Nat), k ≤ s.size ∧ k ≤ t.size ∧ v5 = .int .i64 k ∧ Hid (s.data.toList.take k = t.data.toList.take k) ∧ wr = w.drewN q) (fun v5 _ => s.size - (intOf v5).toNat)
  case atStart => exact ⟨0, 0, Nat.zero_le _, Nat.zero_le _, rfl, aside (by simp), rfl⟩
  case round =>
    obtain ⟨k, q, hk, hk', rfl, HT, rfl⟩ := hrel
    by_cases k1 : k < s.size
    · by_cases k2 : k < t.size
      · have i1 : (k : Int) < (s.size : Int) := by omega
        have i2 : (k : Int) < (t.size : Int) := by omega
        have i4 : (0 : Int) ≤ (k : Int) := by omega
        have HX : Hid (s.data.toList.take (k + 1) = s.data.toList.take k ++ [s[k]]) := aside (by rw [List.take_succ_eq_append_getElem (by simpa using k1)]; rfl)
        have HY : Hid (t.data.toList.take (k + 1) = t.data.toList.take k ++ [t[k]]) := aside (by rw [List.take_succ_eq_append_getElem (by simpa using k2)]; rfl)
        by_cases he : s[k] = t[k]
        · have hn : ((s[k].toNat : Int) != (t[k].toNat : Int)) = false := by rw [he]; simp
          have HE := aside he
          clear he
          go_wp2_with fail
          go_quiet (fail)
          go_wp2
          exact ⟨⟨k + 1, _, by omega, by omega, by go_num, aside (by rw [HX.out, HY.out, HT.out, HE.out]), rfl⟩, by simp [intOf]; omega⟩
        · have hn : ((s[k].toNat : Int) != (t[k].toNat : Int)) = true := by
            have : s[k].toNat ≠ t[k].toNat := fun e => he (UInt8.toNat_inj.1 e)
            simp only [bne_iff_ne, ne_eq]
            omega
          have HP : Hid (decide (s[k].toNat < t[k].toNat) = decide (s.data.toList < t.data.toList)) := aside (by
            have h := lt_parts k _ _ HT.out (by simpa using k1) (by simpa using k2) he
            exact decide_eq_decide.2 (UInt8.lt_iff_toNat_lt.symm.trans h.symm))
          clear he
          go_wp2_with fail
          go_quiet (fail)
          go_wp2_with fail
          go_quiet (fail)
          go_wp2
          go_ret
          exact ⟨ret_bool HP.out, _, (drewN_two _ _ _).trans (drewN_two _ _ _)⟩
      · have i1 : (k : Int) < (s.size : Int) := by omega
        have i2 : ((k : Int) < (t.size : Int)) = False := by simp only [eq_iff_iff, iff_false]; omega
        have HP : Hid (decide (s.size < t.size) = decide (s.data.toList < t.data.toList)) := aside (by
          have h := lt_ends k _ _ HT.out (by simpa using hk) (by simpa using hk') (.inr (by simp; omega))
          refine decide_eq_decide.2 (Iff.trans ?_ h.symm)
          simp only [Array.length_toList]
          exact Iff.rfl)
        go_wp2
        go_ret
        exact ⟨ret_bool HP.out, _, rfl⟩
    · have i1 : ((k : Int) < (s.size : Int)) = False := by simp only [eq_iff_iff, iff_false]; omega
      have HP : Hid (decide (s.size < t.size) = decide (s.data.toList < t.data.toList)) := aside (by
        have h := lt_ends k _ _ HT.out (by simpa using hk) (by simpa using hk') (.inl (by simp; omega))
        refine decide_eq_decide.2 (Iff.trans ?_ h.symm)
        simp only [Array.length_toList]
        exact Iff.rfl)
      go_wp2
      go_ret
      exact ⟨ret_bool HP.out, _, rfl⟩

set_option maxHeartbeats 4000000 in
set_option maxRecDepth 100000 in
theorem lines_same (ls : List Ln) (A A' : Option Addr) (n c c' : Nat) (w : World) (h : LSl w w.heap.size A n ls) (h' : LSl w w.heap.size A' n ls) (hn : n ≤ 100) :
    Calls Tryd.prog 9 #[.slice A n c, .slice A' n c'] w fun e w' => e = .returned (.bool true) ∧ ∃ q, w' = w.drewN q := by
  have hnn : ((n : Int) != n) = false := by simp
  go_enter Tryd.func9, Tryd.ntmps9
  go_wp2_with fail
  go_loopw [5] (fun v5 wr => ∃ (k q : Nat), k ≤ n ∧ v5 = .int .i64 k ∧ wr = w.drewN q) (fun v5 _ => n - (intOf v5).toNat)
  case atStart => exact ⟨0, 0, Nat.zero_le _, rfl, rfl⟩
  case round =>
    obtain ⟨k, q, hk, rfl, rfl⟩ := hrel
    by_cases hlt : k < n
    · obtain ⟨b, o, rfl, hb, hc0, hc1⟩ := LSl.at_ h hlt
      obtain ⟨b', o', rfl, hb', hd0, hd1⟩ := LSl.at_ h' hlt
      have hi1 : (k : Int) < (n : Int) := by omega
      have hi2 : (0 : Int) ≤ (k : Int) := by omega
      generalize ls.getD k ([], 0) = p at hc0 hc1 hd0 hd1
      obtain ⟨s, a⟩ := p
      simp only [strV] at hc0 hc1 hd0 hd1
      go_wp2_with fail
      go_quiet (fail)
      go_wp2
      exact ⟨⟨k + 1, _, by omega, by go_num, rfl⟩, by simp [intOf]; omega⟩
    · obtain rfl : k = n := by omega
      go_wp2
      go_ret
      exact ⟨rfl, _, rfl⟩

/-- The names of a map: none twice; just those that are there. -/
theorem keys_facts {w : World} {b n : Nat} {D : DataW Unit} (h : MapAt w b n D) : (strKeys D).Nodup ∧ ∀ x, x ∈ strKeys D ↔ Maps.has D (kOf x) = true := by
  obtain ⟨es, hD, hpw, _⟩ := World.ownsMap.entries h nameKeyed
  obtain ⟨es', hD', hko⟩ := World.ownsMap.keysOf h
  obtain rfl : es = es' := by rw [hD] at hD'; simpa using hD'
  subst hD
  have hk : ∀ p ∈ es, ∃ x, p.1 = .string x := fun p hp => by
    obtain ⟨v, hv⟩ := hko p hp
    obtain ⟨x, _, hx, _⟩ := Maps.keyOf_str Tryd.underlying9 hv
    exact ⟨x, hx⟩
  constructor
  · refine List.pairwise_map.2 (hpw.imp_of_mem fun {p q} hp' hq' hne e => hne ?_)
    obtain ⟨a, ha⟩ := hk p hp'
    obtain ⟨b, hb⟩ := hk q hq'
    rw [ha, hb] at e ⊢
    exact congrArg _ e
  · intro x
    rw [Maps.has_eq, List.any_eq_true]
    show (x ∈ es.map fun p => strOf p.1) ↔ _
    rw [List.mem_map]
    constructor
    · rintro ⟨p, hp', rfl⟩
      obtain ⟨a, ha⟩ := hk p hp'
      exact ⟨p, hp', by rw [ha]; simp [Lit.sameKey, strOf, kOf]⟩
    · rintro ⟨p, hp', hs⟩
      obtain ⟨a, ha⟩ := hk p hp'
      rw [ha] at hs
      exact ⟨p, hp', by rw [ha]; simpa [Lit.sameKey, strOf, kOf] using hs⟩
theorem keysOf_perm (D : DataW Unit) : (keysOf D).Perm (strKeys D) := List.mergeSort_perm _ _
/-- The names rise. -/
theorem keysOf_lt {D : DataW Unit} (h : (strKeys D).Nodup) : (keysOf D).Pairwise (fun x y => x < y) := by
  have tr : ∀ a b c : List UInt8, leB a b = true → leB b c = true → leB a c = true := fun a b c h1 h2 => by simp only [leB, decide_eq_true_eq] at *; exact List.le_trans h1 h2
  have to : ∀ a b : List UInt8, (leB a b || leB b a) = true := fun a b => by simp only [leB, Bool.or_eq_true, decide_eq_true_eq]; exact List.le_total a b
  have h1 := List.pairwise_mergeSort tr to (strKeys D)
  have h2 : (keysOf D).Nodup := (keysOf_perm D).nodup_iff.2 h
  refine (h1.and h2).imp fun {a b} hab => ?_
  have h3 : a ≤ b := by simpa [leB] using hab.1
  exact List.not_le.1 fun h4 => hab.2 (List.le_antisymm h3 h4)
/-- All accounts together. -/
theorem trial_total {w : World} {b n : Nat} {D : DataW Unit} {f : List UInt8 → Int} (h : MapAt w b n D) (he : Even D f) : total (trialOf D f) = 0 := by
  obtain ⟨h1, h2⟩ := keys_facts h
  have := he (keysOf D) ((keysOf_perm D).nodup_iff.2 h1) (fun s hs => (keysOf_perm D).mem_iff.2 ((h2 s).2 hs))
  rw [← this]
  simp [total, trialOf, sumOver, Function.comp_def]
theorem total_within : ∀ {xs : List Ln}, (∀ l ∈ xs, Within l.2) → -((xs.length : Int) * 1125899906842624) ≤ total xs ∧ total xs ≤ (xs.length : Int) * 1125899906842624
  | [], _ => by simp [total]
  | l :: r, h => by
    have h1 := total_within (xs := r) fun x hx => h x (by simp [hx])
    have h2 := h l (by simp)
    unfold Within at h2
    simp only [total, List.map_cons, List.sum_cons, List.length_cons] at h1 ⊢
    omega
theorem trial_within {mx : Nat} {D : DataW Unit} {f : List UInt8 → Int} (h : Fine mx D f) : ∀ l ∈ trialOf D f, Within l.2 := by
  intro l hl
  obtain ⟨s, _, rfl⟩ := List.mem_map.1 hl
  exact h.all s
/-- A book behind another one of the same map and numbers. -/
theorem BookAt.drewN {w : World} {bb : Nat} {D : DataW Unit} {f : List UInt8 → Int} {cnt : Int} (h : BookAt w bb D f cnt) (q : Nat) : BookAt (w.drewN q) bb D f cnt := by
  obtain ⟨h1, ⟨mb, h2, h3⟩, h4, h5, h6⟩ := h
  exact ⟨h1, ⟨mb, h2, h3⟩, h4, h5, h6⟩
end Go.Proofs.YtjoplhpaefngkaaDoor
