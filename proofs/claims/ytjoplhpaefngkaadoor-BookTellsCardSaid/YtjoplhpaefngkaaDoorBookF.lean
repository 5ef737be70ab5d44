/- The accounts as the reference keeps them: the same lines. Plain laws. Conditions: named in each theorem. -/
import Derived.Test.YtjoplhpaefngkaaDoorBookE
import Derived.Test.YtjoplhpaefngkaaDoorBookK
import Derived.ChangeMaps
namespace Go.Proofs.YtjoplhpaefngkaaDoor
open Go.RowKit Go.ChangeShapes Go.WideShapes Go.ChangeAt

/-- A map whose keys are texts, none twice. -/
def StrMap (D : DataW Unit) : Prop := ∃ es, D = .map es ∧ es.Pairwise (fun p q => p.1 ≠ q.1) ∧ ∀ p ∈ es, ∃ x, p.1 = .string x
theorem strMap_empty : StrMap (.map []) := ⟨[], rfl, List.Pairwise.nil, fun _ h => by cases h⟩
theorem StrMap.put {D : DataW Unit} (h : StrMap D) (k : List UInt8) (d : DataW Unit) : StrMap (D.put (kOf k) d) := by
  obtain ⟨es, rfl, hp, hk⟩ := h
  obtain ⟨es', e, hp'⟩ := Maps.Tidy.put (D := .map es) ⟨es, rfl, hp⟩ (isKey_kOf k) d
  refine ⟨es', e, hp', fun p hm => ?_⟩
  have e2 : es' = DataW.insert (kOf k, d) (es.filter fun p => !p.1.sameKey (kOf k)) := by
    have e1 : (.map es' : DataW Unit) = .map (DataW.insert (kOf k, d) (es.filter fun p => !p.1.sameKey (kOf k))) := e.symm
    injection e1
  rw [e2] at hm
  rcases Go.ChangeMaps.mem_insert_iff.1 hm with rfl | hm
  · exact ⟨k, rfl⟩
  · exact hk p (List.mem_filter.1 hm).1
theorem StrMap.facts {D : DataW Unit} (h : StrMap D) : (strKeys D).Nodup ∧ ∀ x, x ∈ strKeys D ↔ Maps.has D (kOf x) = true := by
  obtain ⟨es, rfl, hpw, hk⟩ := h
  constructor
  · refine List.pairwise_map.2 (hpw.imp_of_mem fun {p q} hp' hq' hne e => hne ?_)
    obtain ⟨a, ha⟩ := hk p hp'
    obtain ⟨b, hb⟩ := hk q hq'
    rw [ha, hb] at e ⊢
    exact congrArg _ e
  · intro x
    rw [Maps.has_eq, List.any_eq_true]
    show (x ∈ es.map fun p => strOf p.1) ↔ _
    rw [List.mem_map]
    constructor
    · rintro ⟨p, hp', rfl⟩
      obtain ⟨a, ha⟩ := hk p hp'
      exact ⟨p, hp', by rw [ha]; simp [Lit.sameKey, strOf, kOf]⟩
    · rintro ⟨p, hp', hs⟩
      obtain ⟨a, ha⟩ := hk p hp'
      rw [ha] at hs
      exact ⟨p, hp', by rw [ha]; simpa [Lit.sameKey, strOf, kOf] using hs⟩
theorem mem_trial {D : DataW Unit} {f : List UInt8 → Int} (h : StrMap D) {s : List UInt8} {v : Int} : (s, v) ∈ trialOf D f ↔ Maps.has D (kOf s) = true ∧ v = f s := by
  unfold trialOf
  rw [List.mem_map]
  constructor
  · rintro ⟨x, hx, e⟩
    simp only [Prod.mk.injEq] at e
    obtain ⟨rfl, rfl⟩ := e
    exact ⟨(h.facts.2 x).1 ((keysOf_perm D).mem_iff.1 hx), rfl⟩
  · rintro ⟨h1, rfl⟩
    exact ⟨s, (keysOf_perm D).mem_iff.2 ((h.facts.2 s).2 h1), rfl⟩
theorem trial_rises {D : DataW Unit} (f : List UInt8 → Int) (h : StrMap D) : Rises (trialOf D f) := by
  unfold Rises trialOf
  rw [List.map_map]
  have e : ((fun x : Ln => x.1) ∘ fun s => (s, f s)) = id := rfl
  rw [e, List.map_id]
  exact keysOf_lt h.facts.1
theorem sumAt_none {s : List UInt8} : ∀ {xs : List Ln}, (∀ v, (s, v) ∉ xs) → sumAt s xs = 0
  | [], _ => rfl
  | x :: r, h => by
    have h1 := sumAt_none (s := s) (xs := r) fun v hv => h v (by simp [hv])
    have h2 : s ≠ x.1 := fun e => h x.2 (by rw [e]; simp)
    rw [sumAt, if_neg h2, h1]
    rfl
theorem sumAt_one {s : List UInt8} {v : Int} : ∀ {xs : List Ln}, Rises xs → (s, v) ∈ xs → sumAt s xs = v
  | [], _, h => by cases h
  | x :: r, hr, h => by
    have hr' : (∀ y ∈ r.map (·.1), x.1 < y) ∧ Rises r := List.pairwise_cons.1 hr
    rw [sumAt]
    rcases List.mem_cons.1 h with e | e
    · subst e
      rw [if_pos rfl, sumAt_none fun u hu => lt_irr s (hr'.1 s (List.mem_map.2 ⟨_, hu, rfl⟩))]
      simp
    · have hne : s ≠ x.1 := by
        intro e2
        have := hr'.1 s (List.mem_map.2 ⟨_, e, rfl⟩)
        rw [← e2] at this
        exact lt_irr s this
      rw [if_neg hne, sumAt_one hr'.2 e]
      simp
theorem sumAt_trial {D : DataW Unit} {f : List UInt8 → Int} (hb : Bk D f) (h : StrMap D) (s : List UInt8) : sumAt s (trialOf D f) = f s := by
  by_cases hs : Maps.has D (kOf s) = true
  · exact sumAt_one (trial_rises f h) ((mem_trial h).2 ⟨hs, rfl⟩)
  · rw [sumAt_none fun v hv => hs ((mem_trial h).1 hv).1]
    have h0 := hb.at_ s
    rw [Maps.atKey_of_not_has (by simpa using hs)] at h0
    injection h0 with h0
    injection h0
/-- One line more, in the map and in the list. -/
theorem written_trial {D : DataW Unit} {f : List UInt8 → Int} (hb : Bk D f) (h : StrMap D) (s : List UInt8) (a : Int) : writtenL (trialOf D f) (s, a) = trialOf (D.put (kOf s) (.lit (.int .i64 (f s + a)))) (more f s a) := by
  refine rises_eq ((trial_rises f h).written _) (trial_rises _ (h.put s _)) fun l => ?_
  obtain ⟨t, v⟩ := l
  rw [mem_written, mem_trial (h.put s _), sumAt_trial hb h, mem_trial h]
  unfold more
  by_cases hts : t = s
  · subst hts
    rw [Maps.has_put_same hb.tidy.isMap (isKey_kOf t)]
    simp only [if_true, ne_eq, not_true, false_and, or_false, true_and]
    rw [Int.add_comm]
  · rw [Maps.has_put_other (kOf_ne hts)]
    simp [hts]
theorem StrMap.putAll : ∀ (ls : List Ln) {D : DataW Unit} (f : List UInt8 → Int), StrMap D → StrMap (putAll D f ls)
  | [], _, _, h => h
  | l :: r, _, _, h => StrMap.putAll r _ (h.put l.1 _)
theorem strMap_of {w : World} {b n : Nat} {D : DataW Unit} (h : MapAt w b n D) : StrMap D := by
  obtain ⟨es, hD, hpw, _⟩ := World.ownsMap.entries h nameKeyed
  obtain ⟨es', hD', hko⟩ := World.ownsMap.keysOf h
  obtain rfl : es = es' := by rw [hD] at hD'; simpa using hD'
  exact ⟨es, hD, hpw, fun p hp => by
    obtain ⟨v, hv⟩ := hko p hp
    obtain ⟨x, _, hx, _⟩ := Maps.keyOf_str Tryd.underlying9 hv
    exact ⟨x, hx⟩⟩
end Go.Proofs.YtjoplhpaefngkaaDoor
