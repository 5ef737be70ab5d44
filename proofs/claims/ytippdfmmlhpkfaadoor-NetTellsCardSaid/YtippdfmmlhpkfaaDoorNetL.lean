/- What a list of changes leaves in a map keyed by ints: plain laws over the maps' words, with no program in sight. Conditions: named in each theorem. -/
import Derived.Test.YtippdfmmlhpkfaaDoorFrame
import Derived.Maps.Own
import Derived.Maps.Views
import Derived.Lib.SlKeysI
import Derived.ChangeMaps
namespace Go.Proofs.YtippdfmmlhpkfaaDoor
open Go.RowKit Go.ChangeShapes Go.WideShapes Go.ChangeAt

/-- A change: of whom, and how much. -/
abbrev Ln := Int × Int
def kOf (s : Int) : Lit := .int .i64 s
/-- The map D reads as the numbers f, 0 where there is none. -/
structure Bk (D : DataW Unit) (f : Int → Int) : Prop where
  tidy : Maps.Tidy D
  at_ : ∀ k, D.atKey (kOf k) (.lit (.int .i64 0)) = .lit (.int .i64 (f k))
theorem bk_empty : Bk (.map [] : DataW Unit) (fun _ => 0) := ⟨Maps.tidy_empty, fun _ => rfl⟩
/-- f with so much more at k. -/
def more (f : Int → Int) (k : Int) (a : Int) : Int → Int := fun j => if j = k then f k + a else f j
theorem isKey_kOf (s : Int) : WideAt.IsKeyLit (kOf s) := by simp [kOf, WideAt.IsKeyLit]
theorem kOf_ne {s t : Int} (h : s ≠ t) : kOf s ≠ kOf t := fun e => by
  unfold kOf at e
  injection e with _ e
  exact h e
theorem Bk.put {D : DataW Unit} {f : Int → Int} (h : Bk D f) (k : Int) (a : Int) : Bk (D.put (kOf k) (.lit (.int .i64 (f k + a)))) (more f k a) := by
  refine ⟨h.tidy.put (isKey_kOf k) _, fun j => ?_⟩
  by_cases hj : j = k
  · subst hj
    rw [Maps.atKey_put_same h.tidy.isMap (isKey_kOf j)]
    simp [more]
  · rw [Maps.atKey_put_other (kOf_ne hj), h.at_ j]
    simp [more, hj]
/-- The numbers behind lines. -/
def addAll (f : Int → Int) : List Ln → Int → Int
  | [] => f
  | l :: r => addAll (more f l.1 l.2) r
/-- The map behind lines. -/
def putAll (D : DataW Unit) (f : Int → Int) : List Ln → DataW Unit
  | [] => D
  | l :: r => putAll (D.put (kOf l.1) (.lit (.int .i64 (f l.1 + l.2)))) (more f l.1 l.2) r
def sumAt (k : Int) : List Ln → Int
  | [] => 0
  | l :: r => (if k = l.1 then l.2 else 0) + sumAt k r
def negAll (ls : List Ln) : List Ln := ls.map fun l => (l.1, -l.2)
def total (ls : List Ln) : Int := (ls.map (·.2)).sum
theorem addAll_eq (k : Int) : ∀ (ls : List Ln) (f : Int → Int), addAll f ls k = f k + sumAt k ls
  | [], f => by simp [addAll, sumAt]
  | l :: r, f => by
    rw [addAll, addAll_eq k r, sumAt]
    unfold more
    by_cases h : k = l.1
    · rw [if_pos h, if_pos h, h]; omega
    · rw [if_neg h, if_neg h]; omega
theorem sumAt_neg (k : Int) : ∀ ls : List Ln, sumAt k (negAll ls) = - sumAt k ls
  | [] => rfl
  | l :: r => by
    have := sumAt_neg k r
    simp only [negAll, List.map_cons, sumAt] at this ⊢
    rw [this]
    split <;> omega
theorem addAll_back (f : Int → Int) (ls : List Ln) (k : Int) : addAll (addAll f ls) (negAll ls) k = f k := by
  rw [addAll_eq, addAll_eq, sumAt_neg]
  omega
theorem total_neg : ∀ ls : List Ln, total (negAll ls) = - total ls
  | [] => rfl
  | l :: r => by
    have := total_neg r
    simp only [total, negAll, List.map_cons, List.sum_cons] at this ⊢
    omega
theorem addAll_app (f : Int → Int) : ∀ (ls : List Ln) (l : Ln), addAll f (ls ++ [l]) = more (addAll f ls) l.1 l.2 := by
  intro ls
  induction ls generalizing f with
  | nil => intro l; rfl
  | cons x r ih => intro l; simp only [List.cons_append, addAll, ih]
theorem putAll_app : ∀ (ls : List Ln) (D : DataW Unit) (f : Int → Int) (l : Ln), putAll D f (ls ++ [l]) = (putAll D f ls).put (kOf l.1) (.lit (.int .i64 (addAll f ls l.1 + l.2)))
  | [], _, _, _ => rfl
  | x :: r, D, f, l => by simp only [List.cons_append, putAll, addAll]; exact putAll_app r _ _ l
theorem Bk.putAll : ∀ {ls : List Ln} {D : DataW Unit} {f : Int → Int}, Bk D f → Bk (putAll D f ls) (addAll f ls)
  | [], _, _, h => h
  | l :: r, D, f, h => by
    simp only [Go.Proofs.YtippdfmmlhpkfaaDoor.putAll, addAll]
    exact Bk.putAll (h.put l.1 l.2)
theorem has_putAll (k : Int) : ∀ (ls : List Ln) (D : DataW Unit) (f : Int → Int), Maps.Tidy D → Maps.has (putAll D f ls) (kOf k) = (Maps.has D (kOf k) || ls.any fun l => decide (l.1 = k))
  | [], D, f, _ => by simp [putAll]
  | l :: r, D, f, h => by
    simp only [putAll, List.any_cons]
    rw [has_putAll k r _ _ (h.put (isKey_kOf l.1) _)]
    by_cases hk : k = l.1
    · subst hk
      rw [Maps.has_put_same h.isMap (isKey_kOf l.1)]
      simp
    · rw [Maps.has_put_other (kOf_ne hk)]
      have : decide (l.1 = k) = false := by simp; exact fun e => hk e.symm
      rw [this, Bool.false_or]
theorem size_putAll_have : ∀ (ls : List Ln) (D : DataW Unit) (f : Int → Int), Maps.Tidy D → (∀ l ∈ ls, Maps.has D (kOf l.1) = true) → Maps.size (putAll D f ls) = Maps.size D
  | [], D, f, _, _ => rfl
  | l :: r, D, f, h, hh => by
    simp only [putAll]
    rw [size_putAll_have r _ _ (h.put (isKey_kOf l.1) _) (fun x hx => ?_), Maps.size_put h, if_pos (hh l (by simp))]
    by_cases hk : kOf x.1 = kOf l.1
    · rw [hk]; exact Maps.has_put_same h.isMap (isKey_kOf l.1) _
    · rw [Maps.has_put_other hk]; exact hh x (by simp [hx])

/-- The numbers at names, together. -/
def sumOver (f : Int → Int) (ks : List (Int)) : Int := (ks.map f).sum
theorem sumOver_add (f g : Int → Int) : ∀ ks, sumOver (fun s => f s + g s) ks = sumOver f ks + sumOver g ks
  | [] => rfl
  | k :: r => by
    have := sumOver_add f g r
    simp only [sumOver, List.map_cons, List.sum_cons] at this ⊢
    omega
theorem sumOver_zero {f : Int → Int} : ∀ {ks : List (Int)}, (∀ s ∈ ks, f s = 0) → sumOver f ks = 0
  | [], _ => rfl
  | k :: r, h => by
    have h1 := sumOver_zero (f := f) (ks := r) fun s hs => h s (by simp [hs])
    have h2 := h k (by simp)
    simp only [sumOver, List.map_cons, List.sum_cons] at h1 ⊢
    omega
theorem sumOver_one (n : Int) (a : Int) : ∀ {ks : List (Int)}, ks.Nodup → n ∈ ks → sumOver (fun s => if s = n then a else 0) ks = a
  | [], _, h => by cases h
  | k :: r, hd, h => by
    rw [List.nodup_cons] at hd
    simp only [sumOver, List.map_cons, List.sum_cons]
    by_cases hk : k = n
    · subst hk
      have h0 : sumOver (fun s => if s = k then a else 0) r = 0 := sumOver_zero fun s hs => if_neg fun (e : s = k) => hd.1 (by rw [← e]; exact hs)
      simp only [sumOver] at h0
      rw [if_pos rfl, h0]
      omega
    · have hr : n ∈ r := by
        rcases List.mem_cons.1 h with e | e
        · exact absurd e.symm hk
        · exact e
      have h1 := sumOver_one n a hd.2 hr
      simp only [sumOver] at h1
      rw [if_neg hk, h1]
      omega
theorem sumOver_sumAt {ks : List (Int)} (hd : ks.Nodup) : ∀ {ls : List Ln}, (∀ l ∈ ls, l.1 ∈ ks) → sumOver (fun s => sumAt s ls) ks = total ls
  | [], _ => sumOver_zero fun _ _ => rfl
  | l :: r, h => by
    have h1 := sumOver_sumAt hd (ls := r) fun x hx => h x (by simp [hx])
    have h2 := sumOver_one l.1 l.2 hd (h l (by simp))
    have h3 := sumOver_add (fun s => if s = l.1 then l.2 else 0) (fun s => sumAt s r) ks
    have e : (fun s => sumAt s (l :: r)) = fun s => (if s = l.1 then l.2 else 0) + sumAt s r := rfl
    rw [e, h3, h1, h2]
    simp [total]
theorem size_putAll_le : ∀ (ls : List Ln) (D : DataW Unit) (f : Int → Int), Maps.Tidy D → Maps.size (putAll D f ls) ≤ Maps.size D + ls.length
  | [], D, f, _ => by simp [putAll]
  | l :: r, D, f, h => by
    have h1 := size_putAll_le r (D.put (kOf l.1) (.lit (.int .i64 (f l.1 + l.2)))) (more f l.1 l.2) (h.put (isKey_kOf l.1) _)
    have h2 : Maps.size (D.put (kOf l.1) (.lit (.int .i64 (f l.1 + l.2)))) ≤ Maps.size D + 1 := by rw [Maps.size_put h]; split <;> omega
    simp only [putAll, List.length_cons]
    omega
/-- The names, in rising order. -/
def keysOf (D : DataW Unit) : List (Int) := (intKeys D).mergeSort leI
/-- All accounts. -/
def trialOf (D : DataW Unit) (f : Int → Int) : List Ln := (keysOf D).map fun s => (s, f s)
theorem keysOf_len (D : DataW Unit) : (keysOf D).length = (intKeys D).length := by simp [keysOf]
theorem intKeys_len {D : DataW Unit} (h : Maps.Tidy D) : (intKeys D).length = Maps.size D := by
  obtain ⟨es, rfl, _⟩ := h
  simp [intKeys, Maps.size_eq]
theorem trial_get (D : DataW Unit) (f : Int → Int) {k : Nat} (h : k < (keysOf D).length) : (trialOf D f).getD k (0, 0) = ((keysOf D)[k], f (keysOf D)[k]) := by
  rw [List.getD_eq_getElem?_getD, List.getElem?_eq_getElem (by simpa [trialOf] using h)]
  simp [trialOf]
theorem keysOf_perm (D : DataW Unit) : (keysOf D).Perm (intKeys D) := List.mergeSort_perm _ _
/-- The names rise. -/
theorem keysOf_lt {D : DataW Unit} (h : (intKeys D).Nodup) : (keysOf D).Pairwise (fun x y => x < y) := by
  have tr : ∀ a b c : Int, leI a b = true → leI b c = true → leI a c = true := fun a b c h1 h2 => by simp only [leI, decide_eq_true_eq] at *; omega
  have to : ∀ a b : Int, (leI a b || leI b a) = true := fun a b => by simp only [leI, Bool.or_eq_true, decide_eq_true_eq]; omega
  have h1 := List.pairwise_mergeSort tr to (intKeys D)
  have h2 : (keysOf D).Nodup := (keysOf_perm D).nodup_iff.2 h
  refine (h1.and h2).imp fun {a b} hab => ?_
  have h3 : a ≤ b := by simpa [leI] using hab.1
  have h4 := hab.2
  omega
/-- Rising names. -/
def Rises (xs : List Ln) : Prop := (xs.map (·.1)).Pairwise (fun a b => a < b)
theorem lt_irr (a : Int) : ¬ a < a := Int.lt_irrefl a
/-- Two rising lists of the same lines are one. -/
theorem rises_eq {xs ys : List Ln} (hx : Rises xs) (hy : Rises ys) (h : ∀ l, l ∈ xs ↔ l ∈ ys) : xs = ys := by
  have hx' : xs.Pairwise (fun a b => a.1 < b.1) := List.pairwise_map.1 hx
  have hy' : ys.Pairwise (fun a b => a.1 < b.1) := List.pairwise_map.1 hy
  have nx : xs.Nodup := List.Pairwise.imp (fun {a b} (hab : a.1 < b.1) (e : a = b) => lt_irr b.1 (e ▸ hab)) hx'
  have ny : ys.Nodup := List.Pairwise.imp (fun {a b} (hab : a.1 < b.1) (e : a = b) => lt_irr b.1 (e ▸ hab)) hy'
  have hp : xs.Perm ys := (List.perm_ext_iff_of_nodup nx ny).2 h
  refine List.Perm.eq_of_pairwise (le := fun a b : Ln => a.1 < b.1) (fun a b _ _ h1 h2 => ?_) hx' hy' hp
  exact absurd (Int.lt_trans h1 h2) (lt_irr _)
/-- A map whose keys are ints, none twice. -/
def IntMap (D : DataW Unit) : Prop := ∃ es, D = .map es ∧ es.Pairwise (fun p q => p.1 ≠ q.1) ∧ ∀ p ∈ es, ∃ x, p.1 = (.int .i64 x)
theorem intMap_empty : IntMap (.map []) := ⟨[], rfl, List.Pairwise.nil, fun _ h => by cases h⟩
theorem IntMap.put {D : DataW Unit} (h : IntMap D) (k : Int) (d : DataW Unit) : IntMap (D.put (kOf k) d) := by
  obtain ⟨es, rfl, hp, hk⟩ := h
  obtain ⟨es', e, hp'⟩ := Maps.Tidy.put (D := .map es) ⟨es, rfl, hp⟩ (isKey_kOf k) d
  refine ⟨es', e, hp', fun p hm => ?_⟩
  have e2 : es' = DataW.insert (kOf k, d) (es.filter fun p => !p.1.sameKey (kOf k)) := by
    have e1 : (.map es' : DataW Unit) = .map (DataW.insert (kOf k, d) (es.filter fun p => !p.1.sameKey (kOf k))) := e.symm
    injection e1
  rw [e2] at hm
  rcases Go.ChangeMaps.mem_insert_iff.1 hm with rfl | hm
  · exact ⟨k, rfl⟩
  · exact hk p (List.mem_filter.1 hm).1
theorem IntMap.facts {D : DataW Unit} (h : IntMap D) : (intKeys D).Nodup ∧ ∀ x, x ∈ intKeys D ↔ Maps.has D (kOf x) = true := by
  obtain ⟨es, rfl, hpw, hk⟩ := h
  constructor
  · refine List.pairwise_map.2 (hpw.imp_of_mem fun {p q} hp' hq' hne e => hne ?_)
    obtain ⟨a, ha⟩ := hk p hp'
    obtain ⟨b, hb⟩ := hk q hq'
    rw [ha, hb] at e ⊢
    exact congrArg _ e
  · intro x
    rw [Maps.has_eq, List.any_eq_true]
    show (x ∈ es.map fun p => intOf p.1) ↔ _
    rw [List.mem_map]
    constructor
    · rintro ⟨p, hp', rfl⟩
      obtain ⟨a, ha⟩ := hk p hp'
      exact ⟨p, hp', by rw [ha]; simp [Lit.sameKey, intOf, kOf]⟩
    · rintro ⟨p, hp', hs⟩
      obtain ⟨a, ha⟩ := hk p hp'
      rw [ha] at hs
      exact ⟨p, hp', by rw [ha]; simpa [Lit.sameKey, intOf, kOf] using hs⟩
theorem mem_trial {D : DataW Unit} {f : Int → Int} (h : IntMap D) {s : Int} {v : Int} : (s, v) ∈ trialOf D f ↔ Maps.has D (kOf s) = true ∧ v = f s := by
  unfold trialOf
  rw [List.mem_map]
  constructor
  · rintro ⟨x, hx, e⟩
    simp only [Prod.mk.injEq] at e
    obtain ⟨rfl, rfl⟩ := e
    exact ⟨(h.facts.2 x).1 ((keysOf_perm D).mem_iff.1 hx), rfl⟩
  · rintro ⟨h1, rfl⟩
    exact ⟨s, (keysOf_perm D).mem_iff.2 ((h.facts.2 s).2 h1), rfl⟩
theorem trial_rises {D : DataW Unit} (f : Int → Int) (h : IntMap D) : Rises (trialOf D f) := by
  unfold Rises trialOf
  rw [List.map_map]
  have e : ((fun x : Ln => x.1) ∘ fun s => (s, f s)) = id := rfl
  rw [e, List.map_id]
  exact keysOf_lt h.facts.1
theorem sumAt_none {s : Int} : ∀ {xs : List Ln}, (∀ v, (s, v) ∉ xs) → sumAt s xs = 0
  | [], _ => rfl
  | x :: r, h => by
    have h1 := sumAt_none (s := s) (xs := r) fun v hv => h v (by simp [hv])
    have h2 : s ≠ x.1 := fun e => h x.2 (by rw [e]; simp)
    rw [sumAt, if_neg h2, h1]
    rfl
theorem sumAt_one {s : Int} {v : Int} : ∀ {xs : List Ln}, Rises xs → (s, v) ∈ xs → sumAt s xs = v
  | [], _, h => by cases h
  | x :: r, hr, h => by
    have hr' : (∀ y ∈ r.map (·.1), x.1 < y) ∧ Rises r := List.pairwise_cons.1 hr
    rw [sumAt]
    rcases List.mem_cons.1 h with e | e
    · subst e
      rw [if_pos rfl, sumAt_none fun u hu => lt_irr s (hr'.1 s (List.mem_map.2 ⟨_, hu, rfl⟩))]
      simp
    · have hne : s ≠ x.1 := by
        intro e2
        have := hr'.1 s (List.mem_map.2 ⟨_, e, rfl⟩)
        rw [← e2] at this
        exact lt_irr s this
      rw [if_neg hne, sumAt_one hr'.2 e]
      simp
theorem sumAt_trial {D : DataW Unit} {f : Int → Int} (hb : Bk D f) (h : IntMap D) (s : Int) : sumAt s (trialOf D f) = f s := by
  by_cases hs : Maps.has D (kOf s) = true
  · exact sumAt_one (trial_rises f h) ((mem_trial h).2 ⟨hs, rfl⟩)
  · rw [sumAt_none fun v hv => hs ((mem_trial h).1 hv).1]
    have h0 := hb.at_ s
    rw [Maps.atKey_of_not_has (by simpa using hs)] at h0
    injection h0 with h0
    injection h0
theorem IntMap.putAll : ∀ (ls : List Ln) {D : DataW Unit} (f : Int → Int), IntMap D → IntMap (putAll D f ls)
  | [], _, _, h => h
  | l :: r, _, _, h => IntMap.putAll r _ (h.put l.1 _)
end Go.Proofs.YtippdfmmlhpkfaaDoor
