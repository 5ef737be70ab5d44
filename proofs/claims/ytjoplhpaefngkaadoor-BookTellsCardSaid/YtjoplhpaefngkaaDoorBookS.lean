/- All accounts together: plain laws. Conditions: named in each theorem. -/
import Derived.Test.YtjoplhpaefngkaaDoorBookL
namespace Go.Proofs.YtjoplhpaefngkaaDoor
open Go.RowKit Go.ChangeShapes Go.WideShapes Go.ChangeAt

/-- The numbers at names, together. -/
def sumOver (f : List UInt8 → Int) (ks : List (List UInt8)) : Int := (ks.map f).sum
theorem sumOver_add (f g : List UInt8 → Int) : ∀ ks, sumOver (fun s => f s + g s) ks = sumOver f ks + sumOver g ks
  | [] => rfl
  | k :: r => by
    have := sumOver_add f g r
    simp only [sumOver, List.map_cons, List.sum_cons] at this ⊢
    omega
theorem sumOver_zero {f : List UInt8 → Int} : ∀ {ks : List (List UInt8)}, (∀ s ∈ ks, f s = 0) → sumOver f ks = 0
  | [], _ => rfl
  | k :: r, h => by
    have h1 := sumOver_zero (f := f) (ks := r) fun s hs => h s (by simp [hs])
    have h2 := h k (by simp)
    simp only [sumOver, List.map_cons, List.sum_cons] at h1 ⊢
    omega
theorem sumOver_one (n : List UInt8) (a : Int) : ∀ {ks : List (List UInt8)}, ks.Nodup → n ∈ ks → sumOver (fun s => if s = n then a else 0) ks = a
  | [], _, h => by cases h
  | k :: r, hd, h => by
    rw [List.nodup_cons] at hd
    simp only [sumOver, List.map_cons, List.sum_cons]
    by_cases hk : k = n
    · subst hk
      have h0 : sumOver (fun s => if s = k then a else 0) r = 0 := sumOver_zero fun s hs => if_neg fun (e : s = k) => hd.1 (by rw [← e]; exact hs)
      simp only [sumOver] at h0
      rw [if_pos rfl, h0]
      omega
    · have hr : n ∈ r := by
        rcases List.mem_cons.1 h with e | e
        · exact absurd e.symm hk
        · exact e
      have h1 := sumOver_one n a hd.2 hr
      simp only [sumOver] at h1
      rw [if_neg hk, h1]
      omega
theorem sumOver_sumAt {ks : List (List UInt8)} (hd : ks.Nodup) : ∀ {ls : List Ln}, (∀ l ∈ ls, l.1 ∈ ks) → sumOver (fun s => sumAt s ls) ks = total ls
  | [], _ => sumOver_zero fun _ _ => rfl
  | l :: r, h => by
    have h1 := sumOver_sumAt hd (ls := r) fun x hx => h x (by simp [hx])
    have h2 := sumOver_one l.1 l.2 hd (h l (by simp))
    have h3 := sumOver_add (fun s => if s = l.1 then l.2 else 0) (fun s => sumAt s r) ks
    have e : (fun s => sumAt s (l :: r)) = fun s => (if s = l.1 then l.2 else 0) + sumAt s r := rfl
    rw [e, h3, h1, h2]
    simp [total]
/-- All accounts together are 0, over any names that hold all that are there. -/
def Even (D : DataW Unit) (f : List UInt8 → Int) : Prop := ∀ ks : List (List UInt8), ks.Nodup → (∀ s, Maps.has D (kOf s) = true → s ∈ ks) → sumOver f ks = 0
theorem even_empty : Even (.map [] : DataW Unit) (fun _ => 0) := fun _ _ _ => sumOver_zero fun _ _ => rfl
/-- PACIOLI: an entry whose amounts are together 0 keeps it. -/
theorem Even.post {mx : Nat} {D : DataW Unit} {f : List UInt8 → Int} {ls : List Ln} (hF : Fine mx D f) (h : Even D f) (hp : PostOk mx D f ls) : Even (putAll D f ls) (addAll f ls) := by
  intro ks hd hk
  have hD : ∀ s, Maps.has D (kOf s) = true → s ∈ ks := fun s hs => hk s (by rw [has_putAll _ _ _ _ hF.1.tidy, hs, Bool.true_or])
  have hN : ∀ l ∈ ls, l.1 ∈ ks := fun l hl => hk l.1 (by
    rw [has_putAll _ _ _ _ hF.1.tidy]
    simp only [Bool.or_eq_true, List.any_eq_true]
    exact .inr ⟨l, hl, by simp⟩)
  have e : addAll f ls = fun s => f s + sumAt s ls := funext fun s => addAll_eq s ls f
  rw [e, sumOver_add, h ks hd hD, sumOver_sumAt hd hN, hp.2.2.2.1]
  rfl
/-- Two entries in either order: the same numbers. -/
theorem addAll_comm (f : List UInt8 → Int) (xs ys : List Ln) (s : List UInt8) : addAll (addAll f xs) ys s = addAll (addAll f ys) xs s := by
  rw [addAll_eq, addAll_eq, addAll_eq, addAll_eq]
  omega
end Go.Proofs.YtjoplhpaefngkaaDoor
