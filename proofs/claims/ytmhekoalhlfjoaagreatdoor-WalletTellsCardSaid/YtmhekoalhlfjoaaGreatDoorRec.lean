/- Slices of structs of a fixed number of cells: how they read. Conditions: named in each theorem. -/
import Derived.Test.YtmhekoalhlfjoaaGreatDoorMem
import Derived.Deep.AppendLies
namespace Go.Proofs.YtmhekoalhlfjoaaGreatDoor
open Go.RowKit Go.ChangeShapes Go.WideShapes Go.ChangeAt

section
variable {α : Type} {enc : α → List Value} {sz : Nat}
theorem flat_len (h : ∀ a, (enc a).length = sz) (xs : List α) : (xs.flatMap enc).length = xs.length * sz := by
  induction xs with
  | nil => simp
  | cons x r ih => rw [List.flatMap_cons, List.length_append, ih, h, List.length_cons, Nat.add_mul]; omega
theorem flat_get (h : ∀ a, (enc a).length = sz) (d : α) : ∀ (xs : List α) {k j : Nat}, k < xs.length → j < sz → (xs.flatMap enc)[k * sz + j]? = (enc (xs.getD k d))[j]?
  | x :: r, 0, j, _, hj => by
    rw [List.flatMap_cons, Nat.zero_mul, Nat.zero_add, List.getElem?_append_left (by rw [h]; exact hj)]
    rfl
  | x :: r, k + 1, j, hk, hj => by
    rw [List.flatMap_cons, List.getElem?_append_right (by rw [h, Nat.add_mul]; omega), h, show (k + 1) * sz + j - sz = k * sz + j by rw [Nat.add_mul]; omega, flat_get h d r (by simpa using hk) hj]
    rfl
/-- A slice of structs that reads as xs. -/
def FSl (enc : α → List Value) (sz : Nat) (w : World) (B : Nat) (A : Option Addr) (n : Nat) (xs : List α) : Prop := Sl w B sz A n (xs.flatMap enc)
theorem FSl.len (h : ∀ a, (enc a).length = sz) (hs : 0 < sz) {w : World} {B n : Nat} {A : Option Addr} {xs : List α} (hl : FSl enc sz w B A n xs) : xs.length = n := by
  have := Sl.len hl
  rw [flat_len h] at this
  exact Nat.eq_of_mul_eq_mul_right hs this
theorem FSl.at_ (h : ∀ a, (enc a).length = sz) (hs : 0 < sz) (d : α) {w : World} {B n : Nat} {A : Option Addr} {xs : List α} (hl : FSl enc sz w B A n xs) {k : Nat} (hk : k < n) :
    ∃ b off, A = some ⟨b, off, none⟩ ∧ b < B ∧ ∀ j u, (enc (xs.getD k d))[j]? = some u → w.cell? ⟨b, off + k * sz + j, none⟩ = some u := by
  obtain ⟨b, off, e, hb, hc⟩ := Sl.cells hl (by omega)
  refine ⟨b, off, e, hb, fun j u hu => ?_⟩
  have hj : j < sz := by
    have := (List.getElem?_eq_some_iff.1 hu).1
    rwa [h] at this
  rw [show off + k * sz + j = off + (k * sz + j) by omega]
  refine hc _ _ ?_
  rw [flat_get h d xs (by rw [hl.len h hs]; exact hk) hj]
  exact hu
theorem FSl.below {w w' : World} {B n : Nat} {A : Option Addr} {xs : List α} (h : FSl enc sz w B A n xs) (hb : Below B w w') : FSl enc sz w' B A n xs := Sl.below h hb
theorem FSl.more {w : World} {B B' n : Nat} {A : Option Addr} {xs : List α} (h : FSl enc sz w B A n xs) (hB : B ≤ B') : FSl enc sz w B' A n xs := Sl.more h hB
theorem FSl.drewN {w : World} {B n : Nat} {A : Option Addr} {xs : List α} (h : FSl enc sz w B A n xs) (q : Nat) : FSl enc sz (w.drewN q) B A n xs := Sl.drewN h q
theorem FSl.nil_ {w : World} {B : Nat} {A : Option Addr} : FSl enc sz w B A 0 [] := Sl.nil_
end
theorem take_next {α : Type} {ls : List α} {k : Nat} (d : α) (h : k < ls.length) : ls.take (k + 1) = ls.take k ++ [ls.getD k d] := by
  rw [List.take_add_one, List.getD_eq_getElem?_getD, List.getElem?_eq_getElem h]
  rfl
theorem getD_mem {α : Type} {ls : List α} {k : Nat} (d : α) (h : k < ls.length) : ls.getD k d ∈ ls := by
  rw [List.getD_eq_getElem?_getD, List.getElem?_eq_getElem h, Option.getD_some]
  exact List.getElem_mem _
theorem below_drawn {B : Nat} {a w : World} (h : Below B a w) (n : Nat) : Below B a (w.drewN n) := ⟨h.os, h.tape, h.output, h.size, h.block⟩
/-- The address lies at or behind block N. -/
def Far (N : Nat) (A : Option Addr) : Prop := ∀ b o s, A = some ⟨b, o, s⟩ → N ≤ b
theorem Far.mono {N M : Nat} {A : Option Addr} (h : Far N A) (hM : M ≤ N) : Far M A := fun b o s e => Nat.le_trans hM (h b o s e)
theorem far_own {w : World} {base : Nat} {e : TypeId} {sz : Nat} {A : Option Addr} {n c m : Nat} {xs : List Value} (h : w.ownsRow base e sz (.slice A n c) m xs) : Far base A := by
  rintro b o s rfl
  exact own_block_ge h b (by simp [Value.ownBlock])

/-- 'append(row, x)' at a step of a region that draws: one element more. -/
theorem step_push1 {P : Program} {w : World} {ops : Array Oper} {o : Oper} {a : Act} {K : Act → World → Prop} {Q : Exit → Act → World → Prop} {E : Prop} (hgd : o.guard = none) (s x : Operand) (t e : TypeId)
    (ho : o.op = .call { callee := .builtin .append, args := #[s, x], argTypes := #[t, t] }) (ht : P.underlying t = some (.slice e)) {z : Value} {sz bytes : Nat} (hinfo : (P.info? e).map (fun i => (i.zero, i.size, i.bytes)) = some (some z, sz, bytes)) (hzs : z.cells.size = sz) (hsz : 0 < sz)
    {base n : Nat} {A : Option Addr} {c g : Nat} {xs cs : List Value} (hs : a.eval s = .slice A n c) (hx : a.eval x = .slice (some ⟨g, 0, none⟩) 1 1)
    (hown : w.ownsRow base e sz (.slice A n c) n xs) (hl : cs.length = sz) (hc : ∀ j u, cs[j]? = some u → w.cell? ⟨g, j, none⟩ = some u) (h1 : ∀ u ∈ cs, u.oneCell' = true) (hm : n + 1 ≤ maxLen) (hn : (n + 1) * bytes ≤ 140737488355328) (hbase : base ≤ w.heap.size)
    (h : ∀ A' cap w', w'.ownsRow base e sz (.slice A' (n + 1) cap) (n + 1) (xs ++ cs) → Below base w w' → Grew w w' (.slice A n c) (.slice A' (n + 1) cap) → K (a.put o.dst (.slice A' (n + 1) cap)) w') :
    if Region.wanted o (yielded ops a.tmps) = true then Oper.wp P o a w K Q else E := by
  obtain ⟨i0, hI, hIz, hIs, hIb⟩ := info_parts hinfo
  refine step_append_lies w hgd s x t ho base e i0 z sz bytes ht hI hIz hIs hIb hzs hsz _ n xs hs hown ⟨g, 0, none⟩ 1 1 cs hx (by omega) ?_ h1 (by decide) hm hn hbase _ rfl ?_
  · intro j u hj
    rw [add_plain, Nat.zero_add]
    exact hc j u hj
  · intro g' cap w' hown' hgrow hat _
    refine h _ cap w' hown' ((Below.refl _ _).grown hgrow hbase (fun k hk => own_block_ge hown k hk)) ⟨hgrow, ?_⟩
    rcases hat with e | e
    · exact .inl (by rw [e]; simp [Value.ownBlock])
    · exact .inr ⟨g', by simp [Value.ownBlock], by omega⟩
end Go.Proofs.YtmhekoalhlfjoaaGreatDoor
