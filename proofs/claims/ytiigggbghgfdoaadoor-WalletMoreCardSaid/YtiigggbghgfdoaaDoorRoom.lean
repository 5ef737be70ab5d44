/- Appending to an empty slice that may have room. Conditions: named in each theorem. -/
import Derived.Test.YtiigggbghgfdoaaDoorMem
import Derived.Test.YtiigggbghgfdoaaDoorRec
import Derived.ArgAppend
import Derived.Deep.Upon
namespace Go.Proofs.YtiigggbghgfdoaaDoor
open Go.RowKit Go.ChangeShapes Go.WideShapes Go.ChangeAt

/-- A slice's block, behind N, has all the room that the slice says. -/
def RoomS (w : World) (N : Nat) (G : Option Addr) (c : Nat) : Prop := Far N G ∧ c ≤ maxLen ∧ (c = 0 ∨ ∃ g o cur T, G = some ⟨g, o, none⟩ ∧ w.heap[g]? = some (.cells cur T (0, 0)) ∧ o + c ≤ cur.size)
theorem RoomS.nil (w : World) (N : Nat) : RoomS w N none 0 := ⟨fun _ _ _ e => (by cases e), Nat.zero_le _, .inl rfl⟩
theorem RoomS.keep {w w' : World} {N c : Nat} {G : Option Addr} (h : RoomS w N G c) (hk : ∀ g, N ≤ g → g < w.heap.size → w'.heap[g]? = w.heap[g]?) : RoomS w' N G c := by
  obtain ⟨h1, h2, h3⟩ := h
  refine ⟨h1, h2, h3.imp id ?_⟩
  rintro ⟨g, o, cur, T, e, hg, ho⟩
  exact ⟨g, o, cur, T, e, (hk g (h1 g o none e) (Array.getElem?_eq_some_iff.1 hg).1).trans hg, ho⟩
theorem RoomS.less {w : World} {N M c : Nat} {G : Option Addr} (h : RoomS w N G c) (hM : M ≤ N) : RoomS w M G c := ⟨h.1.mono hM, h.2⟩
theorem RoomS.of_own {w : World} {N n c : Nat} {A : Option Addr} {e : TypeId} {xs : List Value} (h : w.ownsRow N e 1 (.slice A n c) n xs) : RoomS w N A c := by
  refine ⟨far_own h, ?_, ?_⟩
  · rcases h.2 with ⟨hv, _⟩ | ⟨g, cap, cur, hv, _, _, _, hm, _⟩
    · injection hv with _ _ e3
      rw [e3]; exact Nat.zero_le _
    · injection hv with _ _ e3
      rw [e3]; exact hm
  · rcases h.2 with ⟨hv, _⟩ | ⟨g, cap, cur, hv, _, hg, _, _, hs, _⟩
    · injection hv with _ _ e3
      exact .inl e3
    · injection hv with e1 _ e3
      exact .inr ⟨g, 0, cur, e, e1, hg, by rw [hs, e3]; omega⟩
theorem RoomS.shift {w : World} {N c : Nat} {G : Option Addr} (h : RoomS w N G c) (k : Nat) (hk : k ≤ c) : RoomS w N (if c = k then G else Option.map (fun x => (⟨x.block, x.off + k, none⟩ : Addr)) G) (c - k) := by
  obtain ⟨h1, h2, h3⟩ := h
  by_cases hc : c = k
  · rw [if_pos hc]
    exact ⟨h1, by omega, .inl (by omega)⟩
  · rw [if_neg hc]
    rcases h3 with h3 | ⟨g, o, cur, T, e, hg, ho⟩
    · omega
    · refine ⟨?_, by omega, .inr ⟨g, o + k, cur, T, by rw [e]; rfl, hg, by omega⟩⟩
      rw [e]
      rintro b o' s e2
      simp at e2
      obtain ⟨rfl, _⟩ := e2
      exact h1 g o none e
theorem heap_setCells_same {g : Nat} {T : TypeId} : ∀ (vs : List Value) (o : Nat) (w : World) (cur : Array Value), w.heap[g]? = some (.cells cur T (0, 0)) → ∃ cur', (w.setCells g o vs).heap[g]? = some (.cells cur' T (0, 0)) ∧ cur'.size = cur.size
  | [], _, _, cur, h => ⟨cur, h, rfl⟩
  | v :: vs, o, w, cur, h => by
    obtain ⟨cur', h1, h2⟩ := heap_setCells_same vs (o + 1) (w.setCell ⟨g, o, none⟩ v) _ (heap_setCell_same w g o _ T v h)
    exact ⟨cur', h1, by rw [h2]; simp⟩
theorem below_cells {B g : Nat} {a : World} (hB : B ≤ g) : ∀ (vs : List Value) (o : Nat) (w : World), Below B a w → Below B a (w.setCells g o vs)
  | [], _, _, h => h
  | v :: vs, o, w, h => below_cells hB vs (o + 1) (w.setCell ⟨g, o, none⟩ v) (h.setCell (p := ⟨g, o, none⟩) hB v)
theorem size_cells {g : Nat} : ∀ (vs : List Value) (o : Nat) (w : World), (w.setCells g o vs).heap.size = w.heap.size
  | [], _, _ => rfl
  | v :: vs, o, w => (size_cells vs (o + 1) (w.setCell ⟨g, o, none⟩ v)).trans (by simp)
theorem run_none {P : Program} (w : World) (t ty e : TypeId) (i : TypeInfo) (ht : P.underlying t = some (.slice e)) (hi : P.info? e = some i) (G A : Option Addr) (c c2 : Nat) :
    (Builtin.append_ #[t, t] ty #[.slice G 0 c, .slice A 0 c2]).run P w = .ok (.slice G 0 c) w := by
  cases A with
  | none => cases G <;> simp [Builtin.append_, run_underlying ht, sizeOf, typeInfo, hi, Builtin.lenOf, Builtin.firstCells, storeCells]
  | some a =>
    have hfc := run_firstCells_some (P := P) w i.size 0 a 0 c2 [] (by simp) (fun j u h => by simp at h)
    cases G <;> simp [Builtin.append_, run_underlying ht, sizeOf, typeInfo, hi, Builtin.lenOf, hfc, storeCells]
/-- 'append(v, s...)', v empty, with room or without: the world behind it, and where the new slice lies. -/
theorem wpList_fill {P : Program} {ops : Array Oper} {rest : List Oper} {o : Oper} {a : Act} {Q : Exit → Act → World → Prop} {w : World} {e : TypeId}
    (hgd : o.guard = none) (s x : Operand) (t : TypeId) (ho : o.op = .call { callee := .builtin .append, args := #[s, x], argTypes := #[t, t] })
    (z : Value) (bytes : Nat) (ht : P.underlying t = some (.slice e)) (hinfo : (P.info? e).map (fun i => (i.zero, i.size, i.bytes)) = some (some z, 1, bytes)) (hzs : z.cells.size = 1)
    (N : Nat) (G : Option Addr) (c : Nat) (hs : a.eval s = .slice G 0 c) (hr : RoomS w N G c)
    (B : Nat) (A : Option Addr) (m c2 : Nat) (ys : List Value) (hx : a.eval x = .slice A m c2) (hy : Sl w B 1 A m ys) (h1 : ∀ u ∈ ys, u.oneCell' = true)
    (hn : m * bytes ≤ 140737488355328) (hm : m ≤ maxLen) (hN : N ≤ w.heap.size)
    (h : ∀ A' c' w', Sl w' w'.heap.size 1 A' m ys → RoomS w' N A' c' → m ≤ c' → Below N w w' → wpList P ops Q rest (a.put o.dst (.slice A' m c')) w') :
    wpList P ops Q (o :: rest) a w := by
  obtain ⟨i0, hI, hIz, hIs, hIb⟩ := info_parts hinfo
  have hyl : ys.length = m := by simpa using hy.len
  by_cases hm0 : m = 0
  · subst hm0
    have hys : ys = [] := List.eq_nil_of_length_eq_zero hyl
    subst hys
    refine wpList_plain hgd fun K hK => ?_
    have hrun := run_none (P := P) w t o.type e i0 ht hI G A c c2
    unfold Oper.wp execOp
    simp only [ho, resolve, invoke, builtin, Sem.run_bind, Sem.run_pure, Result.andThen_ok, List.map_toArray, List.map_cons, List.map_nil, hs, hx, hrun]
    exact hK _ _ (h G c w Sl.nil_ hr (Nat.zero_le _) (Below.refl _ _))
  obtain ⟨b, off, rfl, hb, hcell⟩ := hy.cells (by omega)
  have hcs : ∀ j u, ys[j]? = some u → w.cell? ((⟨b, off, none⟩ : Addr).add j) = some u := fun j u hj => by rw [add_plain]; exact hcell j u hj
  have hgrown : ∀ v' w', w'.ownsRow w.heap.size e 1 v' (0 + m) ([] ++ ys) → w.grownBy w' none → wpList P ops Q rest (a.put o.dst v') w' := fun v' w' hown hg => by
    rw [Nat.zero_add, List.nil_append] at hown
    obtain ⟨A', c', rfl, hc1, hc2⟩ := own_slice hown
    refine h A' c' w' (Sl.own hown) ((RoomS.of_own hown).less hN) hc1 ?_
    exact ⟨hg.os, hg.tape, hg.output, hg.size, fun k hk => hg.block k (by omega) (by simp)⟩
  obtain ⟨r1, r2, r3⟩ := hr
  rcases r3 with r3 | ⟨g, og, cur, T, rfl, hg, hoc⟩
  · subst r3
    exact wpList_append_grows w hgd s x t ho e i0 z 1 bytes ht hI hIz hIs hIb hzs (by decide) G 0 0 [] hs (fun _ => ⟨rfl, rfl⟩) rfl (fun _ _ j u hj => by simp at hj) ⟨b, off, none⟩ m c2 ys hx (by omega) hcs h1 (by omega) (by omega) (by rw [Nat.zero_add]; exact hn) hgrown
  · have hNg := r1 g og none rfl
    have hglt := (Array.getElem?_eq_some_iff.1 hg).1
    have hsp : ∀ j, j < c → (w.cell? ⟨g, og + j, none⟩).isSome = true ∧ w.frozen? ⟨g, og + j, none⟩ = false := fun j hj => by
      constructor
      · rw [cell_of_row w g (og + j) _ _ _ hg, Array.getElem?_eq_getElem (by omega)]
        rfl
      · exact frozen_of_row w g (og + j) _ _ hg
    refine wpList_append_arg w hgd s x t ho e i0 z 1 bytes ht hI hIz hIs hIb hzs (by decide) g og 0 c [] hs rfl (fun j u hj => by simp at hj) ⟨b, off, none⟩ m c2 ys hx (by omega) hcs h1 (fun hle j hj => by rw [Nat.zero_mul, Nat.add_zero]; exact hsp j (by omega)) (by omega) (by rw [Nat.zero_add]; exact hn) (fun hle => ?_) (fun _ => hgrown)
    rw [Nat.zero_mul, Nat.add_zero, Nat.zero_add]
    obtain ⟨cur', hc1, hc2⟩ := heap_setCells_same ys og w cur hg
    refine h (some ⟨g, og, none⟩) c _ ⟨by simpa using hyl, fun _ => ⟨g, og, rfl, by rw [size_cells]; exact hglt, fun j u hj => ?_⟩⟩ ⟨r1, r2, .inr ⟨g, og, cur', T, rfl, hc1, by rw [hc2]; exact hoc⟩⟩ (by omega) (below_cells hNg ys og w (Below.refl _ _))
    have hjl := (List.getElem?_eq_some_iff.1 hj).1
    rw [World.cell?_setCells_in g ys og w (fun k hk => (hsp k (by omega)).1) j hjl]
    rw [← (List.getElem?_eq_some_iff.1 hj).2]
end Go.Proofs.YtiigggbghgfdoaaDoor
