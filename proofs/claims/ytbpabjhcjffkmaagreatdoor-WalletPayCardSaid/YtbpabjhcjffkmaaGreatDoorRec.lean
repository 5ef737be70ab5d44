/- Words for memory, of this seat's own: a slice that reads as a list of cells; how it is kept where the world grows; an append onto a row of the call's own. Conditions: named in each theorem. Slices of structs of a fixed number of cells: how they read. Conditions: named in each theorem. -/
import Derived.Test.YtbpabjhcjffkmaaGreatDoorFrame
import Derived.Laws.OwnMore
import Derived.Deep.Draws
import Derived.Lib.SmallJoins
import Derived.Maps.AppendAt
import Derived.Deep.AppendLies
/- Words for memory, of this seat's own: a slice that reads as a list of cells; how it is kept where the world grows; an append onto a row of the call's own. Conditions: named in each theorem. -/
namespace Go.Proofs.YtbpabjhcjffkmaaGreatDoor
open Go.RowKit Go.ChangeShapes Go.WideShapes Go.ChangeAt

/-- A fact put aside, so that the walk does not rewrite by it. -/
theorem aside {p : Prop} (h : p) : Hid p := h
/-- The slice with address A and n elements of sz cells each holds the cells xs; it lies below block B. -/
structure Sl (w : World) (B sz : Nat) (A : Option Addr) (n : Nat) (xs : List Value) : Prop where
 len : xs.length = n * sz
 cells : 0 < n → ∃ b off, A = some ⟨b, off, none⟩ ∧ b < B ∧ ∀ j u, xs[j]? = some u → w.cell? ⟨b, off + j, none⟩ = some u
theorem Sl.nil_ {w : World} {B sz : Nat} {A : Option Addr} : Sl w B sz A 0 [] := ⟨by simp, fun h => absurd h (Nat.lt_irrefl 0)⟩

section
variable {w w' : World} {B B' sz n : Nat} {A : Option Addr} {xs : List Value}
theorem Sl.keep (h : Sl w B sz A n xs) (hk : ∀ p : Addr, p.block < B → w'.cell? p = w.cell? p) : Sl w' B sz A n xs :=
 ⟨h.len, fun hn => by
  obtain ⟨b, off, e, hb, hc⟩ := h.cells hn
  exact ⟨b, off, e, hb, fun j u hu => (hk _ hb).trans (hc j u hu)⟩⟩
theorem Sl.more (h : Sl w B sz A n xs) (hB : B ≤ B') : Sl w B' sz A n xs :=
 ⟨h.len, fun hn => by
  obtain ⟨b, off, e, hb, hc⟩ := h.cells hn
  exact ⟨b, off, e, Nat.lt_of_lt_of_le hb hB, hc⟩⟩
theorem Sl.below (h : Sl w B sz A n xs) (hb : Below B w w') : Sl w' B sz A n xs := h.keep fun _ hp => hb.cell hp
theorem Sl.alloc (h : Sl w B sz A n xs) (hB : B ≤ w.heap.size) (o : Obj) : Sl (w.alloc o) B sz A n xs :=
 h.keep fun p hp => World.cell?_alloc_lt w o p (Nat.lt_of_lt_of_le hp hB)
theorem Sl.drewN (h : Sl w B sz A n xs) (k : Nat) : Sl (w.drewN k) B sz A n xs := ⟨h.len, h.cells⟩
theorem Sl.drew (h : Sl w B sz A n xs) : Sl w.drew B sz A n xs := ⟨h.len, h.cells⟩
theorem Sl.setCell (h : Sl w B sz A n xs) {p : Addr} (hB : B ≤ p.block) (u : Value) : Sl (w.setCell p u) B sz A n xs :=
 h.keep fun q hq => World.cell?_setCell_other w p q u (fun e => by subst e; omega)
theorem Sl.own {base : Nat} {e : TypeId} {c : Nat} (h : w.ownsRow base e sz (.slice A n c) n xs) : Sl w w.heap.size sz A n xs := by
 refine ⟨h.1, fun hn => ?_⟩
 obtain ⟨g, cap, hv⟩ := Joins.ownsRow_form h hn
 have hA : A = some ⟨g, 0, none⟩ := by injection hv
 subst hA
 have hlt := (h.lt g rfl).2
 refine ⟨g, 0, rfl, hlt, fun j u hu => ?_⟩
 have := World.ownsRow.cells h (g := g) rfl j u hu
 rw [← this]
 congr 1
 unfold Addr.add
 split <;> simp_all
end

/-- The number at a place (0 where there is none): not laid open by simp. -/
def nth (zs : List Int) (k : Nat) : Int := zs.getD k 0
theorem nth_get {zs : List Int} {k : Nat} (h : k < zs.length) : nth zs k = zs[k] := by simp [nth, List.getD_eq_getElem?_getD, List.getElem?_eq_getElem h]
theorem nth_mem {zs : List Int} {k : Nat} (h : k < zs.length) : nth zs k ∈ zs := by rw [nth_get h]; exact List.getElem_mem h
/-- A slice of ints that reads as zs. -/
def ISl (w : World) (B : Nat) (A : Option Addr) (n : Nat) (zs : List Int) : Prop := Sl w B 1 A n (zs.map (Value.int .i64))
section
variable {w w' : World} {B B' n : Nat} {A : Option Addr} {zs : List Int}
theorem ISl.len (h : ISl w B A n zs) : zs.length = n := by have := Sl.len h; simpa using this
theorem ISl.at_ (h : ISl w B A n zs) {k : Nat} (hk : k < n) : ∃ b off, A = some ⟨b, off, none⟩ ∧ b < B ∧ w.cell? ⟨b, off + k, none⟩ = some (.int .i64 (nth zs k)) := by
 obtain ⟨b, off, e, hb, hc⟩ := Sl.cells h (by omega)
 have hl := h.len
 refine ⟨b, off, e, hb, hc k _ ?_⟩
 rw [List.getElem?_map, nth_get (by omega), List.getElem?_eq_getElem (by omega)]
 rfl
end

/-- What 'info?' of int says, in parts. -/
theorem own_slice {w : World} {base : Nat} {e : TypeId} {sz : Nat} {v : Value} {n : Nat} {xs : List Value} (h : w.ownsRow base e sz v n xs) : ∃ A c, v = .slice A n c ∧ n ≤ c ∧ c ≤ maxLen := by
 rcases h.2 with ⟨rfl, rfl⟩ | ⟨g, cap, cur, rfl, _, _, h1, h2, _⟩
 ·exact ⟨none, 0, rfl, Nat.le_refl _, Nat.zero_le _⟩
 ·exact ⟨_, cap, rfl, h1, h2⟩
theorem own_block_ge {w : World} {base : Nat} {e : TypeId} {sz : Nat} {v : Value} {n : Nat} {xs : List Value} (h : w.ownsRow base e sz v n xs) : ∀ k, v.ownBlock = some k → base ≤ k := by
 rcases h.2 with ⟨rfl, _⟩ | ⟨g, cap, cur, rfl, hg, _⟩
 ·intro k hk; simp [Value.ownBlock] at hk
 ·intro k hk; simp [Value.ownBlock] at hk; omega
theorem below_own {a w w' : World} {B base : Nat} {e : TypeId} {sz : Nat} {v : Value} {n : Nat} {xs : List Value} (hb : Below B a w) (h : w.ownsRow base e sz v n xs) (hg : w.grownBy w' v.ownBlock) (hB : B ≤ base) (hw : B ≤ w.heap.size) : Below B a w' :=
 hb.grown hg hw (fun k hk => Nat.le_trans hB (own_block_ge h k hk))
theorem own_below {w w' : World} {base : Nat} {e : TypeId} {sz : Nat} {v : Value} {n : Nat} {xs : List Value} (h : w.ownsRow base e sz v n xs) (hb : Below w.heap.size w w') : w'.ownsRow base e sz v n xs :=
 h.kept (row := none) ⟨hb.os, hb.tape, hb.output, hb.size, fun k hk _ => hb.block k hk⟩ (by
  cases hv : v.ownBlock with
  | none => exact .inl rfl
  | some k => exact .inr (by simp))
theorem intInfo : (Tryz.prog.info? 3).map (fun i => (i.zero, i.size, i.bytes)) = some (some (.int .i64 0), 1, 8) := by kernel_rfl
/-- What an append onto v that gives v' leaves: only v's block, and what is new, has turned; v' lies in v's block or in a new one. -/
structure Grew (w w' : World) (v v' : Value) : Prop where
 by_ : w.grownBy w' v.ownBlock
 at_ : v'.ownBlock = v.ownBlock ∨ ∃ g, v'.ownBlock = some g ∧ w.heap.size ≤ g
/-- Two values that own no block together. -/
def Apart (v u : Value) : Prop := ∀ k, v.ownBlock = some k → u.ownBlock ≠ some k
theorem Apart.symm {v u : Value} (h : Apart v u) : Apart u v := fun k hu hv => h k hv hu
theorem apart_nil (u : Value) (n c : Nat) : Apart (.slice none n c) u := fun k h => by simp [Value.ownBlock] at h
theorem Grew.other {w w' : World} {v v' u : Value} {base : Nat} {e : TypeId} {sz m : Nat} {ys : List Value} (h : Grew w w' v v') (hu : w.ownsRow base e sz u m ys) (ha : Apart v u) : w'.ownsRow base e sz u m ys ∧ Apart v' u := by
 constructor
 ·refine hu.kept h.by_ ?_
  cases hk : u.ownBlock with
  | none => exact .inl rfl
  | some k => exact .inr (fun e => ha k e.symm hk)
 ·intro k hk hu'
  have hlt := (hu.lt k hu').2
  rcases h.at_ with e | ⟨g, e, hg⟩
  ·exact ha k (e ▸ hk) hu'
  ·rw [e] at hk
   injection hk with hk
   omega
theorem Grew.sl {w w' : World} {v v' : Value} {B sz n : Nat} {A : Option Addr} {xs : List Value} (h : Grew w w' v v') (hs : Sl w B sz A n xs) (hB : B ≤ w.heap.size) (hv : ∀ k, v.ownBlock = some k → B ≤ k) : Sl w' B sz A n xs :=
 hs.keep fun p hp => World.cell?_of_block (h.by_.block p.block (by omega) (fun e => by have := hv _ e.symm; omega))
/-- 'v = append(v, x)': one element more, onto a row of the call's own. -/
theorem wpList_push {P : Program} {ops : Array Oper} {rest : List Oper} {o : Oper} {a : Act} {Q : Exit → Act → World → Prop} {w0 : World} {cs : Array Value} {e : TypeId}
  (hgd : o.guard = none) (s x : Operand) (t : TypeId) (ho : o.op = .call { callee := .builtin .append, args := #[s, x], argTypes := #[t, t] })
  (base : Nat) (z : Value) (sz bytes : Nat) (ht : P.underlying t = some (.slice e)) (hinfo : (P.info? e).map (fun i => (i.zero, i.size, i.bytes)) = some (some z, sz, bytes)) (hzs : z.cells.size = sz) (hsz : 0 < sz)
  (v : Value) (n : Nat) (xs : List Value) (hs : a.eval s = v) (hx : a.eval x = .slice (some ⟨w0.heap.size, 0, none⟩) 1 1) (hcs : cs.size = sz) (h1 : cs.toList.all (fun u => u.oneCell') = true)
  (hown : w0.ownsRow base e sz v n xs) (hn : (n + 1) * bytes ≤ 140737488355328) (hm : n + 1 ≤ maxLen) (hbase : base ≤ w0.heap.size)
  (h : ∀ A c w', n + 1 ≤ c → c ≤ maxLen → w'.ownsRow base e sz (.slice A (n + 1) c) (n + 1) (xs ++ cs.toList) → Below base w0 w' → w0.heap.size < w'.heap.size → Grew w0 w' v (.slice A (n + 1) c) → wpList P ops Q rest (a.put o.dst (.slice A (n + 1) c)) w') :
  wpList P ops Q (o :: rest) a (w0.alloc (.cells cs e)) := by
 obtain ⟨i0, hI, hIz, hIs, hIb⟩ := info_parts hinfo
 refine wpList_append_own_at _ hgd s x t ho base e i0 z sz bytes ht hI hIz hIs hIb hzs hsz v n xs hs (hown.alloc _) ⟨w0.heap.size, 0, none⟩ 1 1 cs.toList hx (by simpa using hcs) ?_ ?_ hm hn (by simp; omega) ?_
 ·intro j u hj
  rw [add_plain, Nat.zero_add, World.cell?_alloc_at _ _ _ _ rfl]
  simpa using hj
 ·intro u hu
  exact List.all_eq_true.1 h1 u hu
 ·intro v' w' hown' hg _ hat
  obtain ⟨A, c, rfl, hc1, hc2⟩ := own_slice hown'
  have hb0 : Below base w0 (w0.alloc (.cells cs e)) := (Below.refl _ _).alloc hbase _
  have hb1 := below_own hb0 (hown.alloc (.cells cs e)) hg (Nat.le_refl _) (by simp; omega)
  have := hg.size
  simp only [World.size_alloc] at this
  refine h A c w' hc1 hc2 hown' hb1 (by omega) ⟨⟨hg.os, hg.tape, hg.output, by omega, fun k hk hne => ?_⟩, ?_⟩
  ·rw [hg.block k (by simp; omega) hne]
   exact Below.heap_alloc w0 _ k hk
  ·rcases hat with e | e
   ·exact .inl e
   ·exact .inr ⟨_, e, by simp⟩
theorem run_concat_nil {P : Program} (w : World) (base : Nat) (t ty e : TypeId) (i : TypeInfo) (sz : Nat) (ht : P.underlying t = some (.slice e)) (hi : P.info? e = some i)
  (v : Value) (n : Nat) (xs : List Value) (hown : w.ownsRow base e sz v n xs) (c : Nat) : (Builtin.append_ #[t, t] ty #[v, .slice none 0 c]).run P w = .ok v w := by
 rcases hown.2 with ⟨rfl, rfl⟩ | ⟨g, cap, cur, rfl, _, _, hnc, _⟩
 ·simp [Builtin.append_, run_underlying ht, sizeOf, typeInfo, hi, Builtin.lenOf, Builtin.firstCells]
 ·simp [Builtin.append_, run_underlying ht, sizeOf, typeInfo, hi, Builtin.lenOf, Builtin.firstCells, hnc, storeCells]
/-- 'v = append(v, s...)': all of a slice, onto a row of the call's own. -/
theorem wpList_concat {P : Program} {ops : Array Oper} {rest : List Oper} {o : Oper} {a : Act} {Q : Exit → Act → World → Prop} {w : World} {e : TypeId}
  (hgd : o.guard = none) (s x : Operand) (t : TypeId) (ho : o.op = .call { callee := .builtin .append, args := #[s, x], argTypes := #[t, t] })
  (base : Nat) (z : Value) (sz bytes : Nat) (ht : P.underlying t = some (.slice e)) (hinfo : (P.info? e).map (fun i => (i.zero, i.size, i.bytes)) = some (some z, sz, bytes)) (hzs : z.cells.size = sz) (hsz : 0 < sz)
  (v : Value) (n : Nat) (xs : List Value) (hs : a.eval s = v) (hown : w.ownsRow base e sz v n xs)
  (B : Nat) (A : Option Addr) (m c : Nat) (ys : List Value) (hx : a.eval x = .slice A m c) (hy : Sl w B sz A m ys) (h1 : ∀ u ∈ ys, u.oneCell' = true)
  (hn : (n + m) * bytes ≤ 140737488355328) (hm : n + m ≤ maxLen) (hbase : base ≤ w.heap.size)
  (h : ∀ A' c' w', n + m ≤ c' → c' ≤ maxLen → w'.ownsRow base e sz (.slice A' (n + m) c') (n + m) (xs ++ ys) → Below base w w' → Grew w w' v (.slice A' (n + m) c') → wpList P ops Q rest (a.put o.dst (.slice A' (n + m) c')) w') :
  wpList P ops Q (o :: rest) a w := by
 obtain ⟨i0, hI, hIz, hIs, hIb⟩ := info_parts hinfo
 by_cases hA : A = none
 ·subst hA
  have hm0 : m = 0 := by
   rcases Nat.eq_zero_or_pos m with h0 | h0
   ·exact h0
   ·obtain ⟨_, _, hh, _⟩ := hy.cells h0
    cases hh
  subst hm0
  have hys : ys = [] := List.eq_nil_of_length_eq_zero (by simpa using hy.len)
  subst hys
  refine wpList_plain hgd fun K hK => ?_
  have hrun := run_concat_nil (P := P) w base t o.type e i0 sz ht hI v n xs hown c
  obtain ⟨A', c', rfl, hc1, hc2⟩ := own_slice hown
  unfold Oper.wp execOp
  simp only [ho, resolve, invoke, builtin, Sem.run_bind, Sem.run_pure, Result.andThen_ok, List.map_toArray, List.map_cons, List.map_nil, hs, hx, hrun]
  exact hK _ _ (h A' c' w hc1 hc2 (by simpa using hown) (Below.refl _ _) ⟨World.grownBy.refl _ _, .inl rfl⟩)
 ·obtain ⟨ad, rfl⟩ : ∃ ad, A = some ad := by
   cases A with
   | none => exact absurd rfl hA
   | some ad => exact ⟨ad, rfl⟩
  refine wpList_append_own_at _ hgd s x t ho base e i0 z sz bytes ht hI hIz hIs hIb hzs hsz v n xs hs hown ad m c ys hx hy.len ?_ h1 hm hn hbase ?_
  ·intro j u hj
   rcases Nat.eq_zero_or_pos m with h0 | h0
   ·subst h0
    have hys : ys = [] := List.eq_nil_of_length_eq_zero (by simpa using hy.len)
    subst hys
    simp at hj
   ·obtain ⟨b, off, hh, _, hc⟩ := hy.cells h0
    simp only [Option.some.injEq] at hh
    subst hh
    rw [add_plain]
    exact hc j u hj
  ·intro v' w' hown' hg _ hat
   obtain ⟨A', c', rfl, hc1, hc2⟩ := own_slice hown'
   refine h A' c' w' hc1 hc2 hown' (below_own (Below.refl _ _) hown hg (Nat.le_refl _) hbase) ⟨hg, ?_⟩
   rcases hat with e | e
   ·exact .inl e
   ·exact .inr ⟨_, e, Nat.le_refl _⟩
/-- A row of ints of the call's own. -/
def IRow (w : World) (base : Nat) (v : Value) (zs : List Int) : Prop := w.ownsRow base 3 1 v zs.length (zs.map (Value.int .i64))
theorem IRow.push {w' : World} {base : Nat} {v : Value} {zs : List Int} {x : Int} {n : Nat} (hn : n = zs.length + 1) (h : w'.ownsRow base 3 1 v n (zs.map (Value.int .i64) ++ #[Value.int .i64 x].toList)) : IRow w' base v (zs ++ [x]) := by
 subst hn
 unfold IRow
 simpa using h
theorem IRow.drewN {w : World} {base : Nat} {v : Value} {zs : List Int} (h : IRow w base v zs) (n : Nat) : IRow (w.drewN n) base v zs := h
theorem IRow.out {w : World} {base : Nat} {v : Value} {zs : List Int} (h : IRow w base v zs) : ∃ A n c, v = .slice A n c ∧ ISl w w.heap.size A n zs ∧ n ≤ c ∧ c ≤ maxLen := by
 obtain ⟨A, c, rfl, h1, h2⟩ := own_slice h
 exact ⟨A, _, c, rfl, Sl.own h, h1, h2⟩

end Go.Proofs.YtbpabjhcjffkmaaGreatDoor

/- Slices of structs of a fixed number of cells: how they read. Conditions: named in each theorem. -/
namespace Go.Proofs.YtbpabjhcjffkmaaGreatDoor
open Go.RowKit Go.ChangeShapes Go.WideShapes Go.ChangeAt

section
variable {α : Type} {enc : α → List Value} {sz : Nat}
theorem flat_len (h : ∀ a, (enc a).length = sz) (xs : List α) : (xs.flatMap enc).length = xs.length * sz := by
 induction xs with
 | nil => simp
 | cons x r ih => rw [List.flatMap_cons, List.length_append, ih, h, List.length_cons, Nat.add_mul]; omega
theorem flat_get (h : ∀ a, (enc a).length = sz) (d : α) : ∀ (xs : List α) {k j : Nat}, k < xs.length → j < sz → (xs.flatMap enc)[k * sz + j]? = (enc (xs.getD k d))[j]?
 | x :: r, 0, j, _, hj => by
  rw [List.flatMap_cons, Nat.zero_mul, Nat.zero_add, List.getElem?_append_left (by rw [h]; exact hj)]
  rfl
 | x :: r, k + 1, j, hk, hj => by
  rw [List.flatMap_cons, List.getElem?_append_right (by rw [h, Nat.add_mul]; omega), h, show (k + 1) * sz + j - sz = k * sz + j by rw [Nat.add_mul]; omega, flat_get h d r (by simpa using hk) hj]
  rfl
/-- A slice of structs that reads as xs. -/
def FSl (enc : α → List Value) (sz : Nat) (w : World) (B : Nat) (A : Option Addr) (n : Nat) (xs : List α) : Prop := Sl w B sz A n (xs.flatMap enc)
theorem FSl.len (h : ∀ a, (enc a).length = sz) (hs : 0 < sz) {w : World} {B n : Nat} {A : Option Addr} {xs : List α} (hl : FSl enc sz w B A n xs) : xs.length = n := by
 have := Sl.len hl
 rw [flat_len h] at this
 exact Nat.eq_of_mul_eq_mul_right hs this
theorem FSl.at_ (h : ∀ a, (enc a).length = sz) (hs : 0 < sz) (d : α) {w : World} {B n : Nat} {A : Option Addr} {xs : List α} (hl : FSl enc sz w B A n xs) {k : Nat} (hk : k < n) :
  ∃ b off, A = some ⟨b, off, none⟩ ∧ b < B ∧ ∀ j u, (enc (xs.getD k d))[j]? = some u → w.cell? ⟨b, off + k * sz + j, none⟩ = some u := by
 obtain ⟨b, off, e, hb, hc⟩ := Sl.cells hl (by omega)
 refine ⟨b, off, e, hb, fun j u hu => ?_⟩
 have hj : j < sz := by
  have := (List.getElem?_eq_some_iff.1 hu).1
  rwa [h] at this
 rw [show off + k * sz + j = off + (k * sz + j) by omega]
 refine hc _ _ ?_
 rw [flat_get h d xs (by rw [hl.len h hs]; exact hk) hj]
 exact hu
theorem FSl.below {w w' : World} {B n : Nat} {A : Option Addr} {xs : List α} (h : FSl enc sz w B A n xs) (hb : Below B w w') : FSl enc sz w' B A n xs := Sl.below h hb
theorem FSl.more {w : World} {B B' n : Nat} {A : Option Addr} {xs : List α} (h : FSl enc sz w B A n xs) (hB : B ≤ B') : FSl enc sz w B' A n xs := Sl.more h hB
theorem FSl.drewN {w : World} {B n : Nat} {A : Option Addr} {xs : List α} (h : FSl enc sz w B A n xs) (q : Nat) : FSl enc sz (w.drewN q) B A n xs := Sl.drewN h q
theorem FSl.nil_ {w : World} {B : Nat} {A : Option Addr} : FSl enc sz w B A 0 [] := Sl.nil_
end
theorem take_next {α : Type} {ls : List α} {k : Nat} (d : α) (h : k < ls.length) : ls.take (k + 1) = ls.take k ++ [ls.getD k d] := by
 rw [List.take_add_one, List.getD_eq_getElem?_getD, List.getElem?_eq_getElem h]
 rfl
theorem getD_mem {α : Type} {ls : List α} {k : Nat} (d : α) (h : k < ls.length) : ls.getD k d ∈ ls := by
 rw [List.getD_eq_getElem?_getD, List.getElem?_eq_getElem h, Option.getD_some]
 exact List.getElem_mem _
theorem below_drawn {B : Nat} {a w : World} (h : Below B a w) (n : Nat) : Below B a (w.drewN n) := ⟨h.os, h.tape, h.output, h.size, h.block⟩
/-- The address lies at or behind block N. -/
def Far (N : Nat) (A : Option Addr) : Prop := ∀ b o s, A = some ⟨b, o, s⟩ → N ≤ b
theorem Far.mono {N M : Nat} {A : Option Addr} (h : Far N A) (hM : M ≤ N) : Far M A := fun b o s e => Nat.le_trans hM (h b o s e)
theorem far_own {w : World} {base : Nat} {e : TypeId} {sz : Nat} {A : Option Addr} {n c m : Nat} {xs : List Value} (h : w.ownsRow base e sz (.slice A n c) m xs) : Far base A := by
 rintro b o s rfl
 exact own_block_ge h b (by simp [Value.ownBlock])
end Go.Proofs.YtbpabjhcjffkmaaGreatDoor
