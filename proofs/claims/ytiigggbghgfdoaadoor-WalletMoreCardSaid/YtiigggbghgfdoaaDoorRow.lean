/- Rows of structs: copied within and between: words of this seat's own. Conditions: named in each theorem. -/
import Derived.Test.YtiigggbghgfdoaaDoorRec
import Derived.Laws.CopyOwn
import Derived.Lib.AppendZerosOnto
import Derived.Lib.Overlaps
import Derived.Laws.Externs
namespace Go.Proofs.YtiigggbghgfdoaaDoor
open Go.RowKit Go.ChangeShapes Go.WideShapes Go.ChangeAt

theorem run_copy_sz {P : Program} (w : World) (dT sT ty elem : TypeId) (sz : Nat) (g o dLen dCap : Nat) (a : Addr) (sLen sCap : Nat) (cur : Array Value) (t : TypeId) (cs : List Value)
    (hu : P.underlying dT = some (.slice elem)) (hs : (P.info? elem).map (·.size) = some sz)
    (hg : w.heap[g]? = some (.cells cur t (0, 0))) (k : Nat) (hk : Nat.min sLen dLen = k) (hn : cs.length = k * sz)
    (hsrc : ∀ j v, cs[j]? = some v → w.cell? (a.add j) = some v) (hfit : o + cs.length ≤ cur.size) (h1 : ∀ v ∈ cs, v.oneCell' = true) :
    (Builtin.copy_ #[dT, sT] ty #[.slice (some ⟨g, o, none⟩) dLen dCap, .slice (some a) sLen sCap]).run P w =
      .ok (goInt k) (w.setRow g (cur.toList.take o ++ cs ++ cur.toList.drop (o + cs.length)).toArray) := by
  have hl := run_loadCells_list (P := P) w a cs hsrc
  have hst := run_storeCells_at P g o t cs 0 cur w hg (by simpa using hfit) h1
  cases hq : P.info? elem with
  | none => simp [hq] at hs
  | some i =>
    have hi : i.size = sz := by simpa [hq] using hs
    rw [hn] at hl
    simp [Builtin.copy_, run_underlying hu, Builtin.lenOf, Builtin.firstCells, sizeOf, typeInfo, hq, hi, hk, hl, hst]
theorem wpList_copy_sz {P : Program} {w : World} {ops : Array Oper} {rest : List Oper} {o : Oper} {a : Act} {Q : Exit → Act → World → Prop} (hgd : o.guard = none) (d s : Operand) (dT sT : TypeId)
    (ho : o.op = .call { callee := .builtin .copy, args := #[d, s], argTypes := #[dT, sT] }) (elem : TypeId) (sz : Nat) (hu : P.underlying dT = some (.slice elem)) (hsz : (P.info? elem).map (·.size) = some sz)
    (g off dLen dCap : Nat) (ad : Addr) (sLen sCap : Nat) (hd : a.eval d = .slice (some ⟨g, off, none⟩) dLen dCap) (hs : a.eval s = .slice (some ad) sLen sCap)
    (cur : List Value) (t : TypeId) (hg : w.heap[g]? = some (.cells cur.toArray t (0, 0))) (cs : List Value) (k : Nat) (hk : Nat.min sLen dLen = k) (hn : cs.length = k * sz)
    (hsrc : ∀ j v, cs[j]? = some v → w.cell? (ad.add j) = some v) (hfit : off + cs.length ≤ cur.length) (h1 : ∀ v ∈ cs, v.oneCell' = true)
    (h : wpList P ops Q rest (a.put o.dst (goInt k)) (w.setRow g (splice cur off cs).toArray)) : wpList P ops Q (o :: rest) a w := by
  refine wpList_plain hgd fun K hK => ?_
  have hrun := run_copy_sz (P := P) w dT sT o.type elem sz g off dLen dCap ad sLen sCap cur.toArray t cs hu hsz hg k hk hn hsrc (by simpa using hfit) h1
  unfold Oper.wp
  simp [execOp, ho, resolve, invoke, builtin, hd, hs, hrun, Result.andThen]
  exact hK _ _ (by simpa [splice] using h)
theorem step_copy_sz {P : Program} {ops : Array Oper} {o : Oper} {a : Act} {w : World} {K : Act → World → Prop} {Q : Exit → Act → World → Prop} {E : Prop} (hgd : o.guard = none) (d s : Operand) (dT sT : TypeId)
    (ho : o.op = .call { callee := .builtin .copy, args := #[d, s], argTypes := #[dT, sT] }) (elem : TypeId) (sz : Nat) (hu : P.underlying dT = some (.slice elem)) (hsz : (P.info? elem).map (·.size) = some sz)
    (g off dLen dCap : Nat) (ad : Addr) (sLen sCap : Nat) (hd : a.eval d = .slice (some ⟨g, off, none⟩) dLen dCap) (hs : a.eval s = .slice (some ad) sLen sCap)
    (cur : List Value) (t : TypeId) (hg : w.heap[g]? = some (.cells cur.toArray t (0, 0))) (cs : List Value) (k : Nat) (hk : Nat.min sLen dLen = k) (hn : cs.length = k * sz)
    (hsrc : ∀ j v, cs[j]? = some v → w.cell? (ad.add j) = some v) (hfit : off + cs.length ≤ cur.length) (h1 : ∀ v ∈ cs, v.oneCell' = true)
    (h : K (a.put o.dst (goInt k)) (w.setRow g (splice cur off cs).toArray)) : if Region.wanted o (yielded ops a.tmps) = true then Oper.wp P o a w K Q else E := by
  have hw : Region.wanted o (yielded ops a.tmps) = true := by simp [Region.wanted, hgd]
  rw [if_pos hw]
  have hrun := run_copy_sz (P := P) w dT sT o.type elem sz g off dLen dCap ad sLen sCap cur.toArray t cs hu hsz hg k hk hn hsrc (by simpa using hfit) h1
  unfold Oper.wp
  simp [execOp, ho, resolve, invoke, builtin, hd, hs, hrun, Result.andThen]
  have h' : K (a.put o.dst (goInt k)) (w.setRow g (cur.take off ++ (cs ++ cur.drop (off + cs.length))).toArray) := h
  exact h'
/-- A row of the call's own, its cells written out. -/
theorem own_open {w : World} {base : Nat} {e : TypeId} {sz : Nat} {A : Option Addr} {n c : Nat} {xs : List Value} (h : w.ownsRow base e sz (.slice A n c) n xs) (hn : 0 < n ∨ 0 < c) :
    ∃ g cur, A = some ⟨g, 0, none⟩ ∧ base ≤ g ∧ w.heap[g]? = some (.cells (cur : List Value).toArray e (0, 0)) ∧ n ≤ c ∧ c ≤ maxLen ∧ cur.length = c * sz ∧ cur.take (n * sz) = xs := by
  rcases h.2 with ⟨e, _⟩ | ⟨g, cap, cur, e, h1, h2, h3, h4, h5, h6⟩
  · injection e with e1 e2 e3
    omega
  · injection e with e1 _ e3
    subst e3
    exact ⟨g, cur.toList, e1, h1, by simpa using h2, h3, h4, by simpa using h5, h6⟩
theorem own_shut {w : World} {base g : Nat} {e : TypeId} {sz : Nat} {n c : Nat} {cur xs : List Value} (hb : base ≤ g) (hg : w.heap[g]? = some (.cells cur.toArray e (0, 0))) (hn : n ≤ c) (hc : c ≤ maxLen) (hl : cur.length = c * sz) (hx : cur.take (n * sz) = xs) :
    w.ownsRow base e sz (.slice (some ⟨g, 0, none⟩) n c) n xs := by
  refine ⟨?_, .inr ⟨g, c, cur.toArray, rfl, hb, hg, hn, hc, by simpa using hl, by simpa using hx⟩⟩
  rw [← hx, List.length_take, hl]
  exact Nat.min_eq_left (Nat.mul_le_mul_right _ hn)
theorem grown_row {w : World} (g : Nat) (cs : Array Value) : w.grownBy (w.setRow g cs) (some g) :=
  ⟨rfl, rfl, rfl, by simp [World.setRow], fun k _ hk => setRow_other w g k cs (fun e => hk (by rw [e]))⟩
theorem grown_alloc (w : World) (o : Obj) (row : Option Nat) : w.grownBy (w.alloc o) row :=
  ⟨rfl, rfl, rfl, by simp, fun k hk _ => Below.heap_alloc w o k hk⟩
theorem grown_trans {w w1 w2 : World} {row : Option Nat} (h1 : w.grownBy w1 row) (h2 : w1.grownBy w2 row) : w.grownBy w2 row :=
  ⟨h2.os.trans h1.os, h2.tape.trans h1.tape, h2.output.trans h1.output, Nat.le_trans h1.size h2.size, fun k hk hn => (h2.block k (Nat.lt_of_lt_of_le hk h1.size) hn).trans (h1.block k hk hn)⟩
theorem splice_take {cur : List Value} {off : Nat} {cs : List Value} (h : off + cs.length ≤ cur.length) : (splice cur off cs).take (off + cs.length) = cur.take off ++ cs := by
  unfold splice
  rw [← List.append_assoc, List.take_left' (by rw [List.length_append, List.length_take]; omega)]
/-- What was shifted up by one, and one laid between. -/
theorem shift_one {cur a b x : List Value} {i n s : Nat} (hcur : cur.take (n * s) = a ++ b) (ha : a.length = i * s) (hb : b.length = (n - i) * s) (hx : x.length = s) (hi : i ≤ n) (hl : (n + 1) * s ≤ cur.length) :
    (splice (splice cur ((i + 1) * s) b) (i * s) x).take ((n + 1) * s) = a ++ x ++ b := by
  have e1 : (i + 1) * s = i * s + s := Nat.succ_mul i s
  have e2 : (n + 1) * s = n * s + s := Nat.succ_mul n s
  have e3 : (n - i) * s + i * s = n * s := by rw [← Nat.add_mul, Nat.sub_add_cancel hi]
  have h1 : (i + 1) * s + b.length = (n + 1) * s := by omega
  have ht : cur.take (i * s) = a := by
    have h := congrArg (List.take (i * s)) hcur
    rwa [List.take_take, Nat.min_eq_left (by omega), List.take_left' ha] at h
  have hs1 := splice_take (cur := cur) (off := (i + 1) * s) (cs := b) (by omega)
  rw [h1] at hs1
  have hlen : (splice cur ((i + 1) * s) b).length = cur.length := length_splice _ _ _ (by omega)
  unfold splice at hs1 hlen ⊢
  generalize cur.take ((i + 1) * s) ++ (b ++ cur.drop ((i + 1) * s + b.length)) = c1 at hs1 hlen
  have hc1 : c1.take (i * s) = a := by
    have h := congrArg (List.take (i * s)) hs1
    rw [List.take_take, Nat.min_eq_left (by omega), List.take_append_of_le_length (by rw [List.length_take]; omega), List.take_take, Nat.min_eq_left (by omega), ht] at h
    exact h
  have hd1 : (c1.drop (i * s + s)).take (b.length) = b := by
    have h := congrArg (List.drop (i * s + s)) hs1
    rw [List.drop_take, List.drop_left' (by rw [List.length_take]; omega)] at h
    rw [show (n + 1) * s - (i * s + s) = b.length by omega] at h
    exact h
  rw [hc1, hx]
  have : a ++ (x ++ c1.drop (i * s + s)) = (a ++ x) ++ c1.drop (i * s + s) := by rw [List.append_assoc]
  rw [this, List.take_append, List.take_of_length_le (by rw [List.length_append]; omega)]
  congr 1
  rw [show (n + 1) * s - (a ++ x).length = b.length by rw [List.length_append]; omega]
  exact hd1
/-- What stood ahead, one, what stood behind. -/
theorem grow_one {cur a b x : List Value} {i n s : Nat} (hcur : cur.take (i * s) = a) (hb : b.length = (n - i) * s) (hx : x.length = s) (hi : i ≤ n) (hl : (n + 1) * s ≤ cur.length) :
    (splice (splice cur (i * s) x) ((i + 1) * s) b).take ((n + 1) * s) = a ++ x ++ b := by
  have e1 : (i + 1) * s = i * s + s := Nat.succ_mul i s
  have e2 : (n + 1) * s = n * s + s := Nat.succ_mul n s
  have e3 : (n - i) * s + i * s = n * s := by rw [← Nat.add_mul, Nat.sub_add_cancel hi]
  have h1 := splice_take (cur := cur) (off := i * s) (cs := x) (by omega)
  rw [hcur, hx] at h1
  have hlen : (splice cur (i * s) x).length = cur.length := length_splice _ _ _ (by omega)
  have h2 := splice_take (cur := splice cur (i * s) x) (off := (i + 1) * s) (cs := b) (by omega)
  rw [show (i + 1) * s + b.length = (n + 1) * s by omega] at h2
  rw [h2, e1, h1]
end Go.Proofs.YtiigggbghgfdoaaDoor
