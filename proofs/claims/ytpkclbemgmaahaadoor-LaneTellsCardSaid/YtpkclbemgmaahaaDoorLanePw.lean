/- Words for lane.Pay: what it asks for and what it leaves; append of a pair. Conditions: named in each theorem. -/
import Derived.Test.YtpkclbemgmaahaaDoorLaneN
import Derived.Deep.RegionHeld3
import Derived.Deep.AppendLies
import Derived.Deep.RegionLaw
import Derived.Deep.RegionWith
namespace Go.Proofs.YtpkclbemgmaahaaDoor
open Go.RowKit Go.ChangeShapes Go.WideShapes Go.ChangeAt

def lastP (n : Nat) (ps : List (Int × Int)) : Int × Int := ps.getD (n - 1) (0, 0)
def payQ (n : Nat) (ps : List (Int × Int)) (cl tu wh : Int) (ch : Bool) (fr m : Int) : Int :=
  if checkQ n ps cl tu wh ch ≠ 0 then checkQ n ps cl tu wh ch
  else if fr ≠ 0 ∧ fr ≠ 1 then 2
  else if cl ≠ 0 then 11
  else if ¬ MoneyIn m then 2
  else if (if fr = 0 then (lastP n ps).1 else (lastP n ps).2) < m then 9
  else if n = 50 then 4 else 0
/-- The pair behind a payment. -/
def paid (fr m : Int) (p : Int × Int) : Int × Int := if fr = 0 then (p.1 - m, p.2 + m) else (p.1 + m, p.2 - m)
def payD (n : Nat) (ps : List (Int × Int)) (fr m : Int) : List (Int × Int) := ps ++ [paid fr m (lastP n ps)]

theorem turnsFrom_ok {s : Int} : ∀ {ps : List (Int × Int)}, turnsFrom s ps = 0 → ∀ p ∈ ps, MoneyIn p.1 ∧ MoneyIn p.2 ∧ p.1 + p.2 = s
  | [], _ => by simp
  | p :: r, h => by
    unfold turnsFrom at h
    split at h
    · split at h
      · split at h
        · rename_i h1 h2 h3
          intro q hq
          rcases List.mem_cons.1 hq with rfl | hq
          · exact ⟨h1, h2, h3⟩
          · exact turnsFrom_ok h q hq
        · exact absurd h (by decide)
      · exact absurd h (by decide)
    · exact absurd h (by decide)
theorem turnsQ_ok {n : Nat} {ps : List (Int × Int)} (h : turnsQ n ps = 0) : 1 ≤ n ∧ n ≤ 50 ∧ ∀ p ∈ ps, MoneyIn p.1 ∧ MoneyIn p.2 ∧ p.1 + p.2 = (ps.getD 0 (0, 0)).1 + (ps.getD 0 (0, 0)).2 := by
  unfold turnsQ at h
  split at h
  · exact absurd h (by decide)
  · exact ⟨by omega, by omega, turnsFrom_ok h⟩
theorem checkQ_ok {n : Nat} {ps : List (Int × Int)} {cl tu wh : Int} {ch : Bool} (h : checkQ n ps cl tu wh ch = 0) : turnsQ n ps = 0 ∧ 0 ≤ cl ∧ cl ≤ 2 ∧ 0 ≤ tu ∧ tu ≤ (n : Int) - 1 ∧ 0 ≤ wh ∧ wh ≤ 1073741824 ∧
    (cl = 0 → tu = 0 ∧ wh = 0 ∧ ch = false) ∧ (ch = true → tu ≠ (n : Int) - 1) := by
  unfold checkQ at h
  split at h
  · exact absurd h (by assumption)
  · rename_i h0
    have h0 : turnsQ n ps = 0 := by simpa using h0
    split at h
    · exact absurd h (by decide)
    · split at h
      · exact absurd h (by decide)
      · rename_i h1 h2
        refine ⟨h0, by omega, by omega, by omega, by omega, by omega, by omega, fun hc => ?_, fun hc ht => h2 (.inr ⟨hc, ht⟩)⟩
        refine ⟨?_, ?_, ?_⟩
        · exact Decidable.byContradiction fun hh => h2 (.inl ⟨hc, .inl hh⟩)
        · exact Decidable.byContradiction fun hh => h2 (.inl ⟨hc, .inr (.inl hh)⟩)
        · cases ch
          · rfl
          · exact absurd (.inl ⟨hc, .inr (.inr rfl)⟩) h2
theorem lastP_mem {n : Nat} {ps : List (Int × Int)} (hl : ps.length = n) (h : 1 ≤ n) : lastP n ps ∈ ps := by
  unfold lastP
  rw [List.getD_eq_getElem?_getD, List.getElem?_eq_getElem (by omega), Option.getD_some]
  exact List.getElem_mem _

/-- 'append(row, {x, y})' at a step of a region that draws: onto a row of the call's own. -/
theorem step_push {w : World} {ops : Array Oper} {o : Oper} {a : Act} {K : Act → World → Prop} {Q : Exit → Act → World → Prop} {E : Prop} (hgd : o.guard = none) (s x : Operand)
    (ho : o.op = .call { callee := .builtin .append, args := #[s, x], argTypes := #[22, 22] })
    {base n n' : Nat} {A : Option Addr} {c g : Nat} {ps : List (Int × Int)} {p q : Int} (hs : a.eval s = .slice A n c) (hx : a.eval x = .slice (some ⟨g, 0, none⟩) 1 1)
    (hown : w.ownsRow base 30 2 (.slice A n c) n (flat ps)) (c0 : w.cell? ⟨g, 0, none⟩ = some (.int .i64 p)) (c1 : w.cell? ⟨g, 1, none⟩ = some (.int .i64 q)) (hn : n ≤ 100) (hbase : base ≤ w.heap.size) (hn' : n + 1 = n')
    (h : ∀ A' cap w', PSl w' w'.heap.size A' n' (ps ++ [(p, q)]) → Far base A' → Below base w w' → w.heap.size ≤ w'.heap.size → K (a.put o.dst (.slice A' n' cap)) w') :
    if Region.wanted o (yielded ops a.tmps) = true then Oper.wp Tryd.prog o a w K Q else E := by
  subst hn'
  obtain ⟨i0, hI, hIz, hIs, hIb⟩ := info_parts pairInfo
  have hl := hown.1
  refine step_append_lies w hgd s x 22 ho base 30 i0 (.agg #[.int .i64 0, .int .i64 0]) 2 16 Tryd.underlying22 hI hIz hIs hIb rfl (by decide) _ n (flat ps) hs hown ⟨g, 0, none⟩ 1 1 [.int .i64 p, .int .i64 q] hx rfl ?_ ?_ (by decide) (by unfold maxLen; omega) (by omega) hbase _ rfl ?_
  · intro j u hj
    rw [add_plain, Nat.zero_add]
    match j with
    | 0 => simp at hj; subst hj; exact c0
    | 1 => simp at hj; subst hj; exact c1
    | j + 2 => simp at hj
  · intro u hu
    simp at hu
    rcases hu with rfl | rfl <;> rfl
  · intro g' cap w' hown' hgrow hat hlt
    have hz := hgrow.size
    refine h _ cap w' ?_ ?_ ((Below.refl _ _).grown hgrow hbase (fun k hk => own_block_ge hown k hk)) hz
    · have e : flat (ps ++ [(p, q)]) = flat ps ++ [.int .i64 p, .int .i64 q] := by simp [flat]
      unfold PSl
      rw [e]
      exact Sl.own hown'
    · intro b o hb
      injection hb with hb
      injection hb with h1 h2
      subst h1
      rcases hat with hat | rfl
      · exact own_block_ge hown _ hat
      · exact hbase

/-- Two cells of one block. -/
theorem keptD {W : World} {b c : Nat} {v y : Value} (h : W.cell? ⟨b, 0, none⟩ = some v ∧ W.cell? ⟨b, c, none⟩ = some y) :
    W.drew.cell? ⟨b, 0, none⟩ = some v ∧ W.drew.cell? ⟨b, c, none⟩ = some y := h
theorem kept_allocE {W : World} {o : Obj} {b c : Nat} {v y : Value} (l1 : b < W.heap.size) (h : W.cell? ⟨b, 0, none⟩ = some v ∧ W.cell? ⟨b, c, none⟩ = some y) :
    (W.alloc o).cell? ⟨b, 0, none⟩ = some v ∧ (W.alloc o).cell? ⟨b, c, none⟩ = some y :=
  ⟨(World.cell?_alloc_lt _ _ ⟨b, 0, none⟩ l1).trans h.1, (World.cell?_alloc_lt _ _ ⟨b, c, none⟩ l1).trans h.2⟩
theorem kept_allocD {W : World} {c : Obj} {b e : Nat} {v y : Value} (l1 : b < W.heap.size) (h : W.cell? ⟨b, 0, none⟩ = some v ∧ W.cell? ⟨b, e, none⟩ = some y) :
    (W.alloc c).drew.cell? ⟨b, 0, none⟩ = some v ∧ (W.alloc c).drew.cell? ⟨b, e, none⟩ = some y := kept_allocE l1 h
theorem keptB {W w2 : World} {b e : Nat} {v y : Value} (hb : Below W.heap.size W w2) (l1 : b < W.heap.size) (h : W.cell? ⟨b, 0, none⟩ = some v ∧ W.cell? ⟨b, e, none⟩ = some y) :
    (w2.cell? ⟨b, 0, none⟩ = some v ∧ w2.cell? ⟨b, e, none⟩ = some y) ∧ b < w2.heap.size := by
  have := hb.size
  exact ⟨⟨(hb.cell (p := ⟨b, 0, none⟩) l1).trans h.1, (hb.cell (p := ⟨b, e, none⟩) l1).trans h.2⟩, by omega⟩
theorem kept_setE {W : World} {a b c : Nat} {u v y : Value} (l : a < b) (h : W.cell? ⟨b, 0, none⟩ = some v ∧ W.cell? ⟨b, c, none⟩ = some y) :
    (W.setCell ⟨a, 0, none⟩ u).cell? ⟨b, 0, none⟩ = some v ∧ (W.setCell ⟨a, 0, none⟩ u).cell? ⟨b, c, none⟩ = some y :=
  ⟨(World.cell?_setCell_far _ _ _ _ (Nat.ne_of_lt l)).trans h.1, (World.cell?_setCell_far _ _ _ _ (Nat.ne_of_lt l)).trans h.2⟩
theorem below_drew2 {wr w2 : World} (h : Below wr.drew.heap.size wr.drew w2) : Below wr.heap.size wr w2 := ⟨h.os, h.tape, h.output, h.size, h.block⟩
theorem below_drew_alloc2 {wr w2 : World} {c : Obj} (h : Below (wr.alloc c).drew.heap.size (wr.alloc c).drew w2) : Below wr.heap.size wr w2 :=
  ((Below.refl _ _).alloc (Nat.le_refl _) _).trans ((below_drew2 h).mono (by simp))
theorem new_cells2 {wr w2 : World} {t : TypeId} {a0 a1 : Value} (h : Below (wr.alloc (.cells #[a0, a1] t)).drew.heap.size (wr.alloc (.cells #[a0, a1] t)).drew w2) :
    w2.cell? ⟨wr.heap.size, 0, none⟩ = some a0 ∧ w2.cell? ⟨wr.heap.size, 1, none⟩ = some a1 := by
  constructor
  · rw [h.cell (by simp [World.drew])]; exact World.cell?_alloc_at _ _ _ _ rfl
  · rw [h.cell (by simp [World.drew])]; exact World.cell?_alloc_at _ _ _ _ rfl

theorem drew_le (W : World) : W.heap.size ≤ W.drew.heap.size := Nat.le_refl _
theorem drew_alloc_le (W : World) (c : Obj) : W.heap.size ≤ (W.alloc c).drew.heap.size := by
  show W.heap.size ≤ (W.alloc c).heap.size
  simp
theorem own_low {w : World} {b b' : Nat} {e : TypeId} {sz : Nat} {v : Value} {n : Nat} {xs : List Value} (h : w.ownsRow b e sz v n xs) (hb : b' ≤ b) : w.ownsRow b' e sz v n xs := by
  refine ⟨h.1, h.2.imp id ?_⟩
  rintro ⟨g, cap, cur, h1, h2, h3⟩
  exact ⟨g, cap, cur, h1, Nat.le_trans hb h2, h3⟩

def PostPay (n : Nat) (ps : List (Int × Int)) (cl tu wh : Int) (ch : Bool) (fr m : Int) (w : World) (e : Ending) (w' : World) : Prop := Below w.heap.size w w' ∧
  ((payQ n ps cl tu wh ch fr m = 0 ∧ ∃ A' c', e = .returned (.tuple #[chV A' (n + 1) c' cl tu wh ch, .nilIface]) ∧ PSl w' w'.heap.size A' (n + 1) (payD n ps fr m) ∧ Far w.heap.size A') ∨
   (payQ n ps cl tu wh ch fr m ≠ 0 ∧ e = .returned (.tuple #[chV none 0 0 0 0 0 false, errV (payQ n ps cl tu wh ch fr m)])))

set_option maxRecDepth 100000 in
theorem mcheck_ok (m : Int) (hm : MoneyIn m) (w : World) : Calls Tryd.prog 25 #[.int .i64 m] w (fun e w' => e = .returned .nilIface ∧ w' = w) := by
  obtain ⟨h0, h1⟩ := hm
  go_enter Tryd.func25, Tryd.ntmps25
  go_wp2
  go_ret
  exact ⟨rfl, rfl⟩
set_option maxRecDepth 100000 in
theorem mcheck_bad (m : Int) (hm : ¬ MoneyIn m) (w : World) : Calls Tryd.prog 25 #[.int .i64 m] w (fun e w' => e = .returned (.iface 26 (.int .i64 2)) ∧ w' = w) := by
  have hway : m < 0 ∨ (0 ≤ m ∧ 1125899906842624 < m) := by unfold MoneyIn at hm; omega
  clear hm
  rcases hway with h | ⟨h, h'⟩
  all_goals go_enter Tryd.func25, Tryd.ntmps25
  all_goals go_wp2
  all_goals go_ret
  all_goals exact ⟨rfl, rfl⟩

theorem Far.mono {N M : Nat} {A : Option Addr} (h : Far N A) (hm : M ≤ N) : Far M A := fun b o e => Nat.le_trans hm (h b o e)
theorem PSl.setC {w : World} {B n N : Nat} {A : Option Addr} {ps : List (Int × Int)} (h : PSl w B A n ps) (hf : Far N A) {p : Addr} (hp : p.block < N) (u : Value) : PSl (w.setCell p u) B A n ps :=
  ⟨Sl.len h, fun hn => by
    obtain ⟨b, off, e, hb, hc⟩ := Sl.cells h hn
    refine ⟨b, off, e, hb, fun j v hj => ?_⟩
    have hN := hf b off e
    rw [World.cell?_setCell_far _ _ _ _ (by simp; omega)]
    exact hc j v hj⟩
theorem pay_done {w w3 : World} {A : Option Addr} {n c : Nat} {ps : List (Int × Int)} {a0 a1 a2 a3 a4 a5 : Value} {cl tu wh : Int} {ch : Bool} (hB : Below w.heap.size w w3) (hp : PSl w3 w3.heap.size A n ps) (hf : Far (w.heap.size + 2) A) :
    Below w.heap.size w ((((((w3.setCell ⟨w.heap.size, 0, none⟩ a0).setCell ⟨w.heap.size + 1, 0, none⟩ a1).setCell ⟨w.heap.size + 1, 1, none⟩ a2).setCell ⟨w.heap.size + 1, 2, none⟩ a3).setCell ⟨w.heap.size + 1, 3, none⟩ a4).setCell ⟨w.heap.size + 1, 4, none⟩ a5) ∧
      ∃ A' c', Ending.returned (.tuple #[chV A n c cl tu wh ch, .nilIface]) = Ending.returned (.tuple #[chV A' n c' cl tu wh ch, .nilIface]) ∧
        PSl ((((((w3.setCell ⟨w.heap.size, 0, none⟩ a0).setCell ⟨w.heap.size + 1, 0, none⟩ a1).setCell ⟨w.heap.size + 1, 1, none⟩ a2).setCell ⟨w.heap.size + 1, 2, none⟩ a3).setCell ⟨w.heap.size + 1, 3, none⟩ a4).setCell ⟨w.heap.size + 1, 4, none⟩ a5)
          ((((((w3.setCell ⟨w.heap.size, 0, none⟩ a0).setCell ⟨w.heap.size + 1, 0, none⟩ a1).setCell ⟨w.heap.size + 1, 1, none⟩ a2).setCell ⟨w.heap.size + 1, 2, none⟩ a3).setCell ⟨w.heap.size + 1, 3, none⟩ a4).setCell ⟨w.heap.size + 1, 4, none⟩ a5).heap.size A' n ps ∧ Far w.heap.size A' := by
  refine ⟨?_, A, c, rfl, ?_, hf.mono (by omega)⟩
  · iterate 6 refine Below.setCell ?_ (by first | exact Nat.le_refl _ | exact Nat.le_succ _) _
    exact hB
  · have e : ∀ (u : World) (p : Addr) (v : Value), (u.setCell p v).heap.size = u.heap.size := by intro u p v; simp [World.setCell]
    simp only [e]
    iterate 6 refine PSl.setC ?_ hf (by simp) _
    exact hp

end Go.Proofs.YtpkclbemgmaahaaDoor
