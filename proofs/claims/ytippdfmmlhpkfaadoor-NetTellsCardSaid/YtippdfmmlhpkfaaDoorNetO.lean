/- What comes in: a slice of debts. Conditions: named in each theorem. -/
import Derived.Test.YtippdfmmlhpkfaaDoorNetN
import Derived.Test.YtippdfmmlhpkfaaDoorOpen
namespace Go.Proofs.YtippdfmmlhpkfaaDoor
open Go.RowKit Go.ChangeShapes Go.WideShapes Go.ChangeAt

theorem in64_of_wf {x : Int} (h : (Lit.int .i64 x).wf = true) : In64 x := by
  unfold In64
  have e1 : IntKind.i64.min = -9223372036854775808 := by decide
  have e2 : IntKind.i64.max = 9223372036854775807 := by decide
  simp [Lit.wf, e1, e2] at h
  omega
set_option maxRecDepth 100000 in
theorem trod_debt {H : Type} {en : TypeId × Value → H} {W : World} {spare : Nat → Bool} {held : Bool} (n : Nat) (cs : List Value) (y : DataW H × List MemPlace) (hl : cs.length = 3)
    (hf : DataW.trod en Tryd.prog W 0 spare held n 41 cs = some y) : ∃ d : Db, cs = dbV d ∧ DbIn d := by
  have hC1 : Tryd.prog.cellsOf 3 = 1 := by kernel_rfl
  obtain ⟨xs, m, _, _, _, hlen, hf⟩ := DataW.trod_struct Tryd.underlying41 hf
  match cs, hl with
  | [c0, c1, c2], _ =>
    match xs, hlen with
    | [y0, y1, y2], _ =>
      have h0 := hf 0 _ rfl
      have h1 := hf 1 _ rfl
      have h2 := hf 2 _ rfl
      simp [hC1] at h0 h1 h2
      obtain ⟨a0, e0, _, w0⟩ := DataW.trod_int Tryd.underlying3 h0
      obtain ⟨a1, e1, _, w1⟩ := DataW.trod_int Tryd.underlying3 h1
      obtain ⟨a2, e2, _, _⟩ := DataW.trod_int Tryd.underlying3 h2
      simp at e0 e1 e2
      subst e0 e1 e2
      exact ⟨(a0, a1, a2), rfl, in64_of_wf w0, in64_of_wf w1⟩
theorem open_debts {H : Type} {en : TypeId × Value → H} {W : World} {spare : Nat → Bool} {held : Bool} {fuel : Nat} {cs : List Value} {x : DataW H × List MemPlace}
    (h : DataW.trod en Tryd.prog W 0 spare held fuel 22 cs = some x) : ∃ A n c ds, cs = [.slice A n c] ∧ DSl W W.heap.size A n ds ∧ (∀ d ∈ ds, DbIn d) ∧ ((x.1 = .nil ∧ n = 0) ∨ ∃ el sp, x.1 = .slice el sp ∧ el.length = n) :=
  open_recs Tryd.underlying22 (by kernel_rfl) (by decide) dbV_len (0, 0, 0) trod_debt h
set_option maxRecDepth 100000 in
theorem trod_pile {H : Type} {en : TypeId × Value → H} {W : World} {spare : Nat → Bool} {held : Bool} (n : Nat) (cs : List Value) (y : DataW H × List MemPlace) (hl : cs.length = 2)
    (hf : DataW.trod en Tryd.prog W 0 spare held n 44 cs = some y) : ∃ d : Ln, cs = plV d ∧ In64 d.1 := by
  have hC1 : Tryd.prog.cellsOf 3 = 1 := by kernel_rfl
  obtain ⟨xs, m, _, _, _, hlen, hf⟩ := DataW.trod_struct Tryd.underlying44 hf
  match cs, hl with
  | [c0, c1], _ =>
    match xs, hlen with
    | [y0, y1], _ =>
      have h0 := hf 0 _ rfl
      have h1 := hf 1 _ rfl
      simp [hC1] at h0 h1
      obtain ⟨a0, e0, _, w0⟩ := DataW.trod_int Tryd.underlying3 h0
      obtain ⟨a1, e1, _, _⟩ := DataW.trod_int Tryd.underlying3 h1
      simp at e0 e1
      subst e0 e1
      exact ⟨(a0, a1), rfl, in64_of_wf w0⟩
theorem open_piles {H : Type} {en : TypeId × Value → H} {W : World} {spare : Nat → Bool} {held : Bool} {fuel : Nat} {cs : List Value} {x : DataW H × List MemPlace}
    (h : DataW.trod en Tryd.prog W 0 spare held fuel 23 cs = some x) : ∃ A n c ps, cs = [.slice A n c] ∧ PSl W W.heap.size A n ps ∧ (∀ d ∈ ps, In64 d.1) ∧ ((x.1 = .nil ∧ n = 0) ∨ ∃ el sp, x.1 = .slice el sp ∧ el.length = n) :=
  open_recs Tryd.underlying23 (by kernel_rfl) (by decide) plV_len (0, 0) trod_pile h
end Go.Proofs.YtippdfmmlhpkfaaDoor
