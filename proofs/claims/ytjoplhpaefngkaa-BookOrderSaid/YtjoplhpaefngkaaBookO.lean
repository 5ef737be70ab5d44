/- What comes in: slices of lines, slices of those. Conditions: named in each theorem. -/
import Derived.Test.YtjoplhpaefngkaaBookT
import Derived.Deep.Slices
namespace Go.Proofs.Ytjoplhpaefngkaa
open Go.RowKit Go.ChangeShapes Go.WideShapes Go.ChangeAt

theorem trod_line {H : Type} {enc : TypeId × Value → H} {W : World} {base n : Nat} {spare : Nat → Bool} {held : Bool} {c0 c1 : Value} {y : DataW H × List MemPlace}
    (hf : DataW.trod enc Try.prog W base spare held n 33 [c0, c1] = some y) : ∃ (s : ByteArray) (a : Int), c0 = .string s ∧ c1 = .int .i64 a := by
  have hCs : Try.prog.cellsOf 9 = 1 := by kernel_rfl
  have hC1 : Try.prog.cellsOf 3 = 1 := by kernel_rfl
  obtain ⟨xs, m, _, _, _, hlen, hf⟩ := DataW.trod_struct Try.underlying33 hf
  match xs, hlen with
  | [y0, y1], _ =>
    have h0 := hf 0 _ rfl
    have h1 := hf 1 _ rfl
    simp [hCs, hC1] at h0 h1
    obtain ⟨s, e0, _⟩ := DataW.trod_string Try.underlying9 h0
    obtain ⟨a, e1, _, _⟩ := DataW.trod_int Try.underlying3 h1
    simp at e0 e1
    exact ⟨s, a, e0, e1⟩

/-- A slice of lines that came in. -/
theorem open_lines {H : Type} {enc : TypeId × Value → H} {W : World} {spare : Nat → Bool} {held : Bool} {fuel : Nat} {cs : List Value} {x : DataW H × List MemPlace}
    (h : DataW.trod enc Try.prog W 0 spare held fuel 23 cs = some x) : ∃ A n c ls, cs = [.slice A n c] ∧ LSl W W.heap.size A n ls := by
  have hC2 : Try.prog.cellsOf 33 = 2 := by kernel_rfl
  rcases Go.Deep.open_slice Try.underlying23 h with ⟨rfl, _⟩ | ⟨a, len, cap, m, n, D, Pl, rfl, _, hl, _, hm, _, hx⟩
  · exact ⟨none, 0, 0, [], rfl, Sl.nil_⟩
  · rw [hC2] at hx
    have hlm : len ≤ m := by rw [hm]; split <;> omega
    have hp : ∀ i, i < len → ∃ p : Ln, W.cell? (a.add (i * 2)) = some (strV p.1) ∧ W.cell? ((a.add (i * 2)).add 1) = some (.int .i64 p.2) := by
      intro i hi
      obtain ⟨cs', h1, h2⟩ := hx i (by omega)
      obtain ⟨_, hlen, hc⟩ := World.cells?_some h1
      match cs', hlen with
      | [u, v], _ =>
        obtain ⟨s, q, rfl, rfl⟩ := trod_line h2
        have c0 := hc 0 (by decide)
        have c1 := hc 1 (by decide)
        simp [Addr.add] at c0
        refine ⟨(s.data.toList, q), ?_, ?_⟩
        · rw [show strV s.data.toList = .string s by simp [strV]]
          simpa [Addr.add] using c0
        · simpa using c1
    obtain ⟨X, hX⟩ := Go.Deep.choose_lt hp
    obtain ⟨b, off, spot⟩ := a
    have hsp : 0 < len → spot = none := fun h0 => by simpa [Addr.add] using World.cell?_spot (hX 0 h0).1
    refine ⟨some ⟨b, off, spot⟩, len, cap, (List.range len).map X, rfl, ⟨by rw [flatL_len]; simp, fun hn => ?_⟩⟩
    have hs := hsp hn
    subst hs
    refine ⟨b, off, rfl, ?_, ?_⟩
    · have := World.block_lt_of_cell? W _ (hX 0 hn).1
      simpa [Addr.add] using this
    · intro j u hu
      have hj : j < len * 2 := by
        have := (List.getElem?_eq_some_iff.1 hu).1
        rw [flatL_len] at this
        simpa using this
      have hk : j / 2 < len := by omega
      have hg := flatL_get ((List.range len).map X) (k := j / 2) (by simpa using hk)
      have he : ((List.range len).map X).getD (j / 2) ([], 0) = X (j / 2) := by simp [List.getD, hk]
      rw [he] at hg
      have hX' := hX (j / 2) hk
      rw [add_plain, add_plain] at hX'
      rcases Nat.mod_two_eq_zero_or_one j with hz | hz
      · have ej : j = 2 * (j / 2) := by omega
        have e := hg.1
        rw [← ej] at e
        rw [e] at hu
        injection hu with hu
        subst hu
        have := hX'.1
        rw [show off + j / 2 * 2 = off + j by omega] at this
        exact this
      · have ej : j = 2 * (j / 2) + 1 := by omega
        have e := hg.2
        rw [← ej] at e
        rw [e] at hu
        injection hu with hu
        subst hu
        have := hX'.2
        rw [show off + j / 2 * 2 + 1 = off + j by omega] at this
        exact this

/-- A slice of slices of lines that came in. -/
theorem open_lists {H : Type} {enc : TypeId × Value → H} {W : World} {spare : Nat → Bool} {held : Bool} {fuel : Nat} {cs : List Value} {x : DataW H × List MemPlace}
    (h : DataW.trod enc Try.prog W 0 spare held fuel 22 cs = some x) : ∃ A n c, cs = [.slice A n c] ∧ ESl W W.heap.size A n := by
  have hC1 : Try.prog.cellsOf 23 = 1 := by kernel_rfl
  rcases Go.Deep.open_slice1 Try.underlying22 hC1 h with ⟨rfl, _⟩ | ⟨a, len, cap, m, n, V, D, Pl, rfl, _, hl, _, hm, _, hx⟩
  · exact ⟨none, 0, 0, rfl, fun k hk => absurd hk (Nat.not_lt_zero k)⟩
  · have hlm : len ≤ m := by rw [hm]; split <;> omega
    refine ⟨some a, len, cap, rfl, fun k hk => ?_⟩
    obtain ⟨hc, ht⟩ := hx k (by omega)
    obtain ⟨Ai, ni, ci, li, e, hli⟩ := open_lines ht
    simp only [List.cons.injEq, and_true] at e
    rw [e] at hc
    obtain ⟨b, off, spot⟩ := a
    have h0 := (hx 0 (by omega)).1
    have hs : spot = none := by simpa [Addr.add] using World.cell?_spot h0
    subst hs
    rw [add_plain] at hc
    refine ⟨b, off, Ai, ni, ci, li, rfl, ?_, hc, hli⟩
    exact World.block_lt_of_cell? W _ hc

end Go.Proofs.Ytjoplhpaefngkaa
