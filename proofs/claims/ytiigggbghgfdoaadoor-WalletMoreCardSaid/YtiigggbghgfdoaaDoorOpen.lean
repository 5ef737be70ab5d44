/- A slice of structs that comes in reads as a list. Conditions: named in each theorem. -/
import Derived.Test.YtiigggbghgfdoaaDoorRec
import Derived.Deep.Slices
namespace Go.Proofs.YtiigggbghgfdoaaDoor
open Go.RowKit Go.ChangeShapes Go.WideShapes Go.ChangeAt

theorem open_recs {H : Type} {en : TypeId × Value → H} {P : Program} {W : World} {spare : Nat → Bool} {held : Bool} {α : Type} {enc : α → List Value} {sz : Nat} {Q : α → Prop} {T E : TypeId} (hu : P.underlying T = some (.slice E)) (hC : P.cellsOf E = sz) (hs : 0 < sz) (hlen : ∀ a, (enc a).length = sz) (d : α)
    (helem : ∀ (n : Nat) (cs : List Value) (y : DataW H × List MemPlace), cs.length = sz → DataW.trod en P W 0 spare held n E cs = some y → ∃ a, cs = enc a ∧ Q a)
    {fuel : Nat} {cs : List Value} {x : DataW H × List MemPlace} (h : DataW.trod en P W 0 spare held fuel T cs = some x) : ∃ A n c xs, cs = [.slice A n c] ∧ FSl enc sz W W.heap.size A n xs ∧ (∀ a ∈ xs, Q a) ∧ ((x.1 = .nil ∧ n = 0) ∨ ∃ el sp, x.1 = .slice el sp ∧ el.length = n) := by
  rcases Go.Deep.open_slice hu h with ⟨rfl, rfl⟩ | ⟨a, len, cap, m, n, D, Pl, rfl, _, hl, _, hm, rfl, hx⟩
  · exact ⟨none, 0, 0, [], rfl, FSl.nil_, (fun _ h => by cases h), .inl ⟨rfl, rfl⟩⟩
  · rw [hC] at hx
    have hlm : len ≤ m := by rw [hm]; split <;> omega
    have hp : ∀ i, i < len → ∃ p : α, Q p ∧ ∀ j u, (enc p)[j]? = some u → W.cell? ((a.add (i * sz)).add j) = some u := by
      intro i hi
      obtain ⟨cs', h1, h2⟩ := hx i (by omega)
      obtain ⟨_, hl2, hc⟩ := World.cells?_some h1
      obtain ⟨p, rfl, hq⟩ := helem n cs' _ hl2 h2
      exact ⟨p, hq, fun j u hj => by
        have hj' : j < sz := by
          have := (List.getElem?_eq_some_iff.1 hj).1
          rwa [hlen] at this
        rw [hc j hj', hj]⟩
    letI : Inhabited α := ⟨d⟩
    obtain ⟨X, hX⟩ := Go.Deep.choose_lt hp
    obtain ⟨b, off, spot⟩ := a
    refine ⟨some ⟨b, off, spot⟩, len, cap, (List.range len).map X, rfl, ⟨by rw [flat_len hlen]; simp, fun hn => ?_⟩, fun p hp => ?_, .inr ⟨_, _, rfl, by simp⟩⟩
    · have hget : ∀ i j u, i < len → (enc (X i))[j]? = some u → W.cell? (((⟨b, off, spot⟩ : Addr).add (i * sz)).add j) = some u := fun i j u hi => (hX i hi).2 j u
      obtain ⟨u0, hu0⟩ : ∃ u0, (enc (X 0))[0]? = some u0 := ⟨_, List.getElem?_eq_getElem (by rw [hlen]; exact hs)⟩
      have c00 := hget 0 0 u0 hn hu0
      have hsp : spot = none := by simpa [Addr.add] using World.cell?_spot c00
      subst hsp
      refine ⟨b, off, rfl, ?_, ?_⟩
      · have := World.block_lt_of_cell? W _ c00
        simpa [Addr.add] using this
      · intro j u hu
        have hj : j < len * sz := by
          have := (List.getElem?_eq_some_iff.1 hu).1
          rw [flat_len hlen] at this
          simpa using this
        have hk : j / sz < len := (Nat.div_lt_iff_lt_mul hs).2 hj
        have hr : j % sz < sz := Nat.mod_lt _ hs
        have hdm : j / sz * sz + j % sz = j := by rw [Nat.mul_comm]; exact Nat.div_add_mod j sz
        have hg := flat_get hlen d ((List.range len).map X) (k := j / sz) (j := j % sz) (by simpa using hk) hr
        have he : ((List.range len).map X).getD (j / sz) d = X (j / sz) := by simp [List.getD, hk]
        rw [he, hdm, hu] at hg
        have := hget (j / sz) (j % sz) u hk hg.symm
        rw [add_plain, add_plain] at this
        rw [show off + j / sz * sz + j % sz = off + j by omega] at this
        exact this
    · obtain ⟨i, hi, rfl⟩ := List.mem_map.1 hp
      exact (hX i (List.mem_range.1 hi)).1
end Go.Proofs.YtiigggbghgfdoaaDoor
