/- pick.till and pick.Great. Conditions: named in each theorem. -/
import Derived.Test.YtgickjghfndaaaaDoorPickB
import Derived.Test.YtgickjghfndaaaaDoorLay
namespace Go.Proofs.YtgickjghfndaaaaDoor
open Go.RowKit Go.ChangeShapes Go.WideShapes Go.ChangeAt Go.Sort

theorem row_holds {w : World} {g : Nat} {xs : List Int} (h : RowAt w g xs) : Holds (Value.int .i64) w g 0 xs.toArray := by
  intro j hj
  have hj' : j < xs.length := by simpa using hj
  obtain ⟨h1, h2⟩ := h.cell hj'
  rw [Nat.zero_add, h1]
  refine ⟨?_, h2⟩
  rw [getElem!_pos _ j hj, nth_get hj']
  rfl
theorem upon_sorted {g : Nat} (w : World) (n : Nat) (d : Array Int) (os : Array Obj) : Upon g w (grow (putRow (Value.int .i64) (Sort.ahead w n) g 0 d) os) := by
  refine ⟨rfl, rfl, rfl, ?_, fun k hk hn => ?_⟩
  · rw [size_grow, size_putRow]
    exact Nat.le_add_right _ _
  · unfold grow putRow mapBlock
    simp only [Array.getElem?_append, Array.size_modify]
    rw [if_pos (by exact hk)]
    simp only [Array.getElem?_modify]
    rw [if_neg (fun e => hn e.symm)]
    rfl
/-- slices.Sort: the numbers, rising. -/
theorem sortZ_any (zs : List Int) (g n c : Nat) (w : World) (h : RowAt w g zs) (hlen : zs.length = n) (hn : n ≤ 1000) :
    Calls Tryd.prog 31 #[.slice (some ⟨g, 0, none⟩) n c] w (fun e w' => e = .returned (.tuple #[]) ∧ ISl w' w'.heap.size (some ⟨g, 0, none⟩) n (zs.mergeSort fun x y => decide (x ≤ y)) ∧ Upon g w w') := by
  subst hlen
  refine (AnyM.slices_Sort_int Tryd.sortI g 0 c zs w (row_holds h) h.lt (by omega)).mono ?_
  rintro e w' ⟨rfl, q, os, rfl⟩
  refine ⟨rfl, ?_, upon_sorted w q _ os⟩
  have hm : (zs.mergeSort fun x y => decide (x ≤ y)).length = zs.length := (List.mergeSort_perm zs _).length_eq
  have hH := holds_putRow (Value.int .i64) (Sort.ahead w q) g 0 zs.toArray (zs.mergeSort fun x y => decide (x ≤ y)).toArray (holds_ahead _ w q g 0 _ (row_holds h)) (by simp)
  generalize (zs.mergeSort fun x y => decide (x ≤ y)) = ss at hm hH ⊢
  refine ⟨by simpa using hm, fun _ => ⟨g, 0, rfl, ?_, fun j v hv => ?_⟩⟩
  · rw [size_grow, size_putRow]
    exact Nat.lt_of_lt_of_le h.lt (Nat.le_add_right _ _)
  · rw [List.getElem?_map] at hv
    obtain ⟨x, hx, rfl⟩ := Option.map_eq_some_iff.1 hv
    have hj := (List.getElem?_eq_some_iff.1 hx).1
    have h1 := (hH j (by simpa using hj)).1
    rw [getElem!_pos _ j (by simpa using hj)] at h1
    have h2 : ss.toArray[j]'(by simpa using hj) = x := by simpa using (List.getElem?_eq_some_iff.1 hx).2
    rw [h2] at h1
    rw [cell?_grow _ _ _ (by rw [size_putRow]; exact h.lt)]
    exact h1
theorem sortZ_none (A : Option Addr) (c : Nat) (w : World) : Calls Tryd.prog 31 #[.slice A 0 c] w (fun e w' => e = .returned (.tuple #[]) ∧ w' = w) := AnyM.slices_Sort_int_none Tryd.sortI A c w
end Go.Proofs.YtgickjghfndaaaaDoor
