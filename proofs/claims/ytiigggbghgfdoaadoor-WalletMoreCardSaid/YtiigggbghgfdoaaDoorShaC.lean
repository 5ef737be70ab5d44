/- Digests: a hasher that has taken nothing. Conditions: named in each theorem. -/
import Derived.Test.YtiigggbghgfdoaaDoorShaB
namespace Go.Proofs.YtiigggbghgfdoaaDoor
open Go.RowKit Go.ChangeShapes Go.WideShapes Go.ChangeAt

def startL : List Nat := [1779033703, 3144134277, 1013904242, 2773480762, 1359893119, 2600822924, 528734635, 1541459225]
set_option maxRecDepth 100000 in
theorem begin_any (w : World) : Calls Tryd.prog 57 #[] w (fun e w' => e = .returned (.agg (rowW startL)) ∧ Below w.heap.size w w') := by
  have HI8 : Hid ((Tryd.prog.info? 97).map (·.size) = some (rowW startL).size) := aside (by rw [rowW_size]; kernel_rfl)
  have HO8 : Hid ((rowW (List.replicate 8 0)).size = (rowW startL).size) := aside (by rw [rowW_size, rowW_size]; rfl)
  have R := RowAt.new w 97 (List.replicate 8 0)
  go_enter Tryd.func57, Tryd.ntmps57
  go_wp2_with (first
    | (refine wpList_store_row rfl 97 (.tmp 0) (.tmp 1) rfl w.heap.size (rowW startL) rfl rfl 97 (rowW (List.replicate 8 0)) R HI8.out HO8.out (rowW_one _) ?_)
    | fail)
  refine bodyPost_ret (results_cell_row rfl _ _ w.heap.size 97 (rowW startL) (0, 0) _ rfl (RowAt.setRow R _) Tryd.underlying97 rfl HI8.out) rfl ?_
  exact ⟨rfl, below_setRow ((Below.refl _ _).alloc (Nat.le_refl _) _) _ (Nat.le_refl _) _⟩

/-- A hasher in memory. -/
def HashAt (w : World) (b : Nat) (s : List Nat) (rest : Value) (cnt : Int) : Prop :=
  w.heap[b]? = some (.cells (s.map W ++ [rest, .int .i64 cnt]).toArray 100 (0, 0))
set_option maxRecDepth 100000 in
theorem new_hash (w : World) : Calls Tryd.prog 47 #[] w (fun e w' => ∃ b, e = .returned (.pointer (some ⟨b, 0, none⟩)) ∧ w.heap.size ≤ b ∧ HashAt w' b startL (.slice none 0 0) 0 ∧ Below w.heap.size w w') := by
  go_enter Tryd.func47, Tryd.ntmps47
  go_wp2_with fail
  refine (begin_any _).mono ?_
  rintro e w1 ⟨rfl, hb⟩
  go_wp2
  go_ret
  refine ⟨w1.heap.size, rfl, hb.size, ?_, hb.alloc hb.size _⟩
  unfold HashAt
  refine (heap_alloc_new _ _).trans ?_
  kernel_rfl
end Go.Proofs.YtiigggbghgfdoaaDoor
