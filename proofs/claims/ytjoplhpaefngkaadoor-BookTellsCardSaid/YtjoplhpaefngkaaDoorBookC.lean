/- maps.Clone, book.within. Conditions: named in each theorem. -/
import Derived.Test.YtjoplhpaefngkaaDoorMemB
import Derived.Test.YtjoplhpaefngkaaDoorBookL
import Derived.Shelf.SlMaps.Clone
import Derived.Maps.OwnOps
import Derived.Maps.RangeWalk
import Derived.StringKeys
namespace Go.Proofs.YtjoplhpaefngkaaDoor
open Go.RowKit Go.ChangeShapes Go.WideShapes Go.ChangeAt

theorem nameKeyed : Maps.Keyed Tryd.prog 9 := Maps.string_keyed Tryd.underlying9
/-- The map in block b reads as D. -/
def MapAt (w : World) (b n : Nat) (D : DataW Unit) : Prop := w.ownsMap Tryd.prog 9 (plainElem Tryd.prog 3) b n D

set_option maxHeartbeats 4000000 in
set_option maxRecDepth 100000 in
theorem clone_any (b n : Nat) (D : DataW Unit) (w : World) (h : MapAt w b n D) :
    Calls Tryd.prog 16 #[.map (some b)] w (fun e w' => e = .returned (.map (some w.heap.size)) ∧ MapAt w' w.heap.size n D ∧ MapAt w' b n D ∧ Below w.heap.size w w') := by
  have hlt := World.ownsMap.lt h
  obtain ⟨es, clock, hb, F, hs, hD⟩ := h
  have HF := aside F
  have HD := aside hD
  clear F hD
  have hq := fun w => run_eql_map_nil_sl (P := Tryd.prog) w 41 _ _ (some b) Tryd.underlying41
  go_enter Tryd.func16, Tryd.ntmps16
  go_wp2
  rw [run_callFunc_extern (P := Tryd.prog) (fn := Tryd.f22) Tryd.func22 (by kernel_rfl) (by kernel_rfl) (by kernel_rfl) (e := Extern.MapsClone.clone) (by kernel_rfl), run_maps_clone_sl w 41 hb]
  simp only [Result.andThen]
  rw [Oper.upon_value]
  go_wp2
  rw [run_typeAssert_map_sl _ 41 20 _ _ _ Tryd.underlying41]
  simp only [Result.andThen]
  rw [Oper.upon_value]
  go_wp2
  go_ret
  have hB : Below w.heap.size w (w.alloc (.map es clock)) := (Below.refl _ w).alloc (Nat.le_refl _) _
  exact ⟨rfl, ⟨es, clock, (MapKept.heap_alloc w _).1, HF.out, hs, HD.out⟩, ⟨es, clock, (Below.heap_alloc _ _ b hlt).trans hb, HF.out, hs, HD.out⟩, hB⟩

set_option maxRecDepth 100000 in
theorem within_ok (m : Int) (hm : Within m) (w : World) : Calls Tryd.prog 17 #[.int .i64 m] w (fun e w' => e = .returned (.bool true) ∧ w' = w) := by
  obtain ⟨h0, h1⟩ := hm
  go_enter Tryd.func17, Tryd.ntmps17
  go_wp2
  go_ret
  exact ⟨by first | rfl | simp, rfl⟩
set_option maxRecDepth 100000 in
theorem within_bad (m : Int) (hm : ¬ Within m) (w : World) : Calls Tryd.prog 17 #[.int .i64 m] w (fun e w' => e = .returned (.bool false) ∧ w' = w) := by
  have hway : m < -1125899906842624 ∨ (-1125899906842624 ≤ m ∧ 1125899906842624 < m) := by unfold Within at hm; omega
  clear hm
  rcases hway with h | ⟨h, h'⟩
  all_goals go_enter Tryd.func17, Tryd.ntmps17
  all_goals go_wp2
  all_goals go_ret
  all_goals exact ⟨by first | rfl | (simp; omega), rfl⟩
end Go.Proofs.YtjoplhpaefngkaaDoor
