/- Two digests are compared. Conditions: named in each theorem. -/
import Derived.Test.YtmhekoalhlfjoaaGreatDoorWalE
import Derived.DeepKeys
namespace Go.Proofs.YtmhekoalhlfjoaaGreatDoor
open Go.RowKit Go.ChangeShapes Go.WideShapes Go.ChangeAt

theorem part_byte (d : List Nat) (i : Nat) (hi : i < d.length) (w : World) : (part 5 (rowY d) i).run Tryz.prog w = .ok (.int .u8 (d.getD i 0 : Nat)) w := by
  have ha : (isAgg 5).run Tryz.prog w = .ok false w := by kernel_rfl
  have hc : (rowY d)[i]? = some (.int .u8 (d.getD i 0 : Nat)) := by
    unfold rowY
    rw [List.getElem?_toArray, List.getElem?_map, List.getD_eq_getElem?_getD, List.getElem?_eq_getElem hi]
    rfl
  unfold part
  simp only [Sem.run_bind, ha, Result.andThen_ok, Bool.false_eq_true, if_false, hc, Sem.run_pure]
theorem eq_bytes (f : Nat) (d1 d2 : List Nat) (w : World) : ∀ is : List Nat, (∀ i ∈ is, i < d1.length ∧ i < d2.length) →
    (Op.eqItems (f + 1) 5 1 (rowY d1) (rowY d2) is).run Tryz.prog w = .ok (is.all fun i => d1.getD i 0 == d2.getD i 0) w
  | [], _ => rfl
  | i :: is, h => by
    obtain ⟨h1, h2⟩ := h i (List.mem_cons_self ..)
    have ih := eq_bytes f d1 d2 w is (fun j hj => h j (List.mem_cons_of_mem _ hj))
    have he : (Op.equalIn (f + 1) 5 (.int .u8 (d1.getD i 0 : Nat)) (.int .u8 (d2.getD i 0 : Nat))).run Tryz.prog w = .ok (d1.getD i 0 == d2.getD i 0) w := by
      rw [run_equalIn_int (h := Tryz.underlying5) w f 5 .u8 .u8 _ _]
      congr 1
      rw [Bool.eq_iff_iff, beq_iff_eq, beq_iff_eq]
      omega
    unfold Op.eqItems
    rw [Nat.mul_one]
    simp only [Sem.run_bind, part_byte d1 i h1 w, part_byte d2 i h2 w, he, Result.andThen_ok, List.all_cons]
    cases hb : (d1.getD i 0 == d2.getD i 0) with
    | true => simp only [Bool.not_true, Bool.false_eq_true, if_false, Bool.true_and]; exact ih
    | false => simp
theorem all_same {d1 d2 : List Nat} {n : Nat} (h1 : d1.length = n) (h2 : d2.length = n) : ((List.range n).all fun i => d1.getD i 0 == d2.getD i 0) = decide (d1 = d2) := by
  rw [Bool.eq_iff_iff]
  simp only [List.all_eq_true, List.mem_range, beq_iff_eq, decide_eq_true_eq]
  constructor
  · intro h
    apply List.ext_getElem (by omega)
    intro i g1 g2
    have := h i (by omega)
    rw [List.getD_eq_getElem?_getD, List.getD_eq_getElem?_getD, List.getElem?_eq_getElem g1, List.getElem?_eq_getElem g2] at this
    exact this
  · rintro rfl i _
    rfl
theorem dig_equal (f : Nat) (d1 d2 : List Nat) (h1 : d1.length = 32) (h2 : d2.length = 32) (w : World) : (Op.equalIn (f + 2) 23 (.agg (rowY d1)) (.agg (rowY d2))).run Tryz.prog w = .ok (decide (d1 = d2)) w := by
  obtain ⟨i0, hI, -, -, -⟩ := info_parts byteInfo
  have hc : Tryz.prog.cellsOf 5 = 1 := by kernel_rfl
  rw [run_equalIn_array (P := Tryz.prog) (n := 32) (e := 5) w (f + 1) _ _ Tryz.underlying23 hI, hc, eq_bytes f d1 d2 w _ (fun i hi => by rw [List.mem_range] at hi; omega), all_same h1 h2]
set_option maxRecDepth 100000 in
theorem dig_guard (op : BinOp) (x y : Operand) (X Y : List Nat) (w : World) : (eqGuard op 23 x y (digV X) (digV Y)).run Tryz.prog w = .ok () w := run_eqGuard_agg w op 23 x y _ _ (by kernel_rfl)
theorem dig_neq (X Y : List Nat) (hX : X.length = 32) (hY : Y.length = 32) (w : World) : (binOp .neq 23 (digV X) (digV Y)).run Tryz.prog w = .ok (.bool (!decide (X = Y))) w := by
  unfold digV
  rw [run_neq_struct, dig_equal 9998 X Y hX hY w]
  rfl
theorem dig_eql (X Y : List Nat) (hX : X.length = 32) (hY : Y.length = 32) (w : World) : (binOp .eql 23 (digV X) (digV Y)).run Tryz.prog w = .ok (.bool (decide (X = Y))) w := by
  unfold digV
  rw [run_eql_struct, dig_equal 9998 X Y hX hY w]
  rfl
end Go.Proofs.YtmhekoalhlfjoaaGreatDoor
