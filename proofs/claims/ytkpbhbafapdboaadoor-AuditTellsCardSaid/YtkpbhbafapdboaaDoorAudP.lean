/- Two totals are compared. Conditions: named in each theorem. -/
import Derived.Test.YtkpbhbafapdboaaDoorAudL
import Derived.DeepKeys
namespace Go.Proofs.YtkpbhbafapdboaaDoor
open Go.RowKit Go.ChangeShapes Go.WideShapes Go.ChangeAt

theorem part_byte (d : List Nat) (i : Nat) (hi : i < d.length) (w : World) : (part 5 (rowY d) i).run Tryd.prog w = .ok (.int .u8 (d.getD i 0 : Nat)) w := by
  have ha : (isAgg 5).run Tryd.prog w = .ok false w := by kernel_rfl
  have hc : (rowY d)[i]? = some (.int .u8 (d.getD i 0 : Nat)) := by
    unfold rowY
    rw [List.getElem?_toArray, List.getElem?_map, List.getD_eq_getElem?_getD, List.getElem?_eq_getElem hi]
    rfl
  unfold part
  simp only [Sem.run_bind, ha, Result.andThen_ok, Bool.false_eq_true, if_false, hc, Sem.run_pure]
theorem eq_bytes (f : Nat) (d1 d2 : List Nat) (w : World) : ∀ is : List Nat, (∀ i ∈ is, i < d1.length ∧ i < d2.length) →
    (Op.eqItems (f + 1) 5 1 (rowY d1) (rowY d2) is).run Tryd.prog w = .ok (is.all fun i => d1.getD i 0 == d2.getD i 0) w
  | [], _ => rfl
  | i :: is, h => by
    obtain ⟨h1, h2⟩ := h i (List.mem_cons_self ..)
    have ih := eq_bytes f d1 d2 w is (fun j hj => h j (List.mem_cons_of_mem _ hj))
    have he : (Op.equalIn (f + 1) 5 (.int .u8 (d1.getD i 0 : Nat)) (.int .u8 (d2.getD i 0 : Nat))).run Tryd.prog w = .ok (d1.getD i 0 == d2.getD i 0) w := by
      rw [run_equalIn_int (h := Tryd.underlying5) w f 5 .u8 .u8 _ _]
      congr 1
      rw [Bool.eq_iff_iff, beq_iff_eq, beq_iff_eq]
      omega
    unfold Op.eqItems
    rw [Nat.mul_one]
    simp only [Sem.run_bind, part_byte d1 i h1 w, part_byte d2 i h2 w, he, Result.andThen_ok, List.all_cons]
    cases hb : (d1.getD i 0 == d2.getD i 0) with
    | true => simp only [Bool.not_true, Bool.false_eq_true, if_false, Bool.true_and]; exact ih
    | false => simp
theorem all_same {d1 d2 : List Nat} {n : Nat} (h1 : d1.length = n) (h2 : d2.length = n) : ((List.range n).all fun i => d1.getD i 0 == d2.getD i 0) = decide (d1 = d2) := by
  rw [Bool.eq_iff_iff]
  simp only [List.all_eq_true, List.mem_range, beq_iff_eq, decide_eq_true_eq]
  constructor
  · intro h
    apply List.ext_getElem (by omega)
    intro i g1 g2
    have := h i (by omega)
    rw [List.getD_eq_getElem?_getD, List.getD_eq_getElem?_getD, List.getElem?_eq_getElem g1, List.getElem?_eq_getElem g2] at this
    exact this
  · rintro rfl i _
    rfl
theorem dig_equal (f : Nat) (d1 d2 : List Nat) (h1 : d1.length = 32) (h2 : d2.length = 32) (w : World) : (Op.equalIn (f + 2) 23 (.agg (rowY d1)) (.agg (rowY d2))).run Tryd.prog w = .ok (decide (d1 = d2)) w := by
  obtain ⟨i0, hI, -, -, -⟩ := info_parts byteInfo
  have hc : Tryd.prog.cellsOf 5 = 1 := by kernel_rfl
  rw [run_equalIn_array (P := Tryd.prog) (n := 32) (e := 5) w (f + 1) _ _ Tryd.underlying23 hI, hc, eq_bytes f d1 d2 w _ (fun i hi => by rw [List.mem_range] at hi; omega), all_same h1 h2]
theorem part_sum (s : Int) (d : List Nat) (w : World) : (part 3 (totR s d) 0).run Tryd.prog w = .ok (.int .i64 s) w := by
  have ha : (isAgg 3).run Tryd.prog w = .ok false w := by kernel_rfl
  unfold part
  simp only [Sem.run_bind, ha, Result.andThen_ok, Bool.false_eq_true, if_false]
  rfl
set_option maxRecDepth 100000 in
theorem part_dig (s : Int) (d : List Nat) (hd : d.length = 32) (w : World) : (part 23 (totR s d) 1).run Tryd.prog w = .ok (.agg (rowY d)) w := by
  have hb : (isAgg 23).run Tryd.prog w = .ok true w := by kernel_rfl
  have hs : (sizeOf 23).run Tryd.prog w = .ok 32 w := by kernel_rfl
  unfold part
  simp only [Sem.run_bind, hb, Result.andThen_ok, if_true, hs, Sem.run_pure]
  have e : (totR s d).extract 1 (1 + 32) = rowY d := by
    unfold totR totL rowY
    rw [List.extract_toArray]
    congr 1
    simp
    exact List.take_of_length_le (by simp [hd])
  rw [e]
theorem eq_fields (fs : List Field) (hf : fs.map (fun f => (f.name == "_", f.type, f.offset)) = [(false, 3, 0), (false, 23, 1)]) (D : Nat) (xs ys : Array Value) (w : World) (a b : Value) (c d : Value) (r1 r2 : Bool)
    (h1 : (part 3 xs 0).run Tryd.prog w = .ok a w) (h2 : (part 3 ys 0).run Tryd.prog w = .ok b w) (h3 : (Op.equalIn D 3 a b).run Tryd.prog w = .ok r1 w)
    (h4 : (part 23 xs 1).run Tryd.prog w = .ok c w) (h5 : (part 23 ys 1).run Tryd.prog w = .ok d w) (h6 : (Op.equalIn D 23 c d).run Tryd.prog w = .ok r2 w) :
    (Op.eqFields D xs ys fs).run Tryd.prog w = .ok (r1 && r2) w := by
  have hl : fs.length = 2 := by simpa using congrArg List.length hf
  match fs, hl, hf with
  | [f0, f1], _, hf =>
    simp at hf
    obtain ⟨⟨u0, t0, o0⟩, u1, t1, o1⟩ := hf
    cases r1 with
    | false => simp [Op.eqFields, u0, t0, o0, Sem.run_bind, h1, h2, h3]
    | true =>
      cases r2 with
      | false => simp [Op.eqFields, u0, u1, t0, t1, o0, o1, Sem.run_bind, h1, h2, h3, h4, h5, h6]
      | true => simp [Op.eqFields, u0, u1, t0, t1, o0, o1, Sem.run_bind, h1, h2, h3, h4, h5, h6]
theorem tot_fields : (Tryd.prog.fieldsOf 25).toList.map (fun f => (f.name == "_", f.type, f.offset)) = [(false, 3, 0), (false, 23, 1)] := by kernel_rfl
theorem tot_eqD (D : Nat) (s1 s2 : Int) (d1 d2 : List Nat) (h1 : d1.length = 32) (h2 : d2.length = 32) (w : World) : (Op.equalIn (D + 3) 25 (.agg (totR s1 d1)) (.agg (totR s2 d2))).run Tryd.prog w = .ok ((s1 == s2) && decide (d1 = d2)) w := by
  rw [run_equalIn_struct (P := Tryd.prog) w (D + 2) 25 _ _ (by kernel_rfl) (by kernel_rfl)]
  exact eq_fields _ tot_fields (D + 2) _ _ w _ _ _ _ _ _ (part_sum s1 d1 w) (part_sum s2 d2 w) (run_equalIn_int (h := Tryd.underlying3) w (D + 1) _ _ _ _ _) (part_dig s1 d1 h1 w) (part_dig s2 d2 h2 w) (dig_equal D d1 d2 h1 h2 w)
theorem tot_equal (s1 s2 : Int) (d1 d2 : List Nat) (h1 : d1.length = 32) (h2 : d2.length = 32) (w : World) : (Op.equalIn 10000 25 (totV s1 d1) (totV s2 d2)).run Tryd.prog w = .ok ((s1 == s2) && decide (d1 = d2)) w :=
  tot_eqD 9997 s1 s2 d1 d2 h1 h2 w
end Go.Proofs.YtkpbhbafapdboaaDoor
