/- laned. No condition. -/
import Derived.Test.YtpkclbemgmaahaaDoorLaneP
import Derived.ChangeKeysEq
namespace Go.Proofs.YtpkclbemgmaahaaDoor
open Go.RowKit Go.ChangeShapes Go.WideShapes Go.ChangeAt

theorem part0 (a b : Value) (w : World) : (part 3 #[a, b] 0).run Tryd.prog w = .ok a w := by kernel_rfl
theorem part1 (a b : Value) (w : World) : (part 3 #[a, b] 1).run Tryd.prog w = .ok b w := by kernel_rfl
theorem pair_eq (a b c d : Int) (w : World) : (Op.equalIn 10000 30 (.agg #[.int .i64 a, .int .i64 b]) (.agg #[.int .i64 c, .int .i64 d])).run Tryd.prog w = .ok (a == c && b == d) w := by
  obtain ⟨i, hi, _⟩ := Option.map_eq_some_iff.1 intInfo
  rw [show (10000 : Nat) = 9999 + 1 from rfl, run_equalIn_array (P := Tryd.prog) (n := 2) (e := 3) w 9999 _ _ Tryd.underlying30 hi]
  have h : ∀ x y : Int, (Op.equalIn 9999 3 (.int .i64 x) (.int .i64 y)).run Tryd.prog w = .ok (x == y) w := fun x y => run_equalIn_int (h := Tryd.underlying3) w 9998 _ _ _ _ _
  have hc : Tryd.prog.cellsOf 3 = 1 := by kernel_rfl
  rw [hc]
  simp only [List.range, List.range.loop, Op.eqItems, Sem.run_bind, Nat.zero_mul, Nat.one_mul, part0, part1, Result.andThen_ok, h]
  by_cases h1 : a = c <;> by_cases h2 : b = d <;> simp [h1, h2, part0, part1, h]

set_option maxHeartbeats 4000000 in
set_option maxRecDepth 100000 in
theorem laned_any (w : World) : Calls Tryd.prog 4 #[] w (fun e w' => e = .returned (.bool true) ∧ Below w.heap.size w w') := by
  go_enter Tryd.func4, Tryd.ntmps4
  go_wp2_with fail
  refine (new_any 5 3 _).mono ?_
  rintro e w1 ⟨hb, ⟨-, A, c, rfl, hp, hf⟩ | ⟨h, -⟩⟩
  rotate_left
  · exact absurd (by decide) h
  simp only [chV]
  go_wp2_with fail
  refine (pay_any [(5, 3)] A 1 c 0 0 0 false 0 2 _ ((hp.alloc (Nat.le_refl _) _).more (by simp))).mono ?_
  have hB0 := hb.alloc hb.size (.cells #[.slice A 1 c, .int .i64 0, .int .i64 0, .int .i64 0, .bool false] 24)
  rintro e w2 ⟨hb2, ⟨-, A2, c2, rfl, hp2, hf2⟩ | ⟨h, -⟩⟩
  rotate_left
  · exact absurd (by decide) h
  simp only [chV]
  have hB := aside (hB0.trans (hb2.mono (by have := hb.size; simp; omega)))
  obtain ⟨b, off, rfl, hlt, c0, c1⟩ := hp2.at_ (k := 1) (by decide)
  have hpe := pair_eq
  clear hb hb2 hB0 hp hf hf2
  simp [payD, paid, lastP] at c0 c1
  go_wp2
  go_ret
  exact ⟨rfl, hB.out.alloc hB.out.size _⟩
end Go.Proofs.YtpkclbemgmaahaaDoor
