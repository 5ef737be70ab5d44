/- Pairs of ints by value: opened, compared. No condition. -/
import Derived.Test.YtionmkmoddfehaaSwapI
import Derived.Lib.SmallJoins
import Derived.WideKeyPair
import Derived.DeepKeys
namespace Go.Proofs.Ytionmkmoddfehaa
open Go.RowKit Go.ChangeShapes Go.WideShapes Go.ChangeAt

theorem part0 (a b : Value) (w : World) : (part 3 #[a, b] 0).run Try.prog w = .ok a w := by kernel_rfl
theorem part1 (a b : Value) (w : World) : (part 3 #[a, b] 1).run Try.prog w = .ok b w := by kernel_rfl
theorem pair_eq (a b c d : Int) (w : World) : (Op.equalIn 10000 22 (.agg #[.int .i64 a, .int .i64 b]) (.agg #[.int .i64 c, .int .i64 d])).run Try.prog w = .ok (a == c && b == d) w := by
  obtain ⟨i, hi, _⟩ := Option.map_eq_some_iff.1 intInfo
  rw [show (10000 : Nat) = 9999 + 1 from rfl, run_equalIn_array (P := Try.prog) (n := 2) (e := 3) w 9999 _ _ Try.underlying22 hi]
  have h : ∀ x y : Int, (Op.equalIn 9999 3 (.int .i64 x) (.int .i64 y)).run Try.prog w = .ok (x == y) w := fun x y => run_equalIn_int (h := Try.underlying3) w 9998 _ _ _ _ _
  have hc : Try.prog.cellsOf 3 = 1 := by kernel_rfl
  rw [hc]
  simp only [List.range, List.range.loop, Op.eqItems, Sem.run_bind, Nat.zero_mul, Nat.one_mul, part0, part1, Result.andThen_ok, h]
  by_cases h1 : a = c <;> by_cases h2 : b = d <;> simp [h1, h2, part0, part1, h]

/-- A pair of ints that came in. -/
theorem open_pair {H : Type} {enc : TypeId × Value → H} {W : World} {r : Reach} {b0 base : Nat} {spare : Nat → Bool} {held : Bool} {v : Value} {d : DataW H} {p : List MemPlace}
    (hv : Value.okWide Try.prog W r b0 22 v) (h : DataW.Trod enc Try.prog W base spare held 22 v d p) :
    ∃ a b : Int, v = .agg #[.int .i64 a, .int .i64 b] := by
  have A : WideMaps.ArrKey Try.prog 22 3 2 := ⟨Try.underlying22, by kernel_rfl, by kernel_rfl, by kernel_rfl⟩
  obtain ⟨c0, c1, rfl⟩ := WideMaps.okWide_pair A hv
  obtain ⟨fuel, hf⟩ := h
  cases fuel with
  | zero => simp [DataW.trod] at hf
  | succ m =>
    rw [DataW.trod_step] at hf
    unfold DataW.trodStep at hf
    simp only [A.hu, Value.cells] at hf
    rw [if_pos (by rw [A.size]; simp)] at hf
    simp only [Option.map_eq_some_iff] at hf
    obtain ⟨ys, hy, e1⟩ := hf
    have hc : Try.prog.cellsOf 3 = 1 := by kernel_rfl
    simp [List.range, List.range.loop, hc, bind, Option.bind_eq_some_iff] at hy
    obtain ⟨y0, q0, h0, _, ⟨y1, q1, h1, _⟩, _⟩ := hy
    obtain ⟨a, e0, _, _⟩ := DataW.trod_int Try.underlying3 h0
    obtain ⟨b, e1', _, _⟩ := DataW.trod_int Try.underlying3 h1
    simp at e0 e1'
    subst e0 e1'
    exact ⟨a, b, rfl⟩
end Go.Proofs.Ytionmkmoddfehaa
