/- SwapFirst: what each deal behind acts keeps; the walk of the law. No condition. -/
import Derived.Test.YtionmkmoddfehaaSwapH
namespace Go.Proofs.Ytionmkmoddfehaa
open Go.RowKit Go.ChangeShapes Go.WideShapes Go.ChangeAt

/-- What each deal behind acts keeps. -/
structure Kept1 (g0 g1 e0 e1 : Int) (d : Deal) : Prop where
  a0 : d.g0 = g0
  a1 : d.g1 = g1
  a2 : d.e0 = e0
  a3 : d.e1 = e1
  k0 : d.s0 = 2 → d.kn = true
  k1 : d.kn = true → d.s1 = 2
  m0 : d.s0 = 2 ∨ d.s1 = 2 → MoneyIn g0 ∧ MoneyIn g1

theorem kept1_first (g0 g1 e0 e1 : Int) : Kept1 g0 g1 e0 e1 ⟨g0, g1, e0, e1, 0, 0, false, 0⟩ := by
  constructor <;> simp

theorem kept1_step (g0 g1 e0 e1 : Int) (d : Deal) (who act now : Int) (h : Kept1 g0 g1 e0 e1 d) (hg : Good d who act now) (hq : stepQ d who act now = 0) : Kept1 g0 g1 e0 e1 (stepD d who act now) := by
  obtain ⟨a, b, c, e, s, t, k, n⟩ := d
  obtain ⟨rfl, rfl, rfl, rfl, h0, h1, h2⟩ := h
  obtain ⟨hw, ha1, ha3, _, _, hm0, hm1, _, _⟩ := hg
  simp only [] at h0 h1 h2 hm0 hm1
  have ha : act = 1 ∨ act = 2 ∨ act = 3 := by omega
  rcases hw with rfl | rfl <;> rcases ha with rfl | rfl | rfl <;> simp [stepQ, stepD] at hq ⊢ <;> constructor <;> simp_all <;> grind

theorem wrap_in (x : Int) (h : -4503599627370496 ≤ x ∧ x ≤ 4503599627370496) : wrap64 x = x := by
  unfold wrap64
  omega

theorem gain_sum (d : Deal) (h : d.s0 = 2 ∨ d.s1 = 2 → MoneyIn d.g0 ∧ MoneyIn d.g1) : ∃ n, gainOf d 0 = n ∧ gainOf d 1 = -n ∧ -4503599627370496 ≤ n ∧ n ≤ 4503599627370496 := by
  by_cases h0 : d.s0 = 2
  · obtain ⟨⟨_, _⟩, ⟨_, _⟩⟩ := h (.inl h0)
    by_cases h1 : d.s1 = 2
    · refine ⟨d.g1 - d.g0, ?_, ?_, by omega, by omega⟩ <;> simp [gainOf, h0, h1] <;> (repeat rw [wrap_in _ (by first | omega | (rw [wrap_in _ (by omega)]; omega))]) <;> omega
    · refine ⟨- d.g0, ?_, ?_, by omega, by omega⟩ <;> simp [gainOf, h0, h1] <;> rw [wrap_in _ (by omega)]
  · by_cases h1 : d.s1 = 2
    · obtain ⟨⟨_, _⟩, ⟨_, _⟩⟩ := h (.inr h1)
      refine ⟨d.g1, ?_, ?_, by omega, by omega⟩ <;> simp [gainOf, h0, h1] <;> rw [wrap_in _ (by omega)]
    · exact ⟨0, by simp [gainOf, h0, h1], by simp [gainOf, h0, h1], by decide, by decide⟩
end Go.Proofs.Ytionmkmoddfehaa
