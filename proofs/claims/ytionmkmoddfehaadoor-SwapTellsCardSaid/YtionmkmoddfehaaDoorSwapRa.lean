/- moneyerref3.DealFault: what is wrong with a deal. No condition. -/
import Derived.Test.YtionmkmoddfehaaDoorSwap
namespace Go.Proofs.YtionmkmoddfehaaDoor
open Go.RowKit Go.ChangeShapes Go.WideShapes Go.ChangeAt

def PostFault (ok : Prop) (w : World) (e : Ending) (w' : World) : Prop := ∃ k, e = .returned (.int .i64 k) ∧ ((ok ∧ k = 0) ∨ (¬ ok ∧ k = 2)) ∧ Below w.heap.size w w'

set_option maxHeartbeats 4000000 in
theorem fault_any (g0 g1 e0 e1 s0 s1 nw who act now : Int) (kn : Bool) (w : World) :
    Calls Tryd.prog 10 #[.agg #[.int .i64 g0, .int .i64 g1, .int .i64 e0, .int .i64 e1, .int .i64 s0, .int .i64 s1, .bool kn, .int .i64 nw], .int .i64 who, .int .i64 act, .int .i64 now] w (PostFault (Good ⟨g0, g1, e0, e1, s0, s1, kn, nw⟩ who act now) w) := by
  by_cases h : Good ⟨g0, g1, e0, e1, s0, s1, kn, nw⟩ who act now
  · have H := aside h
    obtain ⟨hw, a1, a3, ⟨t0, t1⟩, hn, ⟨m0, m1⟩, ⟨m2, m3⟩, ⟨m4, m5⟩, ⟨m6, m7⟩⟩ := h
    simp only [] at hn m0 m1 m2 m3 m4 m5 m6 m7
    have w0 : 0 ≤ who := by omega
    have w1 : who ≤ 1 := by omega
    clear hw
    go_enter Tryd.func10, Tryd.ntmps10
    go_wp2
    go_ret
    exact ⟨_, rfl, .inl ⟨H.out, rfl⟩, (Below.refl _ _).alloc (Nat.le_refl _) _⟩
  · have H := aside h
    clear h
    have hz : Below w.heap.size w w := Below.refl _ _
    by_cases w0 : who < 0
    · go_enter Tryd.func10, Tryd.ntmps10
      go_wp2
      go_ret
      exact ⟨_, rfl, .inr ⟨H.out, rfl⟩, (Below.refl _ _).alloc (Nat.le_refl _) _⟩
    by_cases w1 : 1 < who
    · go_enter Tryd.func10, Tryd.ntmps10
      go_wp2
      go_ret
      exact ⟨_, rfl, .inr ⟨H.out, rfl⟩, (Below.refl _ _).alloc (Nat.le_refl _) _⟩
    by_cases a0 : act < 1
    · go_enter Tryd.func10, Tryd.ntmps10
      go_wp2
      go_ret
      exact ⟨_, rfl, .inr ⟨H.out, rfl⟩, (Below.refl _ _).alloc (Nat.le_refl _) _⟩
    by_cases a1 : 3 < act
    · go_enter Tryd.func10, Tryd.ntmps10
      go_wp2
      go_ret
      exact ⟨_, rfl, .inr ⟨H.out, rfl⟩, (Below.refl _ _).alloc (Nat.le_refl _) _⟩
    replace w0 : 0 ≤ who := by omega
    replace w1 : who ≤ 1 := by omega
    replace a0 : 1 ≤ act := by omega
    replace a1 : act ≤ 3 := by omega
    go_enter Tryd.func10, Tryd.ntmps10
    go_wp2
    all_goals go_ret
    all_goals go_tidy
    all_goals first
      | exact ⟨_, rfl, .inr ⟨H.out, rfl⟩, (Below.refl _ _).alloc (Nat.le_refl _) _⟩
      | (exfalso; apply H.out; unfold Good COk TimeIn MoneyIn; simp at *; omega)
end Go.Proofs.YtionmkmoddfehaaDoor
