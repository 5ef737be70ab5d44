/- The walks of swap.check and swap.Step: what each returns for every deal. No condition. -/
import Derived.Test.YtionmkmoddfehaaDoorMem
import Derived.Deep.RegionWith
import Derived.Laws.EntriesVeiled
namespace Go.Proofs.YtionmkmoddfehaaDoor
open Go.RowKit Go.ChangeShapes Go.WideShapes Go.ChangeAt

structure Deal where
  g0 : Int
  g1 : Int
  e0 : Int
  e1 : Int
  s0 : Int
  s1 : Int
  kn : Bool
  now : Int

def TimeIn (n : Int) : Prop := 0 ≤ n ∧ n ≤ 1073741824
def MoneyIn (n : Int) : Prop := 0 ≤ n ∧ n ≤ 1125899906842624
def COk (d : Deal) (act now : Int) : Prop := 1 ≤ act ∧ act ≤ 3 ∧ TimeIn now ∧ d.now ≤ now ∧ MoneyIn d.g0 ∧ MoneyIn d.g1 ∧ TimeIn d.e0 ∧ TimeIn d.e1

def NilOr (ok : Prop) (k : Int) (v : Value) : Prop := (ok ∧ v = .nilIface) ∨ (¬ ok ∧ v = .iface 27 (.int .i64 k))
def PostChk (ok : Prop) (w : World) (e : Ending) (w' : World) : Prop := ∃ v, e = .returned v ∧ NilOr ok 2 v ∧ Below w.heap.size w w'

theorem Tryd.idx0 (a b : Int) (w : World) : (Instr.index 22 (.agg #[.int .i64 a, .int .i64 b]) (.int .i64 0)).run Tryd.prog w = .ok (.int .i64 a) w := by kernel_rfl
theorem Tryd.idx1 (a b : Int) (w : World) : (Instr.index 22 (.agg #[.int .i64 a, .int .i64 b]) (.int .i64 1)).run Tryd.prog w = .ok (.int .i64 b) w := by kernel_rfl

set_option maxHeartbeats 2000000 in
theorem check_0 (g0 g1 e0 e1 s0 s1 nw act now : Int) (kn : Bool) (w : World) :
    Calls Tryd.prog 11 #[.agg #[.int .i64 g0, .int .i64 g1, .int .i64 e0, .int .i64 e1, .int .i64 s0, .int .i64 s1, .bool kn, .int .i64 nw], .int .i64 0, .int .i64 act, .int .i64 now] w (PostChk (COk ⟨g0, g1, e0, e1, s0, s1, kn, nw⟩ act now) w) := by
  have i0 := Tryd.idx0
  have i1 := Tryd.idx1
  go_enter Tryd.func11, Tryd.ntmps11
  go_wp2
  all_goals try (refine wp_loop_rounds 3 ?_; rw [rounds_succ]; go_wp2)
  all_goals try (rw [rounds_succ]; go_wp2)
  all_goals try (rw [rounds_succ]; go_wp2)
  all_goals go_ret
  all_goals go_tidy
  all_goals refine ⟨_, rfl, ?_, (Below.refl _ _).alloc (Nat.le_refl _) _⟩
  all_goals first
    | exact .inl ⟨by unfold COk TimeIn MoneyIn; simp at *; omega, rfl⟩
    | exact .inr ⟨by unfold COk TimeIn MoneyIn; simp at *; omega, rfl⟩
set_option maxHeartbeats 2000000 in
theorem check_1 (g0 g1 e0 e1 s0 s1 nw act now : Int) (kn : Bool) (w : World) :
    Calls Tryd.prog 11 #[.agg #[.int .i64 g0, .int .i64 g1, .int .i64 e0, .int .i64 e1, .int .i64 s0, .int .i64 s1, .bool kn, .int .i64 nw], .int .i64 1, .int .i64 act, .int .i64 now] w (PostChk (COk ⟨g0, g1, e0, e1, s0, s1, kn, nw⟩ act now) w) := by
  have i0 := Tryd.idx0
  have i1 := Tryd.idx1
  go_enter Tryd.func11, Tryd.ntmps11
  go_wp2
  all_goals try (refine wp_loop_rounds 3 ?_; rw [rounds_succ]; go_wp2)
  all_goals try (rw [rounds_succ]; go_wp2)
  all_goals try (rw [rounds_succ]; go_wp2)
  all_goals go_ret
  all_goals go_tidy
  all_goals refine ⟨_, rfl, ?_, (Below.refl _ _).alloc (Nat.le_refl _) _⟩
  all_goals first
    | exact .inl ⟨by unfold COk TimeIn MoneyIn; simp at *; omega, rfl⟩
    | exact .inr ⟨by unfold COk TimeIn MoneyIn; simp at *; omega, rfl⟩

theorem check_other (g0 g1 e0 e1 s0 s1 nw who act now : Int) (kn : Bool) (w : World) (h0 : who ≠ 0) (h1 : who ≠ 1) :
    Calls Tryd.prog 11 #[.agg #[.int .i64 g0, .int .i64 g1, .int .i64 e0, .int .i64 e1, .int .i64 s0, .int .i64 s1, .bool kn, .int .i64 nw], .int .i64 who, .int .i64 act, .int .i64 now] w (PostChk False w) := by
  have b0 : (who != 0) = true := by simpa using h0
  have b1 : (who != 1) = true := by simpa using h1
  clear h0 h1
  go_enter Tryd.func11, Tryd.ntmps11
  go_wp2
  go_ret
  exact ⟨_, rfl, .inr ⟨id, rfl⟩, (Below.refl _ _).alloc (Nat.le_refl _) _⟩

/-- What is wrong with an act of a right deal (0: nothing). -/
def stepQ (d : Deal) (who act now : Int) : Int :=
  if act = 1 then
    if who = 0 then (if d.s0 ≠ 0 then 11 else if d.e0 ≤ now then 2 else 0)
    else (if d.s1 ≠ 0 ∨ d.s0 ≠ 1 then 11 else if d.e1 ≤ now then 2 else 0)
  else if act = 2 then
    if who = 0 then (if d.s1 ≠ 1 then 11 else if d.e1 ≤ now then 8 else 0)
    else (if d.s0 ≠ 1 then 11 else if d.kn = false then 7 else if d.e0 ≤ now then 8 else 0)
  else
    if who = 0 then (if d.s0 ≠ 1 then 11 else if now < d.e0 then 8 else 0)
    else (if d.s1 ≠ 1 then 11 else if now < d.e1 then 8 else 0)
/-- The deal behind an act. -/
def stepD (d : Deal) (who act now : Int) : Deal :=
  if act = 1 then (if who = 0 then { d with s0 := 1, now := now } else { d with s1 := 1, now := now })
  else if act = 2 then (if who = 0 then { d with s1 := 2, kn := true, now := now } else { d with s0 := 2, now := now })
  else (if who = 0 then { d with s0 := 3, now := now } else { d with s1 := 3, now := now })
def Good (d : Deal) (who act now : Int) : Prop := (who = 0 ∨ who = 1) ∧ COk d act now
def Deal.v (d : Deal) : Value := .agg #[.int .i64 d.g0, .int .i64 d.g1, .int .i64 d.e0, .int .i64 d.e1, .int .i64 d.s0, .int .i64 d.s1, .bool d.kn, .int .i64 d.now]
def zeroD : Deal := ⟨0, 0, 0, 0, 0, 0, false, 0⟩

def PostStep (d : Deal) (who act now : Int) (w : World) (e : Ending) (w' : World) : Prop :=
  ∃ (D : Deal) (q : Int) (v : Value), e = .returned (.tuple #[D.v, v]) ∧ Below w.heap.size w w' ∧
    ((Good d who act now ∧ stepQ d who act now = 0 ∧ q = 0 ∧ v = .nilIface ∧ D = stepD d who act now) ∨
     (D = zeroD ∧ q ≠ 0 ∧ v = .iface 27 (.int .i64 q) ∧ ((Good d who act now ∧ stepQ d who act now = q) ∨ (¬ Good d who act now ∧ q = 2))))
end Go.Proofs.YtionmkmoddfehaaDoor
