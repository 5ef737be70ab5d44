/- lane.Check: what is wrong with a channel. No condition. -/
import Derived.Test.YtpkclbemgmaahaaDoorLane
namespace Go.Proofs.YtpkclbemgmaahaaDoor
open Go.RowKit Go.ChangeShapes Go.WideShapes Go.ChangeAt

/-- What is wrong with a channel (0: nothing). -/
def checkQ (n : Nat) (ps : List (Int × Int)) (cl tu wh : Int) (ch : Bool) : Int :=
  if turnsQ n ps ≠ 0 then turnsQ n ps
  else if cl < 0 ∨ 2 < cl ∨ tu < 0 ∨ (n : Int) - 1 < tu ∨ wh < 0 ∨ 1073741824 < wh then 2
  else if (cl = 0 ∧ (tu ≠ 0 ∨ wh ≠ 0 ∨ ch = true)) ∨ (ch = true ∧ tu = (n : Int) - 1) then 11 else 0

theorem errV_ne {k : Int} (h : k ≠ 0) : errV k = .iface 26 (.int .i64 k) := by unfold errV; rw [if_neg h]

set_option maxHeartbeats 4000000 in
set_option maxRecDepth 100000 in
theorem check_bad (ps : List (Int × Int)) (A : Option Addr) (n c : Nat) (cl tu wh : Int) (ch : Bool) (w : World) (hp : PSl w w.heap.size A n ps) (hq : turnsQ n ps ≠ 0) :
    Calls Tryd.prog 8 #[.agg #[.slice A n c, .int .i64 cl, .int .i64 tu, .int .i64 wh, .bool ch]] w (PostErrV (checkQ n ps cl tu wh ch) w) := by
  have h : checkQ n ps cl tu wh ch = turnsQ n ps := by unfold checkQ; rw [if_pos hq]
  rw [h]
  clear h
  have HQ := aside hq
  clear hq
  go_enter Tryd.func8, Tryd.ntmps8
  go_wp2_with fail
  refine (turns_any ps A n c _ ((hp.alloc (Nat.le_refl _) _).more (by simp))).mono ?_
  rintro e w1 ⟨rfl, hb⟩
  rw [errV_ne HQ.out]
  have hB : Below w.heap.size w w1 := ((Below.refl _ _).alloc (Nat.le_refl _) _).trans (hb.mono (by simp))
  go_wp2
  go_ret
  exact ⟨by rw [errV_ne HQ.out]; rfl, hB⟩

theorem errV_11 : errV 11 = .iface 26 (.int .i64 11) := by simp [errV]
theorem checkQ_2 {n : Nat} {ps : List (Int × Int)} {cl tu wh : Int} {ch : Bool} (hq : turnsQ n ps = 0) (h : cl < 0 ∨ 2 < cl ∨ tu < 0 ∨ (n : Int) - 1 < tu ∨ wh < 0 ∨ 1073741824 < wh) : checkQ n ps cl tu wh ch = 2 := by
  unfold checkQ
  rw [if_neg (by simp [hq]), if_pos h]
theorem checkQ_11 {n : Nat} {ps : List (Int × Int)} {cl tu wh : Int} {ch : Bool} (hq : turnsQ n ps = 0) (h : ¬ (cl < 0 ∨ 2 < cl ∨ tu < 0 ∨ (n : Int) - 1 < tu ∨ wh < 0 ∨ 1073741824 < wh)) (k : (cl = 0 ∧ (tu ≠ 0 ∨ wh ≠ 0 ∨ ch = true)) ∨ (ch = true ∧ tu = (n : Int) - 1)) : checkQ n ps cl tu wh ch = 11 := by
  unfold checkQ
  rw [if_neg (by simp [hq]), if_neg h, if_pos k]
theorem checkQ_0 {n : Nat} {ps : List (Int × Int)} {cl tu wh : Int} {ch : Bool} (hq : turnsQ n ps = 0) (h : ¬ (cl < 0 ∨ 2 < cl ∨ tu < 0 ∨ (n : Int) - 1 < tu ∨ wh < 0 ∨ 1073741824 < wh)) (k : ¬ ((cl = 0 ∧ (tu ≠ 0 ∨ wh ≠ 0 ∨ ch = true)) ∨ (ch = true ∧ tu = (n : Int) - 1))) : checkQ n ps cl tu wh ch = 0 := by
  unfold checkQ
  rw [if_neg (by simp [hq]), if_neg h, if_neg k]

set_option maxHeartbeats 8000000 in
set_option maxRecDepth 100000 in
theorem check_turns (ps : List (Int × Int)) (A : Option Addr) (n c : Nat) (cl tu wh : Int) (ch : Bool) (w : World) (hp : PSl w w.heap.size A n ps) (hq : turnsQ n ps = 0) :
    Calls Tryd.prog 8 #[.agg #[.slice A n c, .int .i64 cl, .int .i64 tu, .int .i64 wh, .bool ch]] w (PostErrV (checkQ n ps cl tu wh ch) w) := by
  have hn : 1 ≤ n ∧ n ≤ 50 := by
    refine ⟨?_, ?_⟩ <;> refine Nat.le_of_not_lt fun h => ?_
    · unfold turnsQ at hq
      rw [if_pos (.inl h)] at hq
      exact absurd hq (by decide)
    · unfold turnsQ at hq
      rw [if_pos (.inr h)] at hq
      exact absurd hq (by decide)
  have HQ := aside hq
  clear hq
  have ws : IntKind.i64.wrap ((n : Int) - 1) = (n : Int) - 1 := by rw [IntKind.wrap_i64]; omega
  have ws' : wrap64 ((n : Int) - 1) = (n : Int) - 1 := by unfold wrap64; omega
  go_enter Tryd.func8, Tryd.ntmps8
  go_wp2_with fail
  refine (turns_any ps A n c _ ((hp.alloc (Nat.le_refl _) _).more (by simp))).mono ?_
  rintro e w1 ⟨rfl, hb⟩
  rw [HQ.out, errV_0]
  have hB : Below w.heap.size w w1 := ((Below.refl _ _).alloc (Nat.le_refl _) _).trans (hb.mono (by simp))
  have hc0 := hb.cell (p := ⟨w.heap.size, 0, none⟩) (by simp)
  have hc1 := hb.cell (p := ⟨w.heap.size, 1, none⟩) (by simp)
  have hc2 := hb.cell (p := ⟨w.heap.size, 2, none⟩) (by simp)
  have hc3 := hb.cell (p := ⟨w.heap.size, 3, none⟩) (by simp)
  have hc4 := hb.cell (p := ⟨w.heap.size, 4, none⟩) (by simp)
  rw [World.cell?_alloc_at _ _ _ _ rfl] at hc0 hc1 hc2 hc3 hc4
  simp at hc0 hc1 hc2 hc3 hc4
  clear hb
  go_wp2
  all_goals go_ret
  all_goals have HB := aside hB
  all_goals clear hB hc0 hc1 hc2 hc3 hc4
  all_goals cases ch
  all_goals first
    | (exfalso; simp at *; done)
    | (exfalso; simp at *; omega)
    | exact ⟨by rw [checkQ_2 HQ.out (by first | omega | (simp at *; done) | (simp at *; omega)), errV_2]; rfl, HB.out⟩
    | exact ⟨by rw [checkQ_11 HQ.out (by first | omega | (simp at *; done) | (simp at *; omega)) (by first | omega | (simp at *; done) | (simp at *; omega)), errV_11]; rfl, HB.out⟩
    | exact ⟨by rw [checkQ_0 HQ.out (by first | omega | (simp at *; done) | (simp at *; omega)) (by first | omega | (simp at *; done) | (simp at *; omega)), errV_0]; rfl, HB.out⟩
    | exact ⟨by rw [checkQ_11 HQ.out (by first | omega | (simp at *; done) | (simp at *; omega)) (by first | (simp_all; done) | (simp_all; omega)), errV_11]; rfl, HB.out⟩
    | exact ⟨by rw [checkQ_0 HQ.out (by first | omega | (simp at *; done) | (simp at *; omega)) (by first | (simp_all; done) | (simp_all; omega)), errV_0]; rfl, HB.out⟩

/-- lane.Check, at every channel. -/
theorem check_any (ps : List (Int × Int)) (A : Option Addr) (n c : Nat) (cl tu wh : Int) (ch : Bool) (w : World) (hp : PSl w w.heap.size A n ps) :
    Calls Tryd.prog 8 #[.agg #[.slice A n c, .int .i64 cl, .int .i64 tu, .int .i64 wh, .bool ch]] w (PostErrV (checkQ n ps cl tu wh ch) w) := by
  by_cases hq : turnsQ n ps = 0
  · exact check_turns ps A n c cl tu wh ch w hp hq
  · exact check_bad ps A n c cl tu wh ch w hp hq
end Go.Proofs.YtpkclbemgmaahaaDoor
