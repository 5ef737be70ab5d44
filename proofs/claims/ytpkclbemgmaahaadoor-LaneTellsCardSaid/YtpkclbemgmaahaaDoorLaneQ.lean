/- lane.time; words for what lane.Close, lane.Show, lane.Ends tell. No condition. -/
import Derived.Test.YtpkclbemgmaahaaDoorLaneS
namespace Go.Proofs.YtpkclbemgmaahaaDoor
open Go.RowKit Go.ChangeShapes Go.WideShapes Go.ChangeAt

instance (n : Int) : Decidable (TimeIn n) := inferInstanceAs (Decidable (_ ∧ _))
set_option maxRecDepth 100000 in
theorem time_ok (m : Int) (hm : TimeIn m) (w : World) : Calls Tryd.prog 23 #[.int .i64 m] w (fun e w' => e = .returned (.bool true) ∧ w' = w) := by
  obtain ⟨h0, h1⟩ := hm
  go_enter Tryd.func23, Tryd.ntmps23
  go_wp2
  go_ret
  exact ⟨by simp [h0, h1], rfl⟩
set_option maxRecDepth 100000 in
theorem time_bad (m : Int) (hm : ¬ TimeIn m) (w : World) : Calls Tryd.prog 23 #[.int .i64 m] w (fun e w' => e = .returned (.bool false) ∧ w' = w) := by
  have hway : m < 0 ∨ (0 ≤ m ∧ 1073741824 < m) := by unfold TimeIn at hm; omega
  clear hm
  rcases hway with h | ⟨h, h'⟩
  all_goals go_enter Tryd.func23, Tryd.ntmps23
  all_goals go_wp2
  all_goals go_ret
  all_goals exact ⟨by first | rfl | (simp; omega), rfl⟩
def closeQ (n : Nat) (ps : List (Int × Int)) (cl tu wh : Int) (ch : Bool) (who turn now : Int) : Int :=
  if checkQ n ps cl tu wh ch ≠ 0 then checkQ n ps cl tu wh ch
  else if who ≠ 0 ∧ who ≠ 1 then 2
  else if turn < 0 then 2
  else if (n : Int) ≤ turn then 2
  else if ¬ TimeIn now then 2
  else if cl ≠ 0 then 11 else 0
def showQ (n : Nat) (ps : List (Int × Int)) (cl tu wh : Int) (ch : Bool) (who now : Int) : Int :=
  if checkQ n ps cl tu wh ch ≠ 0 then checkQ n ps cl tu wh ch
  else if who ≠ 0 ∧ who ≠ 1 then 2
  else if now < wh then 2
  else if ¬ TimeIn now then 2
  else if cl = 0 then 11
  else if cl = who + 1 then 11
  else if tu = (n : Int) - 1 then 11
  else if 100 ≤ now - wh then 8 else 0
def endsQ (n : Nat) (ps : List (Int × Int)) (cl tu wh : Int) (ch : Bool) (now : Int) : Int :=
  if checkQ n ps cl tu wh ch ≠ 0 then checkQ n ps cl tu wh ch
  else if now < wh then 2
  else if ¬ TimeIn now then 2
  else if cl = 0 then 11
  else if now - wh < 100 ∧ ch = false then 8 else 0
def turnAt (ps : List (Int × Int)) (tu : Int) : Int × Int := ps.getD tu.toNat (0, 0)
def endsD (ps : List (Int × Int)) (cl tu : Int) (ch : Bool) : Int × Int :=
  if ch = true then (if cl = 1 then (0, (turnAt ps tu).1 + (turnAt ps tu).2) else ((turnAt ps tu).1 + (turnAt ps tu).2, 0)) else turnAt ps tu
theorem errV_8 : errV 8 = .iface 26 (.int .i64 8) := by simp [errV]
/-- Channels that a function tells: right turns, or the fault. -/
def PostCh (q : Int) (n : Nat) (ps : List (Int × Int)) (cl tu wh : Int) (ch : Bool) (w : World) (e : Ending) (w' : World) : Prop := Below w.heap.size w w' ∧
  ((q = 0 ∧ ∃ A' c', e = .returned (.tuple #[chV A' n c' cl tu wh ch, .nilIface]) ∧ PSl w' w'.heap.size A' n ps ∧ Far w.heap.size A') ∨
   (q ≠ 0 ∧ e = .returned (.tuple #[chV none 0 0 0 0 0 false, errV q])))
theorem PSl.ownR {w : World} {base : Nat} {A : Option Addr} {n c : Nat} {ps : List (Int × Int)} (h : w.ownsRow base 30 2 (.slice A n c) n (flat ps)) : PSl w w.heap.size A n ps ∧ Far base A := by
  refine ⟨Sl.own h, fun b o e => ?_⟩
  subst e
  exact own_block_ge h b rfl
end Go.Proofs.YtpkclbemgmaahaaDoor
