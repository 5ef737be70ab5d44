/- What is wrong with a peg: the words. Conditions: named in each theorem. -/
import Derived.Test.YtcmlhopidohimaaDoorPegG
namespace Go.Proofs.YtcmlhopidohimaaDoor
open Go.RowKit Go.ChangeShapes Go.WideShapes Go.ChangeAt

def errP (k : Int) : Value := if k = 0 then .nilIface else .iface 28 (.int .i64 k)
theorem errP_no {k : Int} (h : k ≠ 0) : errP k = .iface 28 (.int .i64 k) := by unfold errP; rw [if_neg h]
def moneyE (a : Int) : Int := if a < 0 ∨ 1125899906842624 < a then 2 else 0
def amtE (a : Int) : Int := if a < 0 ∨ 1125899906842624 < a ∨ a = 0 then 2 else 0
theorem moneyE_zero {a : Int} : moneyE a = 0 ↔ 0 ≤ a ∧ a ≤ 1125899906842624 := by unfold moneyE; split <;> omega
theorem amtE_zero {a : Int} : amtE a = 0 ↔ 0 < a ∧ a ≤ 1125899906842624 := by unfold amtE; split <;> omega
theorem money_any (a : Int) (w : World) : Calls Tryd.prog 23 #[.int .i64 a] w (fun e w' => e = .returned (errP (moneyE a)) ∧ w' = w) := by
  by_cases e1 : a < 0
  · have h : moneyE a = 2 := by unfold moneyE; rw [if_pos (.inl e1)]
    rw [h]
    clear h
    go_enter Tryd.func23, Tryd.ntmps23
    go_wp2
    go_ret
    exact ⟨rfl, rfl⟩
  · have e3 : (a < 0) = False := eq_false e1
    by_cases e2 : (1125899906842624 : Int) < a
    · have h : moneyE a = 2 := by unfold moneyE; rw [if_pos (.inr e2)]
      rw [h]
      clear h e1
      go_enter Tryd.func23, Tryd.ntmps23
      go_wp2
      go_ret
      exact ⟨rfl, rfl⟩
    · have h : moneyE a = 0 := by unfold moneyE; rw [if_neg (by omega)]
      have e4 : ((1125899906842624 : Int) < a) = False := eq_false e2
      rw [h]
      clear h e1 e2
      go_enter Tryd.func23, Tryd.ntmps23
      go_wp2
      go_ret
      exact ⟨rfl, rfl⟩

def pileE (ps : List (Int × Int)) (k : Nat) : Int := if risE keyP (0, 0) ps k ≠ 0 then 6 else amtE (ps.getD k (0, 0)).2
def retE (rs : List (Int × Int × Bool)) (k : Nat) : Int := if risE keyR (0, 0, false) rs k ≠ 0 then 6 else moneyE (rs.getD k (0, 0, false)).2.1
/-- So much lies in piles; so much is on its way back. -/
def sumP (ps : List (Int × Int)) (k : Nat) : Int := ((ps.take k).map (·.2)).sum
def owes (r : Int × Int × Bool) : Int := if r.2.2 then 0 else r.2.1
def sumR (rs : List (Int × Int × Bool)) (k : Nat) : Int := ((rs.take k).map owes).sum
def pegQ (l : Int) (ps : List (Int × Int)) (is : List Int) (rs : List (Int × Int × Bool)) : Int :=
  if 60 < ps.length ∨ 60 < is.length ∨ 60 < rs.length then 4
  else if firstE (pileE ps) ps.length ≠ 0 then firstE (pileE ps) ps.length
  else if firstE (risE keyI 0 is) is.length ≠ 0 then 6
  else if firstE (retE rs) rs.length ≠ 0 then firstE (retE rs) rs.length
  else if sumP ps ps.length + sumR rs rs.length ≠ l then 9 else 0
theorem sumP_next (ps : List (Int × Int)) {k : Nat} (h : k < ps.length) : sumP ps (k + 1) = sumP ps k + (ps.getD k (0, 0)).2 := by
  unfold sumP
  rw [take_next (0, 0) h, List.map_append, List.sum_append]
  simp
theorem sumR_next (rs : List (Int × Int × Bool)) {k : Nat} (h : k < rs.length) : sumR rs (k + 1) = sumR rs k + owes (rs.getD k (0, 0, false)) := by
  unfold sumR
  rw [take_next (0, 0, false) h, List.map_append, List.sum_append]
  simp
theorem flat_drop {α : Type} {enc : α → List Value} {sz : Nat} (h : ∀ a, (enc a).length = sz) : ∀ (xs : List α) (k : Nat), (xs.drop k).flatMap enc = (xs.flatMap enc).drop (k * sz)
  | xs, 0 => by simp
  | [], k + 1 => by simp
  | x :: r, k + 1 => by
    rw [List.drop_succ_cons, flat_drop h r k, List.flatMap_cons, Nat.succ_mul, Nat.add_comm, ← List.drop_drop, List.drop_left' (h x)]
theorem flat_take {α : Type} {enc : α → List Value} {sz : Nat} (h : ∀ a, (enc a).length = sz) : ∀ (xs : List α) (k : Nat), (xs.take k).flatMap enc = (xs.flatMap enc).take (k * sz)
  | xs, 0 => by simp
  | [], k + 1 => by simp
  | x :: r, k + 1 => by
    rw [List.take_succ_cons, List.flatMap_cons, flat_take h r k, List.flatMap_cons, Nat.succ_mul, Nat.add_comm, List.take_append, h x, Nat.add_sub_cancel_left, List.take_of_length_le (l := enc x) (by rw [h x]; omega)]
/-- A part of a slice. -/
theorem FSl.part {α : Type} {enc : α → List Value} {sz : Nat} (h : ∀ a, (enc a).length = sz) {w : World} {B n b off : Nat} {xs : List α} (hs : 0 < sz) (hl : FSl enc sz w B (some ⟨b, off, none⟩) n xs) {k m : Nat} (hk : k + m ≤ n) (hm : 0 < m) :
    FSl enc sz w B (some ⟨b, off + k * sz, none⟩) m ((xs.drop k).take m) := by
  have hlen := FSl.len h hs hl
  obtain ⟨b', off', e, hb, hc⟩ := Sl.cells hl (by omega)
  injection e with e
  injection e with e1 e2
  subst e1 e2
  refine ⟨by rw [flat_len h, List.length_take, List.length_drop, Nat.min_eq_left (by omega)], fun _ => ⟨b, off + k * sz, rfl, hb, fun j u hu => ?_⟩⟩
  rw [flat_take h, flat_drop h] at hu
  have hj := (List.getElem?_eq_some_iff.1 hu).1
  rw [List.length_take] at hj
  rw [List.getElem?_take_of_lt (by omega), List.getElem?_drop] at hu
  rw [Nat.add_assoc]
  exact hc _ _ hu
/-- Two that stand together rise as they do in the whole. -/
theorem ris_two {α : Type} (key : α → Int) (d : α) (xs : List α) (j : Nat) : firstE (risE key d ((xs.drop j).take 2)) 2 = risE key d xs (j + 1) := by
  have g : ∀ q, q < 2 → ((xs.drop j).take 2).getD q d = xs.getD (j + q) d := by
    intro q hq
    rw [List.getD_eq_getElem?_getD, List.getD_eq_getElem?_getD, List.getElem?_take_of_lt hq, List.getElem?_drop]
  have e0 : firstE (risE key d ((xs.drop j).take 2)) 1 = 0 := rfl
  rw [firstE_next e0]
  unfold risE
  rw [g 1 (by decide), g 0 (by decide)]
  simp
end Go.Proofs.YtcmlhopidohimaaDoor
