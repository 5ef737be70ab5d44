/- money.Sum of two, money.Add, lane.New, slices.Clone of turns. No condition but that the slice is not empty. -/
import Derived.Test.YtpkclbemgmaahaaDoorLaneC
import Derived.Lib.SliceRun
namespace Go.Proofs.YtpkclbemgmaahaaDoor
open Go.RowKit Go.ChangeShapes Go.WideShapes Go.ChangeAt

/-- What is wrong with two amounts (0: nothing). -/
def addQ (a b : Int) : Int := if MoneyIn a then (if MoneyIn b then (if 1125899906842624 < a + b then 4 else 0) else 2) else 2
def PostAdd (a b : Int) (w : World) (e : Ending) (w' : World) : Prop :=
  (∃ r, e = .returned (.tuple #[.int .i64 r, errV (addQ a b)])) ∧ Below w.heap.size w w'
theorem errV_4 : errV 4 = .iface 26 (.int .i64 4) := by simp [errV]

set_option maxHeartbeats 4000000 in
set_option maxRecDepth 100000 in
theorem sum_two (a b : Int) (g c : Nat) (w : World) (c0 : w.cell? ⟨g, 0, none⟩ = some (.int .i64 a)) (c1 : w.cell? ⟨g, 1, none⟩ = some (.int .i64 b)) :
    Calls Tryd.prog 27 #[.slice (some ⟨g, 0, none⟩) 2 c] w (PostAdd a b w) := by
  by_cases m0 : MoneyIn a
  · by_cases m1 : MoneyIn b
    · have HM0 := aside m0
      have HM1 := aside m1
      obtain ⟨ma, mb⟩ := m0
      obtain ⟨mc, md⟩ := m1
      have ws0 : wrap64 (0 + a) = a := by unfold wrap64; omega
      have ws1 : wrap64 (a + b) = a + b := by unfold wrap64; omega
      by_cases m2 : 1125899906842624 < a + b
      · have HE : addQ a b = 4 := by unfold addQ; rw [if_pos HM0.out, if_pos HM1.out, if_pos m2]
        have HE := aside HE
        go_enter Tryd.func27, Tryd.ntmps27
        go_wp2_with fail
        refine wp_loop_rounds 3 ?_; rw [rounds_succ]; go_wp2
        rw [rounds_succ]; go_wp2
        refine bodyPost_ret (v := .tuple #[.int .i64 0, .iface 26 (.int .i64 4)]) (by simp only [results, Tryd.results27]; go_simp) rfl ?_
        exact ⟨⟨_, by rw [HE.out, errV_4]⟩, Below.refl _ _⟩
      · have HE : addQ a b = 0 := by unfold addQ; rw [if_pos HM0.out, if_pos HM1.out, if_neg m2]
        have HE := aside HE
        have m2' : a + b ≤ 1125899906842624 := by omega
        clear m2
        go_enter Tryd.func27, Tryd.ntmps27
        go_wp2_with fail
        refine wp_loop_rounds 3 ?_; rw [rounds_succ]; go_wp2
        rw [rounds_succ]; go_wp2
        rw [rounds_succ]; go_wp2
        refine bodyPost_ret (v := .tuple #[.int .i64 (a + b), .nilIface]) (by simp only [results, Tryd.results27]; go_simp) rfl ?_
        exact ⟨⟨_, by rw [HE.out, errV_0]⟩, Below.refl _ _⟩
    · have HE : addQ a b = 2 := by unfold addQ; rw [if_pos m0, if_neg m1]
      have HE := aside HE
      obtain ⟨ma, mb⟩ := m0
      have ws0 : wrap64 (0 + a) = a := by unfold wrap64; omega
      have hway : b < 0 ∨ (0 ≤ b ∧ 1125899906842624 < b) := by unfold MoneyIn at m1; omega
      clear m1
      rcases hway with m1 | ⟨m1, m2⟩
      all_goals go_enter Tryd.func27, Tryd.ntmps27
      all_goals go_wp2_with fail
      all_goals (refine wp_loop_rounds 3 ?_; rw [rounds_succ]; go_wp2)
      all_goals (rw [rounds_succ]; go_wp2)
      all_goals refine bodyPost_ret (v := .tuple #[.int .i64 0, .iface 26 (.int .i64 2)]) (by simp only [results, Tryd.results27]; go_simp) rfl ?_
      all_goals exact ⟨⟨_, by rw [HE.out, errV_2]⟩, Below.refl _ _⟩
  · have HE : addQ a b = 2 := by unfold addQ; rw [if_neg m0]
    have HE := aside HE
    have hway : a < 0 ∨ (0 ≤ a ∧ 1125899906842624 < a) := by unfold MoneyIn at m0; omega
    clear m0
    rcases hway with m1 | ⟨m1, m2⟩
    all_goals go_enter Tryd.func27, Tryd.ntmps27
    all_goals go_wp2_with fail
    all_goals (refine wp_loop_rounds 3 ?_; rw [rounds_succ]; go_wp2)
    all_goals refine bodyPost_ret (v := .tuple #[.int .i64 0, .iface 26 (.int .i64 2)]) (by simp only [results, Tryd.results27]; go_simp) rfl ?_
    all_goals exact ⟨⟨_, by rw [HE.out, errV_2]⟩, Below.refl _ _⟩

/-- A channel's value. -/
def chV (A : Option Addr) (n c : Nat) (cl tu wh : Int) (ch : Bool) : Value := .agg #[.slice A n c, .int .i64 cl, .int .i64 tu, .int .i64 wh, .bool ch]
/-- The address is of a block that is at or behind N. -/
def Far (N : Nat) (A : Option Addr) : Prop := ∀ b o, A = some ⟨b, o, none⟩ → N ≤ b

def PostNew (a b : Int) (w : World) (e : Ending) (w' : World) : Prop := Below w.heap.size w w' ∧
  ((addQ a b = 0 ∧ ∃ A c, e = .returned (.tuple #[chV A 1 c 0 0 0 false, .nilIface]) ∧ PSl w' w'.heap.size A 1 [(a, b)] ∧ Far w.heap.size A) ∨
   (addQ a b ≠ 0 ∧ e = .returned (.tuple #[chV none 0 0 0 0 0 false, errV (addQ a b)])))

set_option maxHeartbeats 4000000 in
set_option maxRecDepth 100000 in
theorem add_any (a b : Int) (w : World) : Calls Tryd.prog 20 #[.int .i64 a, .int .i64 b] w (PostAdd a b w) := by
  go_enter Tryd.func20, Tryd.ntmps20
  go_wp2_with fail
  refine (sum_two a b _ _ _ (World.cell?_alloc_at _ _ _ _ rfl) (World.cell?_alloc_at _ _ _ _ rfl)).mono ?_
  rintro e w1 ⟨⟨r, rfl⟩, hb⟩
  have hB : Below w.heap.size w w1 := ((Below.refl _ _).alloc (Nat.le_refl _) _).trans (hb.mono (by simp))
  have HB := aside hB
  clear hb hB
  go_wp2
  refine bodyPost_ret (v := .tuple #[.int .i64 r, errV (addQ a b)]) (by simp only [results, Tryd.results20]; go_simp) rfl ?_
  exact ⟨⟨_, rfl⟩, HB.out⟩

set_option maxHeartbeats 4000000 in
set_option maxRecDepth 100000 in
theorem new_any (a b : Int) (w : World) : Calls Tryd.prog 6 #[.int .i64 a, .int .i64 b] w (PostNew a b w) := by
  go_enter Tryd.func6, Tryd.ntmps6
  go_wp2_with fail
  refine (add_any a b _).mono ?_
  rintro e w1 ⟨⟨r, rfl⟩, hb⟩
  have hB : Below w.heap.size w w1 := ((Below.refl _ _).alloc (Nat.le_refl _) _).trans (hb.mono (by simp))
  obtain ⟨hc1, hf1⟩ := bcell hb
  have hz := hb.size
  simp only [World.size_alloc] at hz hc1 hf1
  have k1 : w.heap.size < w1.heap.size := by omega
  have k3 : w.heap.size < w.heap.size + 1 := by omega
  have HB := aside hB
  clear hB hb
  by_cases hq : addQ a b = 0
  · have HQ := aside hq
    rw [hq, errV_0]
    clear hq
    go_wp2
    refine bodyPost_ret (v := .tuple #[chV (some ⟨w1.heap.size, 0, none⟩) 1 1 0 0 0 false, .nilIface]) (by simp only [results, Tryd.results6, chV]; go_simp) rfl ?_
    refine ⟨?_, .inl ⟨HQ.out, _, 1, rfl, ⟨by simp [flat], fun _ => ⟨_, 0, rfl, by simp, ?_⟩⟩, ?_⟩⟩
    · refine Below.alloc ?_ (by simp; omega) _
      iterate 5 refine Below.setCell ?_ (by exact Nat.le_refl _) _
      exact HB.out
    · intro j u hj
      rw [Nat.zero_add]
      refine (World.cell?_alloc_at _ _ _ _ (by simp)).trans ?_
      simpa [flat] using hj
    · intro b o h
      injection h with h
      injection h with h1 h2
      omega
  · have HQ := aside hq
    rw [errV_ne hq]
    clear hq
    go_wp2
    refine bodyPost_ret (v := .tuple #[chV none 0 0 0 0 0 false, .iface 26 (.int .i64 (addQ a b))]) (by simp only [results, Tryd.results6, chV]; go_simp) rfl ?_
    refine ⟨?_, .inr ⟨HQ.out, by rw [errV_ne HQ.out]⟩⟩
    iterate 5 refine Below.setCell ?_ (by exact Nat.le_refl _) _
    exact HB.out

theorem pairInfo : (Tryd.prog.info? 30).map (fun i => (i.zero, i.size, i.bytes)) = some (some (.agg #[.int .i64 0, .int .i64 0]), 2, 16) := by kernel_rfl
theorem flat_one (ps : List (Int × Int)) : ∀ u ∈ flat ps, u.oneCell' = true := by
  intro u hu
  simp only [flat, List.mem_flatMap, List.mem_cons, List.not_mem_nil, or_false] at hu
  obtain ⟨p, _, rfl | rfl⟩ := hu <;> rfl
/-- A row of pairs of the call's own. -/
def PRow (w : World) (base : Nat) (v : Value) (ps : List (Int × Int)) : Prop := w.ownsRow base 30 2 v ps.length (flat ps)
def PostClone (ps : List (Int × Int)) (n : Nat) (w : World) (e : Ending) (w' : World) : Prop :=
  ∃ A c, e = .returned (.slice A n c) ∧ w'.ownsRow w.heap.size 30 2 (.slice A n c) n (flat ps) ∧ Below w.heap.size w w'

set_option maxHeartbeats 4000000 in
set_option maxRecDepth 100000 in
theorem clone_any (ps : List (Int × Int)) (A : Option Addr) (n c : Nat) (w : World) (hp : PSl w w.heap.size A n ps) (h1 : 1 ≤ n) (hn : n ≤ 50) :
    Calls Tryd.prog 26 #[.slice A n c] w (PostClone ps n w) := by
  have q22 : ∀ (w : World) (a : Option Addr) (n c n' c' : Nat), (binOp .eql 22 (.slice a n c) (.slice none n' c')).run Tryd.prog w = .ok (.bool a.isNone) w := fun w a n c n' c' => Lib.run_eql_slice_nil w _ _ a n c n' c' Tryd.underlying22
  obtain ⟨b, off, rfl, _, _⟩ := hp.at_ (k := 0) (by omega)
  go_enter Tryd.func26, Tryd.ntmps26
  go_wp2_with (at_builtin; refine wpList_concat rfl _ _ 22 rfl w.heap.size (.agg #[.int .i64 0, .int .i64 0]) 2 16 Tryd.underlying22 pairInfo rfl (by decide) _ 0 [] rfl (World.ownsRow_made w #[] 0 (Nat.le_refl _) (Nat.zero_le _) rfl) w.heap.size (some ⟨b, off, none⟩) n c (flat ps) rfl (Sl.alloc hp (Nat.le_refl _) _) (flat_one ps) (by omega) (by unfold maxLen; omega) (by simp) ?_)
  intro A' c' w1 hc1 hc2 hown hb _
  have HO := aside hown
  have HB := aside (((Below.refl w.heap.size w).alloc (Nat.le_refl _) _).trans hb)
  clear hown hb q22
  try simp only [Nat.zero_add, List.nil_append] at HO ⊢
  go_wp2
  go_ret
  exact ⟨_, _, rfl, HO.out, HB.out⟩
end Go.Proofs.YtpkclbemgmaahaaDoor
