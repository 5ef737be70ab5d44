/- lane.turns: what is wrong with turns. No condition. -/
import Derived.Test.YtpkclbemgmaahaaDoorMem
import Derived.Deep.QuietTactic
import Derived.BigQuiet
namespace Go.Proofs.YtpkclbemgmaahaaDoor
open Go.RowKit Go.ChangeShapes Go.WideShapes Go.ChangeAt

def MoneyIn (n : Int) : Prop := 0 ≤ n ∧ n ≤ 1125899906842624
def TimeIn (n : Int) : Prop := 0 ≤ n ∧ n ≤ 1073741824
/-- The cells of turns, one behind the other. -/
def flat (ps : List (Int × Int)) : List Value := ps.flatMap fun p => [.int .i64 p.1, .int .i64 p.2]
/-- A slice of pairs. -/
def PSl (w : World) (B : Nat) (A : Option Addr) (n : Nat) (ps : List (Int × Int)) : Prop := Sl w B 2 A n (flat ps)

theorem flat_len (ps : List (Int × Int)) : (flat ps).length = ps.length * 2 := by
  induction ps with
  | nil => rfl
  | cons p r ih => simp [flat] at ih ⊢; omega
theorem flat_get (ps : List (Int × Int)) {k : Nat} (h : k < ps.length) : (flat ps)[2 * k]? = some (.int .i64 (ps.getD k (0, 0)).1) ∧ (flat ps)[2 * k + 1]? = some (.int .i64 (ps.getD k (0, 0)).2) := by
  induction ps generalizing k with
  | nil => simp at h
  | cons p r ih =>
    cases k with
    | zero => simp [flat]
    | succ j =>
      have := ih (k := j) (by simpa using h)
      simp only [flat, List.flatMap_cons] at this ⊢
      rw [show 2 * (j + 1) = 2 * j + 1 + 1 by omega]
      simpa using this
theorem PSl.len {w : World} {B n : Nat} {A : Option Addr} {ps : List (Int × Int)} (h : PSl w B A n ps) : ps.length = n := by
  have := Sl.len h
  rw [flat_len] at this
  omega
theorem PSl.at_ {w : World} {B n : Nat} {A : Option Addr} {ps : List (Int × Int)} (h : PSl w B A n ps) {k : Nat} (hk : k < n) :
    ∃ b off, A = some ⟨b, off, none⟩ ∧ b < B ∧ w.cell? ⟨b, off + k * 2, none⟩ = some (.int .i64 (ps.getD k (0, 0)).1) ∧ w.cell? ⟨b, off + k * 2 + 1, none⟩ = some (.int .i64 (ps.getD k (0, 0)).2) := by
  obtain ⟨b, off, e, hb, hc⟩ := Sl.cells h (by omega)
  obtain ⟨h0, h1⟩ := flat_get ps (k := k) (by rw [h.len]; exact hk)
  have c0 := hc _ _ h0
  have c1 := hc _ _ h1
  exact ⟨b, off, e, hb, by rw [show k * 2 = 2 * k by omega]; exact c0, by rw [show off + k * 2 + 1 = off + (2 * k + 1) by omega]; exact c1⟩

instance (n : Int) : Decidable (MoneyIn n) := inferInstanceAs (Decidable (_ ∧ _))
/-- What is wrong with turns whose first one's sum is s (0: nothing). -/
def turnsFrom (s : Int) : List (Int × Int) → Int
  | [] => 0
  | p :: r => if MoneyIn p.1 then (if MoneyIn p.2 then (if p.1 + p.2 = s then turnsFrom s r else 9) else 2) else 2
def turnsQ (n : Nat) (ps : List (Int × Int)) : Int :=
  if n < 1 ∨ 50 < n then 3 else turnsFrom ((ps.getD 0 (0, 0)).1 + (ps.getD 0 (0, 0)).2) ps
def errV (k : Int) : Value := if k = 0 then .nilIface else .iface 26 (.int .i64 k)
theorem errV_0 : errV 0 = .nilIface := by simp [errV]
theorem errV_2 : errV 2 = .iface 26 (.int .i64 2) := by simp [errV]
theorem errV_3 : errV 3 = .iface 26 (.int .i64 3) := by simp [errV]
theorem errV_9 : errV 9 = .iface 26 (.int .i64 9) := by simp [errV]
theorem Tryd.idx0 (a b : Int) (w : World) : (Instr.index 30 (.agg #[.int .i64 a, .int .i64 b]) (.int .i64 0)).run Tryd.prog w = .ok (.int .i64 a) w := by kernel_rfl
theorem Tryd.idx1 (a b : Int) (w : World) : (Instr.index 30 (.agg #[.int .i64 a, .int .i64 b]) (.int .i64 1)).run Tryd.prog w = .ok (.int .i64 b) w := by kernel_rfl
def PostErrV (k : Int) (w : World) (e : Ending) (w' : World) : Prop := e = .returned (errV k) ∧ Below w.heap.size w w'

theorem postErrV_0 {w : World} : PostErrV 0 w = fun e w' => e = .returned .nilIface ∧ Below w.heap.size w w' := by unfold PostErrV; rw [errV_0]
theorem turnsFrom_drop {s : Int} {ps : List (Int × Int)} {k : Nat} (h : k < ps.length) : turnsFrom s (ps.drop k) =
    if MoneyIn (ps.getD k (0, 0)).1 then (if MoneyIn (ps.getD k (0, 0)).2 then (if (ps.getD k (0, 0)).1 + (ps.getD k (0, 0)).2 = s then turnsFrom s (ps.drop (k + 1)) else 9) else 2) else 2 := by
  rw [List.drop_eq_getElem_cons h]
  simp only [turnsFrom, List.getD_eq_getElem?_getD, List.getElem?_eq_getElem h, Option.getD_some]

set_option maxHeartbeats 4000000 in
set_option maxRecDepth 100000 in
theorem turns_any (ps : List (Int × Int)) (A : Option Addr) (n c : Nat) (w : World) (hp : PSl w w.heap.size A n ps) :
    Calls Tryd.prog 22 #[.slice A n c] w (PostErrV (turnsQ n ps) w) := by
  have hlen := hp.len
  have j0 := Tryd.idx0
  have j1 := Tryd.idx1
  by_cases a0 : n < 1
  · have h : turnsQ n ps = 3 := by unfold turnsQ; rw [if_pos (.inl a0)]
    rw [h]
    clear h
    have a0' : (n : Int) < 1 := by omega
    obtain rfl : n = 0 := by omega
    go_enter Tryd.func22, Tryd.ntmps22
    go_wp2
    go_ret
    exact ⟨rfl, Below.refl _ _⟩
  by_cases a1 : 50 < n
  · have h : turnsQ n ps = 3 := by unfold turnsQ; rw [if_pos (.inr a1)]
    rw [h]
    clear h
    have a0' : (1 : Int) ≤ (n : Int) := by omega
    have a1' : (50 : Int) < (n : Int) := by omega
    go_enter Tryd.func22, Tryd.ntmps22
    go_wp2
    go_ret
    exact ⟨rfl, Below.refl _ _⟩
  have h : turnsQ n ps = turnsFrom ((ps.getD 0 (0, 0)).1 + (ps.getD 0 (0, 0)).2) ps := by unfold turnsQ; rw [if_neg (by omega)]
  rw [h]
  clear h
  have w1' : ((n : Int) < 1) = False := by simp only [eq_iff_iff, iff_false]; omega
  have w2' : ((50 : Int) < (n : Int)) = False := by simp only [eq_iff_iff, iff_false]; omega
  have a0' : (1 : Int) ≤ (n : Int) := by omega
  have a1' : (n : Int) ≤ 50 := by omega
  go_enter Tryd.func22, Tryd.ntmps22
  go_wp2_with fail
  go_loopw [19] (fun v19 wr => ∃ (k : Nat), k ≤ n ∧ v19 = .int .i64 k ∧ Below w.heap.size w wr ∧ Hid (0 < k → MoneyIn (ps.getD 0 (0, 0)).1 ∧ MoneyIn (ps.getD 0 (0, 0)).2) ∧ Hid (turnsFrom ((ps.getD 0 (0, 0)).1 + (ps.getD 0 (0, 0)).2) ps = turnsFrom ((ps.getD 0 (0, 0)).1 + (ps.getD 0 (0, 0)).2) (ps.drop k))) (fun v19 _ => n - (intOf v19).toNat)
  case atStart => exact ⟨0, Nat.zero_le _, rfl, Below.refl _ _, aside (fun h => absurd h (by decide)), aside rfl⟩
  case round =>
    obtain ⟨k, hk, rfl, hb, HK, HT⟩ := hrel
    have hbz := hb.size
    by_cases k1 : k < n
    · have HD := turnsFrom_drop (s := (ps.getD 0 (0, 0)).1 + (ps.getD 0 (0, 0)).2) (ps := ps) (k := k) (by omega)
      obtain ⟨b, off, rfl, hlt, c0, c1⟩ := hp.at_ k1
      obtain ⟨b', off', hA, _, f0, f1⟩ := hp.at_ (k := 0) (by omega)
      obtain ⟨rfl, rfl⟩ : b' = b ∧ off' = off := by
        injection hA with hA
        injection hA with h1 h2
        exact ⟨h1.symm, h2.symm⟩
      clear hA
      simp only [Nat.zero_mul, Nat.add_zero] at f0 f1
      have HP : k = 0 → ps.getD k (0, 0) = ps.getD 0 (0, 0) := fun h => by rw [h]
      generalize ps.getD k (0, 0) = p at c0 c1 HD HP
      generalize ps.getD 0 (0, 0) = q at f0 f1 HD HT HK HP ⊢
      obtain ⟨x, y⟩ := p
      obtain ⟨x0, y0⟩ := q
      simp only [] at c0 c1 f0 f1 HD HT HK
      have HPa := aside HP
      clear HP
      have d0 := (hb.cell (p := ⟨b', off' + k * 2, none⟩) hlt).trans c0
      have d1 := (hb.cell (p := ⟨b', off' + k * 2 + 1, none⟩) hlt).trans c1
      have g0 := (hb.cell (p := ⟨b', off', none⟩) hlt).trans f0
      have g1 := (hb.cell (p := ⟨b', off' + 1, none⟩) hlt).trans f1
      have l0 : b' < wr.heap.size := by omega
      clear c0 c1 f0 f1
      have i1 : (k : Int) < (n : Int) := by omega
      have i4 : (0 : Int) ≤ (k : Int) := by omega
      have HE := aside HD
      clear HD
      by_cases m0 : MoneyIn x
      · have HM0 := aside m0
        obtain ⟨ma, mb⟩ := m0
        by_cases m1 : MoneyIn y
        · have HM1 := aside m1
          obtain ⟨mc, md⟩ := m1
          have hq : MoneyIn x0 ∧ MoneyIn y0 := by
            by_cases h0 : 0 < k
            · exact HK.out h0
            · have := HPa.out (by omega)
              injection this with h1 h2
              subst h1 h2
              exact ⟨HM0.out, HM1.out⟩
          have HQ := aside hq
          obtain ⟨⟨me, mf⟩, mg, mh⟩ := hq
          have ws1 : wrap64 (x + y) = x + y := by unfold wrap64; omega
          have ws2 : wrap64 (x0 + y0) = x0 + y0 := by unfold wrap64; omega
          go_wp2
          all_goals try (refine wp_loop_rounds 3 ?_; rw [rounds_succ]; go_wp2)
          all_goals try (rw [rounds_succ]; go_wp2)
          all_goals try (rw [rounds_succ]; go_wp2)
          by_cases hs : x + y = x0 + y0
          · have HS := aside hs
            have bs : (x + y != x0 + y0) = false := by simp [hs]
            clear hs
            obtain ⟨V, hV, r0, r1, r2, r3, BV⟩ : ∃ V, V = wr.alloc (.cells #[.int .i64 x, .int .i64 y] 30) ∧ V.cell? ⟨wr.heap.size, 0, none⟩ = some (.int .i64 x) ∧ V.cell? ⟨wr.heap.size, 1, none⟩ = some (.int .i64 y) ∧ V.cell? ⟨b', off', none⟩ = some (.int .i64 x0) ∧ V.cell? ⟨b', off' + 1, none⟩ = some (.int .i64 y0) ∧ Below w.heap.size w V :=
              ⟨_, rfl, World.cell?_alloc_at _ _ _ _ rfl, World.cell?_alloc_at _ _ _ _ rfl, (World.cell?_alloc_lt _ _ ⟨b', off', none⟩ l0).trans g0, (World.cell?_alloc_lt _ _ ⟨b', off' + 1, none⟩ l0).trans g1, hb.alloc hbz _⟩
            rw [← hV]
            clear hV d0 d1 g0 g1
            go_quiet (fail)
            go_wp2
            exact ⟨⟨k + 1, by omega, rfl, ⟨BV.os, BV.tape, BV.output, BV.size, BV.block⟩, aside (fun _ => HQ.out), aside (by rw [HT.out, HE.out, if_pos HM0.out, if_pos HM1.out, if_pos HS.out])⟩, by simp [intOf]; omega⟩
          · have HS := aside hs
            have bs : (x + y != x0 + y0) = true := by simpa using hs
            clear hs
            obtain ⟨V, hV, r0, r1, r2, r3, BV⟩ : ∃ V, V = wr.alloc (.cells #[.int .i64 x, .int .i64 y] 30) ∧ V.cell? ⟨wr.heap.size, 0, none⟩ = some (.int .i64 x) ∧ V.cell? ⟨wr.heap.size, 1, none⟩ = some (.int .i64 y) ∧ V.cell? ⟨b', off', none⟩ = some (.int .i64 x0) ∧ V.cell? ⟨b', off' + 1, none⟩ = some (.int .i64 y0) ∧ Below w.heap.size w V :=
              ⟨_, rfl, World.cell?_alloc_at _ _ _ _ rfl, World.cell?_alloc_at _ _ _ _ rfl, (World.cell?_alloc_lt _ _ ⟨b', off', none⟩ l0).trans g0, (World.cell?_alloc_lt _ _ ⟨b', off' + 1, none⟩ l0).trans g1, hb.alloc hbz _⟩
            rw [← hV]
            clear hV d0 d1 g0 g1
            go_quiet (fail)
            go_wp2
            go_ret
            exact ⟨by rw [HT.out, HE.out, if_pos HM0.out, if_pos HM1.out, if_neg HS.out, errV_9]; rfl, ⟨BV.os, BV.tape, BV.output, BV.size, BV.block⟩⟩
        · have HM1 := aside m1
          have hway : y < 0 ∨ (0 ≤ y ∧ 1125899906842624 < y) := by unfold MoneyIn at m1; omega
          clear m1
          have BV := hb.alloc hbz (.cells #[.int .i64 x, .int .i64 y] 30)
          rcases hway with m1 | ⟨m1, m2⟩
          all_goals go_wp2
          all_goals try (refine wp_loop_rounds 3 ?_; rw [rounds_succ]; go_wp2)
          all_goals try (rw [rounds_succ]; go_wp2)
          all_goals try (rw [rounds_succ]; go_wp2)
          all_goals go_ret
          all_goals exact ⟨by rw [HT.out, HE.out, if_pos HM0.out, if_neg HM1.out, errV_2]; rfl, BV⟩
      · have HM0 := aside m0
        have hway : x < 0 ∨ (0 ≤ x ∧ 1125899906842624 < x) := by unfold MoneyIn at m0; omega
        clear m0
        have BV := hb.alloc hbz (.cells #[.int .i64 x, .int .i64 y] 30)
        rcases hway with m1 | ⟨m1, m2⟩
        all_goals go_wp2
        all_goals try (refine wp_loop_rounds 3 ?_; rw [rounds_succ]; go_wp2)
        all_goals try (rw [rounds_succ]; go_wp2)
        all_goals try (rw [rounds_succ]; go_wp2)
        all_goals go_ret
        all_goals exact ⟨by rw [HT.out, HE.out, if_neg HM0.out, errV_2]; rfl, BV⟩
    · have i1 : ((k : Int) < (n : Int)) = False := by simp only [eq_iff_iff, iff_false]; omega
      obtain rfl : k = n := by omega
      have hz : turnsFrom ((ps.getD 0 (0, 0)).1 + (ps.getD 0 (0, 0)).2) ps = 0 := by
        rw [HT.out, List.drop_of_length_le (by omega)]
        rfl
      have HZ := aside hz
      clear hz k1
      go_wp2
      go_ret
      exact ⟨by rw [HZ.out, errV_0]; rfl, hb⟩
end Go.Proofs.YtpkclbemgmaahaaDoor
