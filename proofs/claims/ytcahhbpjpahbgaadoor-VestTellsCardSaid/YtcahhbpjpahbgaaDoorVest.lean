/- The walks of vest.Check and vest.At: what each returns for every grant and every time. No condition: every int. -/
import Derived.Test.YtcahhbpjpahbgaaDoorFrame
import Derived.Lib.SmallJoins
namespace Go.Proofs.YtcahhbpjpahbgaaDoor
open Go.RowKit Go.ChangeShapes Go.WideShapes Go.ChangeAt

def GOk (t s c l : Int) : Prop := 0 ≤ t ∧ t ≤ 1073741824 ∧ 0 ≤ s ∧ s ≤ 1073741824 ∧ 0 ≤ c ∧ c ≤ 1073741824 ∧ 0 ≤ l ∧ l ≤ 1073741824 ∧ l ≠ 0 ∧ c ≤ l

def NilOr (ok : Prop) (k : Int) (v : Value) : Prop := (ok ∧ v = .nilIface) ∨ (¬ ok ∧ v = .iface 26 (.int .i64 k))

def grantV (t s c l : Int) : Array Value := #[.int .i64 t, .int .i64 s, .int .i64 c, .int .i64 l]

def PostCheck (t s c l : Int) (w : World) (e : Ending) (w' : World) : Prop :=
  ∃ v, e = .returned v ∧ NilOr (GOk t s c l) 2 v ∧ w.alloc (.cells #[.int .i64 t, .int .i64 s, .int .i64 c, .int .i64 l] 23) = w'

set_option maxHeartbeats 1000000 in
theorem check_any (t s c l : Int) (w : World) : Calls Tryd.prog 7 #[.agg #[.int .i64 t, .int .i64 s, .int .i64 c, .int .i64 l]] w (PostCheck t s c l w) := by
  by_cases hl : l = 0
  · subst hl
    go_enter Tryd.func7, Tryd.ntmps7
    go_wp2
    all_goals go_ret
    all_goals refine ⟨_, rfl, ?_, rfl⟩
    all_goals exact .inr ⟨by unfold GOk; omega, rfl⟩
  · have hl' : (l == 0) = false := by simpa using hl
    go_enter Tryd.func7, Tryd.ntmps7
    go_wp2
    all_goals go_ret
    all_goals refine ⟨_, rfl, ?_, rfl⟩
    all_goals first | exact .inl ⟨by unfold GOk; omega, rfl⟩ | exact .inr ⟨by unfold GOk; omega, rfl⟩

/-- What 'At' tells of a right grant at a time. -/
def vested (t s c l now : Int) : Int := if now - s < c then 0 else if l ≤ now - s then t else t * (now - s) / l
theorem vested_early {t s c l now : Int} (h : now - s < c) : vested t s c l now = 0 := by unfold vested; rw [if_pos h]
theorem vested_all {t s c l now : Int} (h : c ≤ now - s) (h' : l ≤ now - s) : vested t s c l now = t := by unfold vested; rw [if_neg (by omega), if_pos h']
theorem vested_mid {t s c l now : Int} (h : c ≤ now - s) (h' : now - s < l) : vested t s c l now = t * (now - s) / l := by unfold vested; rw [if_neg (by omega), if_neg (by omega)]

def AtOk (t s c l now : Int) : Prop := GOk t s c l ∧ 0 ≤ now ∧ now ≤ 4294967296

def PostAt (t s c l now : Int) (w : World) (e : Ending) (w' : World) : Prop :=
  ∃ n v, e = .returned (.tuple #[.int .i64 n, v]) ∧ ((AtOk t s c l now ∧ v = .nilIface ∧ n = vested t s c l now) ∨ (¬ AtOk t s c l now ∧ v = .iface 26 (.int .i64 2) ∧ n = 0)) ∧ Below w.heap.size w w'

theorem mul_bd (t g l : Int) (ht : 0 ≤ t) (ht' : t ≤ 1073741824) (hg : 0 ≤ g) (hl : g < l) (hl' : l ≤ 1073741824) : 0 ≤ t * g ∧ t * g ≤ 1152921504606846976 := by
  refine ⟨Int.mul_nonneg ht hg, ?_⟩
  calc t * g ≤ 1073741824 * 1073741824 := Int.mul_le_mul ht' (by omega) hg (by omega)
    _ = _ := by decide

theorem within_yes (n m : Int) (w : World) (h0 : 0 ≤ n) (h1 : n ≤ m) : Calls Tryd.prog 14 #[.int .i64 n, .int .i64 m] w fun e w' => e = .returned (.bool true) ∧ w = w' := by
  have h := decide_eq_true h1
  go_enter Tryd.func14, Tryd.ntmps14
  go_wp2
  all_goals go_ret
  exact ⟨by simp, rfl⟩

theorem within_no (n m : Int) (w : World) (h : n < 0 ∨ m < n) : Calls Tryd.prog 14 #[.int .i64 n, .int .i64 m] w fun e w' => e = .returned (.bool false) ∧ w = w' := by
  rcases h with h | h
  · go_enter Tryd.func14, Tryd.ntmps14
    go_wp2
    go_ret
    exact ⟨rfl, rfl⟩
  · have h2 : decide (n ≤ m) = false := by simp; omega
    go_enter Tryd.func14, Tryd.ntmps14
    go_wp2
    all_goals go_ret
    · exact ⟨by simp, rfl⟩
    · exact ⟨rfl, rfl⟩

set_option maxHeartbeats 1000000 in
theorem at_any (t s c l now : Int) (w : World) : Calls Tryd.prog 9 #[.agg #[.int .i64 t, .int .i64 s, .int .i64 c, .int .i64 l], .int .i64 now] w (PostAt t s c l now w) := by
  go_enter Tryd.func9, Tryd.ntmps9
  go_wp2_with fail
  refine (check_any t s c l _).mono ?_
  rintro e w1 ⟨v, rfl, ⟨hok, rfl⟩ | ⟨hno, rfl⟩, rfl⟩
  · have hok' := hok
    obtain ⟨h1, h2, h3, h4, h5, h6, h7, h8, h9, h10⟩ := hok'
    clear h9
    by_cases hn : 0 ≤ now ∧ now ≤ 4294967296
    · obtain ⟨hn1, hn2⟩ := hn
      by_cases hc : now - s < c
      · go_wp2_with (go_at_call 14; refine (within_yes _ _ _ hn1 hn2).mono ?_; rintro e w' ⟨rfl, rfl⟩)
        go_ret2
        go_tidy
        exact ⟨_, _, rfl, .inl ⟨⟨hok, hn1, hn2⟩, rfl, (vested_early hc).symm⟩, ((Below.refl _ _).alloc (Nat.le_refl _) _).alloc (by simp) _⟩
      · by_cases hl : l ≤ now - s
        · go_wp2_with (go_at_call 14; refine (within_yes _ _ _ hn1 hn2).mono ?_; rintro e w' ⟨rfl, rfl⟩)
          go_ret2
          go_tidy
          exact ⟨_, _, rfl, .inl ⟨⟨hok, hn1, hn2⟩, rfl, (vested_all (by omega) hl).symm⟩, ((Below.refl _ _).alloc (Nat.le_refl _) _).alloc (by simp) _⟩
        · obtain ⟨hm1, hm2⟩ := mul_bd t (now - s) l h1 h2 (by omega) (by omega) h8
          go_wp2_with (go_at_call 14; refine (within_yes _ _ _ hn1 hn2).mono ?_; rintro e w' ⟨rfl, rfl⟩)
          go_ret2
          go_tidy
          exact ⟨_, _, rfl, .inl ⟨⟨hok, hn1, hn2⟩, rfl, (vested_mid (by omega) (by omega)).symm⟩, ((Below.refl _ _).alloc (Nat.le_refl _) _).alloc (by simp) _⟩
    · have hn' : now < 0 ∨ 4294967296 < now := by omega
      clear hn
      go_wp2_with (go_at_call 14; refine (within_no _ _ _ hn').mono ?_; rintro e w' ⟨rfl, rfl⟩)
      go_ret2
      go_tidy
      exact ⟨_, _, rfl, .inr ⟨fun h => by have := h.2; omega, rfl, rfl⟩, ((Below.refl _ _).alloc (Nat.le_refl _) _).alloc (by simp) _⟩
  · go_wp2
    go_ret2
    go_tidy
    refine ⟨_, _, rfl, .inr ⟨fun h => hno h.1, rfl, rfl⟩, ?_⟩
    exact ((Below.refl _ _).alloc (Nat.le_refl _) _).alloc (by simp) _

/-- The first look of each law: a grant of 100 over 10 has 50 at 5. -/
theorem granted_any (w : World) : Calls Tryd.prog 4 #[] w fun e w' => e = .returned (.bool true) ∧ Below w.heap.size w w' := by
  go_enter Tryd.func4, Tryd.ntmps4
  go_wp2_with fail
  refine (at_any 100 0 0 10 5 _).mono ?_
  rintro e w1 ⟨n, v, rfl, ⟨hok, rfl, rfl⟩ | ⟨hno, rfl, rfl⟩, hb⟩
  · have hv : vested 100 0 0 10 5 = 50 := by decide
    rw [hv]
    go_wp2
    go_ret
    exact ⟨rfl, hb⟩
  · exact absurd (by unfold AtOk GOk; omega) hno
theorem vested_bd (t s c l now : Int) (h : GOk t s c l) : 0 ≤ vested t s c l now ∧ vested t s c l now ≤ t := by
  obtain ⟨h1, h2, h3, h4, h5, h6, h7, h8, h9, h10⟩ := h
  unfold vested
  by_cases h : now - s < c
  · simp [h]; omega
  · by_cases h' : l ≤ now - s
    · simp [h, h']; omega
    · simp only [h, h', if_false]
      have hg : 0 ≤ now - s := by omega
      have hm := Int.mul_nonneg h1 hg
      refine ⟨Int.ediv_nonneg hm h7, ?_⟩
      exact Int.ediv_le_of_le_mul (by omega) (Int.mul_le_mul_of_nonneg_left (by omega) h1)

theorem Tryd.cells23 : Tryd.prog.cellsOf 23 = 4 := by kernel_rfl

/-- A grant that came in: four ints. -/
theorem open_grant {H : Type} {enc : TypeId × Value → H} {W : World} {r : Reach} {b0 base : Nat} {spare : Nat → Bool} {held : Bool} {v : Value} {d : DataW H} {p : List MemPlace}
    (hv : Value.okWide Tryd.prog W r b0 23 v) (h : DataW.Trod enc Tryd.prog W base spare held 23 v d p) :
    ∃ t s c l : Int, v = .agg #[.int .i64 t, .int .i64 s, .int .i64 c, .int .i64 l] := by
  obtain ⟨v0, v1, v2, v3, y0, y1, y2, y3, m, rfl, rfl, rfl, h0, h1, h2, h3⟩ := Joins.open_agg4 Tryd.underlying23 (by kernel_rfl) Tryd.cells23 hv h
  obtain ⟨t, e0, _, _⟩ := DataW.trod_int Tryd.underlying3 h0
  obtain ⟨s, e1, _, _⟩ := DataW.trod_int Tryd.underlying3 h1
  obtain ⟨c, e2, _, _⟩ := DataW.trod_int Tryd.underlying3 h2
  obtain ⟨l, e3, _, _⟩ := DataW.trod_int Tryd.underlying3 h3
  simp at e0 e1 e2 e3
  subst e0 e1 e2 e3
  exact ⟨t, s, c, l, rfl⟩

end Go.Proofs.YtcahhbpjpahbgaaDoor
