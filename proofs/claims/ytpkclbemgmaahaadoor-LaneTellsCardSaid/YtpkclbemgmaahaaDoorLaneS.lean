/- What payments leave: plain laws, with no program in sight; and lane.Pay at an open channel. Conditions: named in each theorem. -/
import Derived.Test.YtpkclbemgmaahaaDoorLaneL
namespace Go.Proofs.YtpkclbemgmaahaaDoor
open Go.RowKit Go.ChangeShapes Go.WideShapes Go.ChangeAt

theorem turnsFrom_app {s : Int} {p : Int × Int} (h1 : MoneyIn p.1) (h2 : MoneyIn p.2) (h3 : p.1 + p.2 = s) : ∀ {ps : List (Int × Int)}, turnsFrom s ps = 0 → turnsFrom s (ps ++ [p]) = 0
  | [], _ => by simp [turnsFrom, h1, h2, h3]
  | q :: r, h => by
    unfold turnsFrom at h
    split at h
    · split at h
      · split at h
        · rename_i g1 g2 g3
          rw [List.cons_append]
          unfold turnsFrom
          rw [if_pos g1, if_pos g2, if_pos g3]
          exact turnsFrom_app h1 h2 h3 h
        · exact absurd h (by decide)
      · exact absurd h (by decide)
    · exact absurd h (by decide)

/-- An open channel's turns: right, all with the sum s. -/
def Chan (s : Int) (n : Nat) (ps : List (Int × Int)) : Prop := ps.length = n ∧ checkQ n ps 0 0 0 false = 0 ∧ (ps.getD 0 (0, 0)).1 + (ps.getD 0 (0, 0)).2 = s
theorem checkQ_open {n : Nat} {ps : List (Int × Int)} (h : turnsQ n ps = 0) : checkQ n ps 0 0 0 false = 0 := by
  have hn := (turnsQ_ok h).1
  unfold checkQ
  rw [if_neg (by simp [h]), if_neg (by omega), if_neg (by simp)]
theorem Chan.all {s : Int} {n : Nat} {ps : List (Int × Int)} (h : Chan s n ps) : 1 ≤ n ∧ n ≤ 50 ∧ ∀ p ∈ ps, MoneyIn p.1 ∧ MoneyIn p.2 ∧ p.1 + p.2 = s := by
  obtain ⟨_, h1, h2⟩ := h
  rw [← h2]
  exact turnsQ_ok (checkQ_ok h1).1
theorem Chan.last {s : Int} {n : Nat} {ps : List (Int × Int)} (h : Chan s n ps) : MoneyIn (lastP n ps).1 ∧ MoneyIn (lastP n ps).2 ∧ (lastP n ps).1 + (lastP n ps).2 = s :=
  h.all.2.2 _ (lastP_mem h.1 h.all.1)
theorem chan_new {a b : Int} (h : addQ a b = 0) : Chan (a + b) 1 [(a, b)] ∧ MoneyIn a ∧ MoneyIn b ∧ a + b ≤ 1125899906842624 := by
  unfold addQ at h
  split at h
  · split at h
    · split at h
      · exact absurd h (by decide)
      · rename_i h1 h2 h3
        refine ⟨⟨rfl, checkQ_open ?_, rfl⟩, h1, h2, by omega⟩
        unfold turnsQ
        rw [if_neg (by decide)]
        simp [turnsFrom, h1, h2]
    · exact absurd h (by decide)
  · exact absurd h (by decide)
/-- What a payment that can be asks for. -/
theorem payQ_ok {n : Nat} {ps : List (Int × Int)} {cl tu wh : Int} {ch : Bool} {fr m : Int} (hq : payQ n ps cl tu wh ch fr m = 0) :
    checkQ n ps cl tu wh ch = 0 ∧ (fr = 0 ∨ fr = 1) ∧ cl = 0 ∧ MoneyIn m ∧ m ≤ (if fr = 0 then (lastP n ps).1 else (lastP n ps).2) ∧ n ≠ 50 := by
  unfold payQ at hq
  by_cases h0 : checkQ n ps cl tu wh ch = 0
  · rw [if_neg (by simpa using h0)] at hq
    by_cases hf : fr ≠ 0 ∧ fr ≠ 1
    · rw [if_pos hf] at hq; exact absurd hq (by decide)
    rw [if_neg hf] at hq
    by_cases hc : cl ≠ 0
    · rw [if_pos hc] at hq; exact absurd hq (by decide)
    rw [if_neg hc] at hq
    by_cases hm : ¬ MoneyIn m
    · rw [if_pos hm] at hq; exact absurd hq (by decide)
    rw [if_neg hm] at hq
    by_cases hl : (if fr = 0 then (lastP n ps).1 else (lastP n ps).2) < m
    · rw [if_pos hl] at hq; exact absurd hq (by decide)
    rw [if_neg hl] at hq
    by_cases hn : n = 50
    · rw [if_pos hn] at hq; exact absurd hq (by decide)
    exact ⟨h0, by omega, by omega, Decidable.byContradiction hm, by omega, hn⟩
  · rw [if_pos h0] at hq
    exact absurd hq h0
theorem payQ_mk {n : Nat} {ps : List (Int × Int)} {fr m : Int} (h0 : checkQ n ps 0 0 0 false = 0) (hf : fr = 0 ∨ fr = 1) (hm : MoneyIn m) (hl : m ≤ (if fr = 0 then (lastP n ps).1 else (lastP n ps).2)) (hn : n ≠ 50) : payQ n ps 0 0 0 false fr m = 0 := by
  unfold payQ
  rw [if_neg (by simpa using h0), if_neg (by omega), if_neg (by simp), if_neg (by simpa using hm), if_neg (by omega), if_neg hn]
theorem last_pay {n : Nat} {ps : List (Int × Int)} {fr m : Int} (hl : ps.length = n) : lastP (n + 1) (payD n ps fr m) = paid fr m (lastP n ps) := by
  have e : lastP (n + 1) (payD n ps fr m) = (payD n ps fr m).getD n (0, 0) := rfl
  rw [e]
  unfold payD
  subst hl
  simp [List.getD_eq_getElem?_getD]
theorem Chan.pay {s : Int} {n : Nat} {ps : List (Int × Int)} {fr m : Int} (h : Chan s n ps) (hs : s ≤ 1125899906842624) (hq : payQ n ps 0 0 0 false fr m = 0) : Chan s (n + 1) (payD n ps fr m) := by
  obtain ⟨h1, hf, _, hm, hl, hn⟩ := payQ_ok hq
  obtain ⟨l1, l2, l3⟩ := h.last
  obtain ⟨n1, n2, _⟩ := h.all
  obtain ⟨hlen, hc, hs0⟩ := h
  have hp0 : (payD n ps fr m).getD 0 (0, 0) = ps.getD 0 (0, 0) := by
    unfold payD
    simp only [List.getD_eq_getElem?_getD]
    rw [List.getElem?_append_left (by omega)]
  have hpm : MoneyIn (paid fr m (lastP n ps)).1 ∧ MoneyIn (paid fr m (lastP n ps)).2 ∧ (paid fr m (lastP n ps)).1 + (paid fr m (lastP n ps)).2 = s := by
    unfold paid MoneyIn at *
    rcases hf with rfl | rfl
    · simp only [if_true] at hl ⊢
      omega
    · simp only [Int.one_ne_zero, if_false] at hl ⊢
      omega
  refine ⟨by unfold payD; simp; omega, checkQ_open ?_, by rw [hp0]; exact hs0⟩
  unfold turnsQ
  rw [if_neg (by omega), hp0, hs0]
  refine turnsFrom_app hpm.1 hpm.2.1 hpm.2.2 ?_
  have := (checkQ_ok hc).1
  unfold turnsQ at this
  rw [if_neg (by omega), hs0] at this
  exact this

/-- lane.Pay at an open channel: one form for both ends. -/
def PostPay0 (n : Nat) (ps : List (Int × Int)) (fr m : Int) (w : World) (e : Ending) (w' : World) : Prop :=
  ∃ A' n' c' v, e = .returned (.tuple #[chV A' n' c' 0 0 0 false, v]) ∧ Below w.heap.size w w' ∧
    ((v = .nilIface ∧ payQ n ps 0 0 0 false fr m = 0 ∧ n' = n + 1 ∧ PSl w' w'.heap.size A' n' (payD n ps fr m) ∧ Far w.heap.size A') ∨ (∃ q, v = .iface 26 (.int .i64 q) ∧ payQ n ps 0 0 0 false fr m ≠ 0))
theorem pay_open (ps : List (Int × Int)) (A : Option Addr) (n c : Nat) (fr m : Int) (w : World) (hp : PSl w w.heap.size A n ps) :
    Calls Tryd.prog 12 #[.agg #[.slice A n c, .int .i64 0, .int .i64 0, .int .i64 0, .bool false], .int .i64 fr, .int .i64 m] w (PostPay0 n ps fr m w) := by
  refine (pay_any ps A n c 0 0 0 false fr m w hp).mono ?_
  rintro e w' ⟨hb, ⟨hq, A', c', rfl, hp', hf'⟩ | ⟨hq, rfl⟩⟩
  · exact ⟨A', n + 1, c', _, rfl, hb, .inl ⟨rfl, hq, rfl, hp', hf'⟩⟩
  · exact ⟨none, 0, 0, _, rfl, hb, .inr ⟨_, errV_ne hq, hq⟩⟩

/-- A channel that lies in a block of its own. -/
structure ChAt (w : World) (b : Nat) (A : Option Addr) (n c : Nat) (cl tu wh : Int) (ch : Bool) : Prop where
  c0 : w.cell? ⟨b, 0, none⟩ = some (.slice A n c)
  c1 : w.cell? ⟨b, 1, none⟩ = some (.int .i64 cl)
  c2 : w.cell? ⟨b, 2, none⟩ = some (.int .i64 tu)
  c3 : w.cell? ⟨b, 3, none⟩ = some (.int .i64 wh)
  c4 : w.cell? ⟨b, 4, none⟩ = some (.bool ch)
  fz : ∀ i, w.frozen? ⟨b, i, none⟩ = false
section
variable {w w' : World} {b B n c : Nat} {A : Option Addr} {cl tu wh : Int} {ch : Bool}
theorem ChAt.keep (h : ChAt w b A n c cl tu wh ch) (hc : ∀ i, w'.cell? ⟨b, i, none⟩ = w.cell? ⟨b, i, none⟩) (hf : ∀ i, w'.frozen? ⟨b, i, none⟩ = w.frozen? ⟨b, i, none⟩) : ChAt w' b A n c cl tu wh ch :=
  ⟨by rw [hc]; exact h.c0, by rw [hc]; exact h.c1, by rw [hc]; exact h.c2, by rw [hc]; exact h.c3, by rw [hc]; exact h.c4, fun i => by rw [hf]; exact h.fz i⟩
theorem ChAt.below (h : ChAt w b A n c cl tu wh ch) (hb : Below B w w') (hB : b < B) : ChAt w' b A n c cl tu wh ch :=
  h.keep (fun i => hb.cell (p := ⟨b, i, none⟩) hB) (fun i => hb.frozen (p := ⟨b, i, none⟩) hB)
theorem chAt_alloc (w : World) : ChAt (w.alloc (.cells #[.slice A n c, .int .i64 cl, .int .i64 tu, .int .i64 wh, .bool ch] 24)) w.heap.size A n c cl tu wh ch := by
  constructor
  case fz => exact fun i => World.frozen?_alloc_at _ _ _ _ rfl
  all_goals exact World.cell?_alloc_at _ _ _ _ rfl
/-- Five stores into one block. -/
def set5 (w : World) (b : Nat) (v0 v1 v2 v3 v4 : Value) : World := ((((w.setCell ⟨b, 0, none⟩ v0).setCell ⟨b, 1, none⟩ v1).setCell ⟨b, 2, none⟩ v2).setCell ⟨b, 3, none⟩ v3).setCell ⟨b, 4, none⟩ v4
theorem set5_size {v0 v1 v2 v3 v4 : Value} : (set5 w b v0 v1 v2 v3 v4).heap.size = w.heap.size := by simp [set5, World.setCell]
theorem set5_frozen {v0 v1 v2 v3 v4 : Value} {o : Nat} : (set5 w b v0 v1 v2 v3 v4).frozen? ⟨b, o, none⟩ = w.frozen? ⟨b, o, none⟩ := by simp [set5, go_sem]
theorem chAt_set (hs : ∀ k, k < 5 → (w.cell? ⟨b, k, none⟩).isSome = true) (hf : ∀ i, w.frozen? ⟨b, i, none⟩ = false) :
    ChAt (set5 w b (.slice A n c) (.int .i64 cl) (.int .i64 tu) (.int .i64 wh) (.bool ch)) b A n c cl tu wh ch := by
  have h0 := hs 0 (by decide)
  have h1 := hs 1 (by decide)
  have h2 := hs 2 (by decide)
  have h3 := hs 3 (by decide)
  have h4 := hs 4 (by decide)
  constructor
  case fz => exact fun i => set5_frozen.trans (hf i)
  all_goals simp [set5, go_sem, h0, h1, h2, h3, h4]
theorem set5_below {W0 : World} {v0 v1 v2 v3 v4 : Value} (hB : B ≤ b) (h : Below B W0 w) : Below B W0 (set5 w b v0 v1 v2 v3 v4) := by
  unfold set5
  iterate 5 refine Below.setCell ?_ hB _
  exact h
theorem PSl.set5 {N m : Nat} {E : Option Addr} {ps : List (Int × Int)} {v0 v1 v2 v3 v4 : Value} (h : PSl w B E m ps) (hf : Far N E) (hb : b < N) : PSl (set5 w b v0 v1 v2 v3 v4) B E m ps := by
  unfold Go.Proofs.YtpkclbemgmaahaaDoor.set5
  iterate 5 refine PSl.setC ?_ hf hb _
  exact h
theorem ChAt.some_ (h : ChAt w b A n c cl tu wh ch) : ∀ k, k < 5 → (w.cell? ⟨b, k, none⟩).isSome = true := by
  intro k hk
  have : k = 0 ∨ k = 1 ∨ k = 2 ∨ k = 3 ∨ k = 4 := by omega
  rcases this with rfl | rfl | rfl | rfl | rfl <;> simp only [h.c0, h.c1, h.c2, h.c3, h.c4, Option.isSome_some]
end
end Go.Proofs.YtpkclbemgmaahaaDoor
