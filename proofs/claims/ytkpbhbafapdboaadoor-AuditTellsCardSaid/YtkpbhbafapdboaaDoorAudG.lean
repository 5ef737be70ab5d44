/- The sides of a leaf's way: audit.sides: the walk. Conditions: named in each theorem. -/
import Derived.Test.YtkpbhbafapdboaaDoorAudF
import Derived.Deep.Cut
namespace Go.Proofs.YtkpbhbafapdboaaDoor
open Go.RowKit Go.ChangeShapes Go.WideShapes Go.ChangeAt Go.Sort

def bV (b : Bool) : List Value := [.bool b]
theorem bV_len (b : Bool) : (bV b).length = 1 := rfl
abbrev BSl (w : World) (B : Nat) (A : Option Addr) (n : Nat) (bs : List Bool) : Prop := FSl bV 1 w B A n bs
def BRow (w : World) (base : Nat) (v : Value) (n : Nat) (bs : List Bool) : Prop := w.ownsRow base 4 1 v n (bs.flatMap bV)
theorem boolInfo : (Tryd.prog.info? 4).map (fun i => (i.zero, i.size, i.bytes)) = some (some (.bool false), 1, 1) := by kernel_rfl
theorem flat_bV (bs : List Bool) : bs.flatMap bV = bs.map Value.bool := by
  induction bs with
  | nil => rfl
  | cons b r ih => rw [List.flatMap_cons, ih]; rfl
theorem BRow.holds {w : World} {base g n c : Nat} {bs : List Bool} (h : BRow w base (.slice (some ⟨g, 0, none⟩) n c) n bs) : Holds encB w g 0 bs.toArray ∧ bs.length = n ∧ base ≤ g := by
  obtain ⟨hl, ho⟩ := h
  rw [flat_bV, List.length_map, Nat.mul_one] at hl
  rcases ho with ⟨h0, -⟩ | ⟨g', cap, cur, e, hb, hh, -, -, -, ht⟩
  · simp at h0
  · simp only [Value.slice.injEq, Option.some.injEq, Addr.mk.injEq, true_and, and_true] at e
    obtain ⟨rfl, rfl⟩ := e
    refine ⟨fun j hj => ?_, hl, hb⟩
    have hj' : j < bs.length := by simpa using hj
    refine ⟨?_, frozen_of_row w g (0 + j) _ _ hh⟩
    rw [cell_of_row w g (0 + j) _ _ _ hh, Nat.zero_add, ← Array.getElem?_toList]
    have h1 : (cur.toList.take (n * 1))[j]? = (bs.flatMap bV)[j]? := by rw [ht]
    rw [List.getElem?_take_of_lt (by omega), flat_bV, List.getElem?_map] at h1
    rw [h1, List.getElem?_eq_getElem hj']
    simp [encB, getElem!_pos, hj']
theorem BSl.of {w : World} {B n b off : Nat} {bs : List Bool} (hl : bs.length = n) (hb : b < B) (h : ∀ k, (hk : k < bs.length) → w.cell? ⟨b, off + k, none⟩ = some (.bool bs[k])) : BSl w B (some ⟨b, off, none⟩) n bs := by
  refine ⟨by rw [flat_len bV_len, hl], fun hn => ⟨b, off, rfl, hb, fun j u hu => ?_⟩⟩
  rw [flat_bV] at hu
  have hj : j < bs.length := by
    have := (List.getElem?_eq_some_iff.1 hu).1
    simpa using this
  rw [List.getElem?_map, List.getElem?_eq_getElem hj] at hu
  injection hu with hu
  rw [← hu]
  exact h j hj
theorem rev_own (bs : List Bool) (A : Option Addr) (n c base : Nat) (w : World) (hn : n ≤ 1000000) (h : BRow w base (.slice A n c) n bs) :
    Calls Tryd.prog 38 #[.slice A n c] w (fun e w' => e = .returned (.tuple #[]) ∧ BSl w' w'.heap.size A n bs.reverse ∧ Below base w w') := by
  cases A with
  | none =>
    have hn0 : n = 0 ∧ bs = [] := by
      obtain ⟨hl, ho⟩ := h
      rcases ho with ⟨-, h0⟩ | ⟨g', cap, cur, e, -⟩
      · rw [flat_bV, List.length_map] at hl
        exact ⟨h0, List.eq_nil_of_length_eq_zero (by omega)⟩
      · simp at e
    obtain ⟨rfl, rfl⟩ := hn0
    clear h hn
    go_enter Tryd.func38, Tryd.ntmps38
    go_wp2_with fail
    refine wp_loop_rounds 1 ?_
    rw [rounds_succ]
    go_wp2
    refine bodyPost_end (results_none rfl _ _ _) rfl ?_
    exact ⟨rfl, Sl.nil_, Below.refl _ _⟩
  | some a =>
    obtain ⟨g, rfl⟩ : ∃ g, a = ⟨g, 0, none⟩ := by
      obtain ⟨-, ho⟩ := h
      rcases ho with ⟨h0, -⟩ | ⟨g', cap, cur, e, -⟩
      · simp at h0
      · simp only [Value.slice.injEq, Option.some.injEq] at e
        exact ⟨g', e.1⟩
    obtain ⟨hH, hl, hg⟩ := h.holds
    have hlt : g < w.heap.size := (h.lt g rfl).2
    have hr := rev_arr g 0 c bs.toArray w hH (by simpa [hl] using hn)
    rw [show bs.toArray.size = n by simpa using hl] at hr
    refine hr.mono ?_
    rintro e w' ⟨rfl, q, rfl⟩
    refine ⟨rfl, ?_, below_putRow _ _ _ _ _ _ hg⟩
    refine BSl.of (by simpa using hl) (by simpa using hlt) fun k hk => ?_
    have hp := holds_putRow encB (Sort.ahead w q) g 0 bs.toArray bs.toArray.reverse (holds_ahead encB w q g 0 _ hH) (by simp)
    have := (hp k (by simpa using hk)).1
    rw [this]
    have hk' : k < bs.length := by simpa using hk
    simp [encB, getElem!_pos, hk']

/-- The sides, from the root down. -/
def wayL : Nat → Nat → Nat → List Bool
  | 0, _, _ => []
  | f + 1, i, n => if n ≤ 1 then [] else decide (i < halfN n) :: wayL f (if i < halfN n then i else i - halfN n) (if i < halfN n then halfN n else n - halfN n)
theorem wayL_more : ∀ (f g i n : Nat), n ≤ f → n ≤ g → n ≤ 256 → wayL f i n = wayL g i n
  | 0, 0, _, _, _, _, _ => rfl
  | 0, g + 1, i, n, h, _, _ => by
    have : n = 0 := by omega
    subst this
    rfl
  | f + 1, 0, i, n, _, h, _ => by
    have : n = 0 := by omega
    subst this
    rfl
  | f + 1, g + 1, i, n, h1, h2, h3 => by
    unfold wayL
    by_cases hn : n ≤ 1
    · rw [if_pos hn, if_pos hn]
    · rw [if_neg hn, if_neg hn]
      have hh := half_lt (n := n) (by omega) h3
      congr 1
      exact wayL_more f g _ _ (by split <;> omega) (by split <;> omega) (by split <;> omega)
def way (i n : Nat) : List Bool := wayL 256 i n
theorem wayL_succ (f i n : Nat) : wayL (f + 1) i n = if n ≤ 1 then [] else decide (i < halfN n) :: wayL f (if i < halfN n then i else i - halfN n) (if i < halfN n then halfN n else n - halfN n) := rfl
theorem way_one (i n : Nat) (h : n ≤ 1) : way i n = [] := (wayL_succ 255 i n).trans (if_pos h)
theorem way_step (i n : Nat) (h : 2 ≤ n) (hn : n ≤ 256) : way i n = decide (i < halfN n) :: way (if i < halfN n then i else i - halfN n) (if i < halfN n then halfN n else n - halfN n) := by
  have hh := half_lt h hn
  have hm : ∀ a b, b ≤ 255 → b ≤ 256 → wayL 255 a b = way a b := fun a b h1 h2 => wayL_more 255 256 a b h1 h2 h2
  have hs : way i n = decide (i < halfN n) :: wayL 255 (if i < halfN n then i else i - halfN n) (if i < halfN n then halfN n else n - halfN n) := (wayL_succ 255 i n).trans (if_neg (by omega))
  rw [hs, hm _ _ (by split <;> omega) (by split <;> omega)]
theorem BRow.push {w : World} {base : Nat} {v : Value} {n : Nat} {bs : List Bool} {b : Bool} (h : w.ownsRow base 4 1 v n (bs.flatMap bV ++ (#[Value.bool b] : Array Value).toList)) : BRow w base v n (bs ++ [b]) := by
  unfold BRow
  rw [List.flatMap_append]
  exact h

set_option maxHeartbeats 2000000 in
set_option maxRecDepth 100000 in
theorem sides_any (i n : Nat) (h1 : 1 ≤ n) (hn : n ≤ 256) (hi : i < n) (w : World) :
    Calls Tryd.prog 23 #[.int .i64 i, .int .i64 n] w (fun e w' => ∃ A m c, e = .returned (.slice A m c) ∧ BSl w' w'.heap.size A m (way i n).reverse ∧ Below w.heap.size w w' ∧ Far w.heap.size A) := by
  go_enter Tryd.func23, Tryd.ntmps23
  go_upto_region 1 with fail
  go_loopw [0, 1, 4, 5] (fun x0 x1 x4 _ wr => ∃ (i' n' m : Nat) (A : Option Addr) (c : Nat) (L : List Bool), x0 = .int .i64 i' ∧ x1 = .int .i64 n' ∧ x4 = .slice A m c ∧ Hid (BRow wr w.heap.size (.slice A m c) m L) ∧ Hid (L ++ way i' n' = way i n) ∧ 1 ≤ n' ∧ n' ≤ 256 ∧ i' < n' ∧ m + n' ≤ n ∧ Hid (Below w.heap.size w wr)) (fun _ x1 _ _ _ => (Go.RowKit.intOf x1).toNat)
  case atStart => exact ⟨i, n, 0, none, 0, [], rfl, rfl, rfl, aside (⟨by simp, .inl ⟨rfl, rfl⟩⟩), aside rfl, h1, hn, hi, by omega, aside (Below.refl _ _)⟩
  case round =>
    obtain ⟨i2, n2, m, A, c, L, rfl, rfl, rfl, HO, HW, n1, n256, hi2, hmn, HB⟩ := hrel
    by_cases h2 : 2 ≤ n2
    · have e1 : (1 : Int) < (n2 : Int) := by omega
      have hh := half_lt h2 n256
      have HS := aside (way_step i2 n2 h2 n256)
      have HH := aside (half_any n2 h2 n256)
      generalize halfN n2 = k at hh HS HH
      obtain ⟨k1, k2⟩ := hh
      by_cases hik : i2 < k
      · have e2 : (i2 : Int) < (k : Int) := by omega
        go_wp2_with (first
          | (go_at_call 27; refine (HH.out _).mono ?_; rintro e w' ⟨rfl, hw'⟩; rw [hw']; clear hw' w')
          | (at_builtin; refine wpList_push rfl (.tmp 10) (.tmp 14) 54 rfl w.heap.size (.bool false) 1 1 Tryd.underlying54 boolInfo rfl (by decide) _ m _ rfl rfl rfl (by simp [Value.oneCell']) HO.out (by omega) (by unfold maxLen; omega) HB.out.size ?_; intro G3 c3 w3 hc3 hc3' hown hb3 hz3 hg3; have HO3 := aside (BRow.push hown); have HB3 := aside (HB.out.trans hb3); clear hown hb3 hg3 hz3)
          | fail)
        refine ⟨⟨i2, k, m + 1, G3, c3, L ++ [true], rfl, rfl, rfl, HO3, aside ?_, k1, by omega, hik, by omega, HB3⟩, by simp [Go.RowKit.intOf]; omega⟩
        rw [← HW.out, HS.out, if_pos hik, if_pos hik, decide_eq_true hik, List.append_assoc]
        rfl
      · have e2 : ((i2 : Int) < (k : Int)) = False := by simp only [eq_iff_iff, iff_false]; omega
        obtain ⟨i3, hi3⟩ : ∃ i3, i3 = i2 - k := ⟨_, rfl⟩
        obtain ⟨n3, hn3⟩ : ∃ n3, n3 = n2 - k := ⟨_, rfl⟩
        have g1 : (i2 : Int) - (k : Int) = (i3 : Int) := by omega
        have g2 : (n2 : Int) - (k : Int) = (n3 : Int) := by omega
        have hik3 : i3 < n3 := by omega
        have hn31 : 1 ≤ n3 := by omega
        have hn32 : n3 < n2 := by omega
        have HS2 : Hid (way i2 n2 = false :: way i3 n3) := aside (by rw [HS.out, if_neg hik, if_neg hik, decide_eq_false hik, hi3, hn3])
        clear hi3 hn3 HS hik
        go_wp2_with (first
          | (go_at_call 27; refine (HH.out _).mono ?_; rintro e w' ⟨rfl, hw'⟩; rw [hw']; clear hw' w')
          | (at_builtin; refine wpList_push rfl (.tmp 10) (.tmp 14) 54 rfl w.heap.size (.bool false) 1 1 Tryd.underlying54 boolInfo rfl (by decide) _ m _ rfl rfl rfl (by simp [Value.oneCell']) HO.out (by omega) (by unfold maxLen; omega) HB.out.size ?_; intro G3 c3 w3 hc3 hc3' hown hb3 hz3 hg3; have HO3 := aside (BRow.push hown); have HB3 := aside (HB.out.trans hb3); clear hown hb3 hg3 hz3)
          | fail)
        refine ⟨⟨i3, n3, m + 1, G3, c3, L ++ [false], rfl, rfl, rfl, HO3, aside ?_, hn31, by omega, hik3, by omega, HB3⟩, by simp [Go.RowKit.intOf]; omega⟩
        rw [← HW.out, HS2.out, List.append_assoc]
        rfl
    · have e1 : ((1 : Int) < (n2 : Int)) = False := by simp only [eq_iff_iff, iff_false]; omega
      have HE : Hid (L = way i n) := aside (by rw [← HW.out, way_one i2 n2 (by omega), List.append_nil])
      have hm : m ≤ 1000000 := by omega
      clear h2
      go_wp2_with (first
        | (go_at_call 38; refine (rev_own L A m c w.heap.size wr hm HO.out).mono ?_; rintro e w5 ⟨rfl, hs5, hb5⟩; have HS5 := aside hs5; have HB5 := aside (HB.out.trans hb5); clear hs5 hb5)
        | fail)
      go_ret
      refine ⟨A, m, c, rfl, ?_, HB5.out, far_own HO.out⟩
      rw [← HE.out]
      exact HS5.out
end Go.Proofs.YtkpbhbafapdboaaDoor
