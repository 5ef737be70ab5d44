/- Two who are shown one root and have more, together, than it: two texts have one digest: part. Conditions: named in each theorem. -/
import Derived.Test.YtkpbhbafapdboaaDoorTwoD
namespace Go.Proofs.YtkpbhbafapdboaaDoor
open Go.RowKit Go.ChangeShapes Go.WideShapes Go.ChangeAt

theorem fold0_sum {t r : Tot} {i n : Nat} {P : List Tot} (h : fold0 t i n P = (r, 0)) (hl : P.length ≤ (way i n).length) : t.1 ≤ r.1 ∧ Mny r.1 := by
  unfold fold0 at h
  by_cases ht : Mny t.1
  · rw [if_pos ht] at h
    obtain ⟨h1, h2, h3⟩ := foldP_sum P (way i n).reverse t r h (by rw [List.length_reverse]; exact hl) ht
    have h4 := (sumT_le P P.length h1).1
    rw [List.take_length] at h4
    exact ⟨by omega, h3⟩
  · rw [if_neg ht] at h
    have : (2 : Int) = 0 := (Prod.mk.inj h).2
    omega
theorem step_zero {t r : Tot} {i n : Nat} (h : 2 ≤ n) (hn : n ≤ 256) {P : List Tot} {x : Tot} {j m : Nat} (hj : j = if i < halfN n then i else i - halfN n) (hm : m = if i < halfN n then halfN n else n - halfN n) (hl : P.length = (way j m).length)
    (hr : fold0 t i n (P ++ [x]) = (r, 0)) : ∃ u, fold0 t j m P = (u, 0) ∧ (if i < halfN n then nodeR u x else nodeR x u) = (r, 0) := by
  rw [fold0_step t i n h hn P x _ rfl j m hj hm hl] at hr
  generalize fold0 t j m P = R at hr ⊢
  obtain ⟨u, e⟩ := R
  by_cases he : e = 0
  · subst he
    refine ⟨u, rfl, ?_⟩
    rw [if_pos rfl] at hr
    simpa using hr
  · rw [if_neg he] at hr
    exact absurd (Prod.mk.inj hr).2 he
theorem last_of {i n : Nat} {p : List Tot} (h : 2 ≤ n) (hn : n ≤ 256) (hl : p.length = (way i n).length) : ∃ P x, p = P ++ [x] ∧ P.length = (way (if i < halfN n then i else i - halfN n) (if i < halfN n then halfN n else n - halfN n)).length := by
  rw [way_step i n h hn, List.length_cons] at hl
  rcases List.eq_nil_or_concat p with h0 | ⟨r, x, h0⟩
  · subst h0; simp at hl
  · refine ⟨r, x, by simpa using h0, ?_⟩
    subst h0
    simpa using hl
theorem split_ne {a b r : Tot} {i j n : Nat} (h : 2 ≤ n) (hn : n ≤ 256) {P Q : List Tot} {x y : Tot} (hi : i < halfN n) (hj : halfN n ≤ j) (hlP : P.length = (way i (halfN n)).length) (hlQ : Q.length = (way (j - halfN n) (n - halfN n)).length)
    (ha : fold0 a i n (P ++ [x]) = (r, 0)) (hb : fold0 b j n (Q ++ [y]) = (r, 0)) (hs : r.1 < a.1 + b.1) : (fold0 a i (halfN n) P).1 ≠ y ∨ (fold0 b (j - halfN n) (n - halfN n) Q).1 ≠ x := by
  obtain ⟨u, hu, hn1⟩ := step_zero h hn (by rw [if_pos hi]) (by rw [if_pos hi]) hlP ha
  obtain ⟨v, hv, hn2⟩ := step_zero h hn (by rw [if_neg (by omega)]) (by rw [if_neg (by omega)]) hlQ hb
  rw [if_pos hi] at hn1
  by_cases h1 : (fold0 a i (halfN n) P).1 = y
  · refine .inr (fun h2 => ?_)
    rw [hv] at h2
    have h2 : v = x := h2
    obtain ⟨-, -, e, -⟩ := nodeR_sum hn1
    have s1 := (fold0_sum hu (by omega)).1
    have s2 := (fold0_sum hv (by omega)).1
    rw [h2] at s2
    omega
  · exact .inl h1
/-- Two ways to one root that has less than the two: two texts have one digest. -/
theorem part_any : ∀ (f : Nat) (a b r : Tot) (_ : Dig a.2) (_ : Dig b.2) (i j n : Nat) (p q : List Tot), n ≤ f → n ≤ 256 → i < n → j < n → i ≠ j → (∀ t ∈ p, Dig t.2) → (∀ t ∈ q, Dig t.2) → p.length = (way i n).length → q.length = (way j n).length →
    fold0 a i n p = (r, 0) → fold0 b j n q = (r, 0) → r.1 < a.1 + b.1 → ∀ (A B : Option Addr) (m l c d : Nat) (w : World), m ≤ c → l ≤ d → TSl w w.heap.size A m p → TSl w w.heap.size B l q →
    Calls Tryd.prog 9 #[tV a, .slice A m c, .int .i64 i, tV b, .slice B l d, .int .i64 j, .int .i64 n] w (fun e w' => (∃ z : Int, e = .returned (.tuple #[.bool true, .int .i64 z])) ∧ Below w.heap.size w w')
  | 0, _, _, _, _, _, _, _, _, _, _, hf, _, hi, _, _, _, _, _, _, _, _, _, _, _, _, _, _, _, _, _, _, _, _ => by omega
  | f + 1, a, b, r, ha, hb, i, j, n, p, q, hf, hn, hi, hj, hij, hp, hq, hlp, hlq, h1, h2, hs, A, B, m, l, c, d, w, hmc, hld, t1, t2 => by
    have h2n : 2 ≤ n := by omega
    obtain ⟨P, x, rfl, hlP⟩ := last_of h2n hn hlp
    obtain ⟨Q, y, rfl, hlQ⟩ := last_of h2n hn hlq
    have hh := half_lt h2n hn
    by_cases ci : i < halfN n
    · rw [if_pos ci, if_pos ci] at hlP
      by_cases cj : j < halfN n
      · rw [if_pos cj, if_pos cj] at hlQ
        obtain ⟨u, hu, hn1⟩ := step_zero h2n hn (by rw [if_pos ci]) (by rw [if_pos ci]) hlP h1
        obtain ⟨v, hv, hn2⟩ := step_zero h2n hn (by rw [if_pos cj]) (by rw [if_pos cj]) hlQ h2
        rw [if_pos ci] at hn1
        obtain ⟨-, ⟨hx0, -⟩, he, -⟩ := nodeR_sum hn1
        refine left_any a b ha hb i j n h2n hn P Q x y hp hq ci cj hlP hlQ (fun e1 e2 A B m l c d w hm hl t1 t2 => ?_) A B m l c d w hmc hld t1 t2
        rw [hu, hv] at e1
        have e1 : u = v := e1
        exact part_any f a b u ha hb i j (halfN n) P Q (by omega) (by omega) ci cj hij (fun t ht => hp t (List.mem_append_left _ ht)) (fun t ht => hq t (List.mem_append_left _ ht)) hlP hlQ hu (by rw [hv, e1]) (by omega) A B m l c d w hm hl t1 t2
      · rw [if_neg cj, if_neg cj] at hlQ
        exact split_any a b ha hb i j n h2n hn P Q x y hp hq ci (by omega) hj hlP hlQ (split_ne h2n hn ci (by omega) hlP hlQ h1 h2 hs) A B m l c d w hmc hld t1 t2
    · rw [if_neg ci, if_neg ci] at hlP
      by_cases cj : j < halfN n
      · rw [if_pos cj, if_pos cj] at hlQ
        exact swap_any a b ha hb i j n h2n hn P Q x y hp hq (by omega) hi cj hlP hlQ (split_ne h2n hn cj (by omega) hlQ hlP h2 h1 (by omega)) A B m l c d w hmc hld t1 t2
      · rw [if_neg cj, if_neg cj] at hlQ
        obtain ⟨u, hu, hn1⟩ := step_zero h2n hn (by rw [if_neg ci]) (by rw [if_neg ci]) hlP h1
        obtain ⟨v, hv, hn2⟩ := step_zero h2n hn (by rw [if_neg cj]) (by rw [if_neg cj]) hlQ h2
        rw [if_neg ci] at hn1
        obtain ⟨⟨hx0, -⟩, -, he, -⟩ := nodeR_sum hn1
        refine right_any a b ha hb i j n h2n hn P Q x y hp hq (by omega) hi (by omega) hj hlP hlQ (fun e1 e2 A B m l c d w hm hl t1 t2 => ?_) A B m l c d w hmc hld t1 t2
        rw [hu, hv] at e1
        have e1 : u = v := e1
        exact part_any f a b u ha hb (i - halfN n) (j - halfN n) (n - halfN n) P Q (by omega) (by omega) (by omega) (by omega) (by omega) (fun t ht => hp t (List.mem_append_left _ ht)) (fun t ht => hq t (List.mem_append_left _ ht)) hlP hlQ hu (by rw [hv, e1]) (by omega) A B m l c d w hm hl t1 t2
end Go.Proofs.YtkpbhbafapdboaaDoor
