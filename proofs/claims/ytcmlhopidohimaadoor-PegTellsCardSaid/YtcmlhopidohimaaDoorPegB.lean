/- Searching what rises: cmp.Compare, slices.BinarySearch, slices.BinarySearchFunc: the walks. Conditions: named in each theorem. -/
import Derived.Test.YtcmlhopidohimaaDoorPegA
import Derived.Deep.LoopGhost
namespace Go.Proofs.YtcmlhopidohimaaDoor
open Go.RowKit Go.ChangeShapes Go.WideShapes Go.ChangeAt

def keyI (z : Int) : Int := z
def keyP (p : Int × Int) : Int := p.1
def keyR (r : Int × Int × Bool) : Int := r.1
/-- What rises, by a key. -/
def Asc {α : Type} (key : α → Int) (xs : List α) : Prop := xs.Pairwise (fun a b => key a < key b)
/-- So many stand below. -/
def lbN {α : Type} (key : α → Int) (t : Int) (xs : List α) : Nat := xs.countP (fun x => decide (key x < t))
/-- It is there. -/
def hasB {α : Type} (key : α → Int) (t : Int) (xs : List α) : Bool := (xs[lbN key t xs]?).any (fun x => decide (key x = t))
section
variable {α : Type} {key : α → Int} {t : Int} {xs : List α}
theorem asc_le (h : Asc key xs) (d : α) {a b : Nat} (hab : a ≤ b) (hb : b < xs.length) : key (xs.getD a d) ≤ key (xs.getD b d) := by
  rcases Nat.lt_or_eq_of_le hab with hlt | rfl
  · rw [List.getD_eq_getElem?_getD, List.getD_eq_getElem?_getD, List.getElem?_eq_getElem (by omega), List.getElem?_eq_getElem hb]
    exact Int.le_of_lt (List.pairwise_iff_getElem.1 h a b (by omega) hb hlt)
  · exact Int.le_refl _
theorem lb_of (d : α) : ∀ {xs : List α} {i : Nat}, i ≤ xs.length → (∀ k, k < i → key (xs.getD k d) < t) → (∀ k, i ≤ k → k < xs.length → t ≤ key (xs.getD k d)) → lbN key t xs = i
  | [], i, hi, _, _ => by simp at hi; simp [lbN, hi]
  | a :: r, 0, _, _, h2 => by
    unfold lbN
    rw [List.countP_eq_zero]
    intro x hx
    obtain ⟨k, hk, rfl⟩ := List.getElem_of_mem hx
    have := h2 k (Nat.zero_le _) hk
    rw [List.getD_eq_getElem?_getD, List.getElem?_eq_getElem hk] at this
    simpa using this
  | a :: r, i + 1, hi, h1, h2 => by
    have ha : key a < t := by simpa using h1 0 (Nat.succ_pos _)
    unfold lbN
    rw [List.countP_cons_of_pos (by simpa using ha)]
    have := lb_of d (xs := r) (i := i) (by simpa using hi) (fun k hk => by simpa using h1 (k + 1) (by omega)) (fun k h3 h4 => by simpa using h2 (k + 1) (by omega) (by simpa using h4))
    unfold lbN at this
    rw [this]
theorem has_of (d : α) {i : Nat} {y : α} (h : lbN key t xs = i) (hi : i < xs.length) (hy : xs.getD i d = y) : hasB key t xs = decide (key y = t) := by
  unfold hasB
  rw [h, List.getElem?_eq_getElem hi]
  rw [List.getD_eq_getElem?_getD, List.getElem?_eq_getElem hi] at hy
  simp at hy
  simp [hy]
theorem has_none {i : Nat} (h : lbN key t xs = i) (hi : xs.length ≤ i) : hasB key t xs = false := by
  unfold hasB
  rw [h, List.getElem?_eq_none hi]
  rfl
end
/-- One before another. -/
def cmpI (x y : Int) : Int := if x < y then -1 else if y < x then 1 else 0
theorem cnan_any (x : Int) (w : World) : Calls Tryd.prog 60 #[.int .i64 x] w (fun e w' => e = .returned (.bool false) ∧ w' = w) := by
  go_enter Tryd.func60, Tryd.ntmps60
  go_wp2
  go_ret
  exact ⟨by simp, rfl⟩
theorem nan_any (x : Int) (w : World) : Calls Tryd.prog 44 #[.int .i64 x] w (fun e w' => e = .returned (.bool false) ∧ w' = w) := by
  go_enter Tryd.func44, Tryd.ntmps44
  go_wp2
  go_ret
  exact ⟨by simp, rfl⟩
theorem less_any (x y : Int) (w : World) : Calls Tryd.prog 43 #[.int .i64 x, .int .i64 y] w (fun e w' => e = .returned (.bool (decide (x < y))) ∧ w' = w) := by
  go_enter Tryd.func43, Tryd.ntmps43
  go_wp2_with (go_at_call 60; refine (cnan_any _ _).mono ?_; rintro e w' ⟨rfl, rfl⟩)
  go_ret
  exact ⟨rfl, rfl⟩
theorem cmp_any (x y : Int) (w : World) : Calls Tryd.prog 51 #[.int .i64 x, .int .i64 y] w (fun e w' => e = .returned (.int .i64 (cmpI x y)) ∧ w' = w) := by
  unfold cmpI
  by_cases h1 : x < y
  · rw [if_pos h1]
    go_enter Tryd.func51, Tryd.ntmps51
    go_wp2_with (go_at_call 60; refine (cnan_any _ _).mono ?_; rintro e w' ⟨rfl, rfl⟩)
    go_ret
    exact ⟨rfl, rfl⟩
  · rw [if_neg h1]
    by_cases h2 : y < x
    · rw [if_pos h2]
      go_enter Tryd.func51, Tryd.ntmps51
      go_wp2_with (go_at_call 60; refine (cnan_any _ _).mono ?_; rintro e w' ⟨rfl, rfl⟩)
      go_ret
      exact ⟨rfl, rfl⟩
    · rw [if_neg h2]
      go_enter Tryd.func51, Tryd.ntmps51
      go_wp2_with (go_at_call 60; refine (cnan_any _ _).mono ?_; rintro e w' ⟨rfl, rfl⟩)
      go_ret
      exact ⟨rfl, rfl⟩

set_option maxHeartbeats 2000000 in
set_option maxRecDepth 100000 in
theorem findI_any (xs : List Int) (hs : Asc keyI xs) (A : Option Addr) (n c : Nat) (t : Int) (w : World) (h : FSl encI 1 w w.heap.size A n xs) (hn : n ≤ 1000) :
    Calls Tryd.prog 32 #[.slice A n c, .int .i64 t] w (fun e w' => e = .returned (.tuple #[.int .i64 (lbN keyI t xs), .bool (hasB keyI t xs)]) ∧ Below w.heap.size w w') := by
  have hln := FSl.len encI_len (by decide) h
  have HS := aside h
  have HA := aside hs
  have HB0 := aside (Below.refl w.heap.size w)
  clear h hs
  go_enter Tryd.func32, Tryd.ntmps32
  go_wp2
  go_loopg [7, 8] n (fun g s7 s8 wr => ∃ lo hi : Nat, s7 = .int .i64 lo ∧ s8 = .int .i64 hi ∧ lo ≤ hi ∧ hi ≤ n ∧ hi - lo ≤ g ∧ Hid (Below w.heap.size w wr) ∧ Hid ((∀ k, k < lo → keyI (xs.getD k 0) < t) ∧ (∀ k, hi ≤ k → k < n → t ≤ keyI (xs.getD k 0))))
  case atStart => exact ⟨0, n, rfl, rfl, Nat.zero_le _, Nat.le_refl _, by omega, HB0, aside ⟨fun k hk => absurd hk (Nat.not_lt_zero _), fun k h1 h2 => by omega⟩⟩
  case round =>
    clear HB0
    obtain ⟨lo, hi, rfl, rfl, hlh, hin, hg, HB, I⟩ := hrel
    by_cases hlt : lo < hi
    · obtain ⟨b, off, rfl, hbl, hcl⟩ := FSl.at_ (k := (lo + hi) / 2) encI_len (by decide) 0 (FSl.below HS.out HB.out) (by omega)
      obtain ⟨y, hy⟩ : ∃ y, xs.getD ((lo + hi) / 2) 0 = y := ⟨_, rfl⟩
      have Y := aside hy
      rw [hy] at hcl
      clear hy
      have c0 := hcl 0 _ rfl
      rw [Nat.mul_one, Nat.add_zero] at c0
      clear hcl hbl
      have HL := aside hln
      clear hln
      by_cases hyx : y < t
      ·
        go_wp2_with (first | (go_at_call 43; refine (less_any _ _ _).mono ?_; rintro e w2 ⟨rfl, rfl⟩) | (go_at_call 44; refine (nan_any _ _).mono ?_; rintro e w2 ⟨rfl, rfl⟩))
        go_roundg (hi - ((lo + hi) / 2 + 1))
        case measure => omega
        case rel =>
          have HB2 := HB
          refine ⟨(lo + hi) / 2 + 1, hi, by rw [show ((lo : Int) + (hi : Int)) / 2 + 1 = (((lo + hi) / 2 + 1 : Nat) : Int) by omega], rfl, by omega, hin, Nat.le_refl _, HB2, aside ⟨fun k hk => ?_, I.out.2⟩⟩
          have h1 := asc_le HA.out 0 (a := k) (b := (lo + hi) / 2) (by omega) (by have := HL.out; omega)
          rw [Y.out] at h1
          exact Int.lt_of_le_of_lt h1 hyx
      ·
        go_wp2_with (first | (go_at_call 43; refine (less_any _ _ _).mono ?_; rintro e w2 ⟨rfl, rfl⟩) | (go_at_call 44; refine (nan_any _ _).mono ?_; rintro e w2 ⟨rfl, rfl⟩))
        go_roundg ((lo + hi) / 2 - lo)
        case measure => omega
        case rel =>
          have HB2 := HB
          refine ⟨lo, (lo + hi) / 2, rfl, by rw [show ((lo : Int) + (hi : Int)) / 2 = (((lo + hi) / 2 : Nat) : Int) by omega], by omega, by omega, Nat.le_refl _, HB2, aside ⟨I.out.1, fun k hk hkn => ?_⟩⟩
          have h1 := asc_le HA.out 0 (a := (lo + hi) / 2) (b := k) hk (by have := HL.out; omega)
          rw [Y.out] at h1
          first | exact Int.le_trans hyx h1 | exact Int.le_trans (Int.not_lt.1 hyx) h1
    · obtain rfl : hi = lo := by omega
      have E1 : Hid (lbN keyI t xs = hi) := aside (lb_of 0 (by omega) I.out.1 (fun k h1 h2 => I.out.2 k h1 (by omega)))
      by_cases hn2 : hi < n
      · obtain ⟨b, off, rfl, hbl, hcl⟩ := FSl.at_ (k := hi) encI_len (by decide) 0 (FSl.below HS.out HB.out) hn2
        obtain ⟨y, hy⟩ : ∃ y, xs.getD hi 0 = y := ⟨_, rfl⟩
        have Y := aside hy
        rw [hy] at hcl
        clear hy
        have c0 := hcl 0 _ rfl
        rw [Nat.mul_one, Nat.add_zero] at c0
        clear hcl hbl
        have HL := aside hln
        clear hln
        by_cases hyx : y = t
        ·
          go_wp2_with (first | (go_at_call 43; refine (less_any _ _ _).mono ?_; rintro e w2 ⟨rfl, rfl⟩) | (go_at_call 44; refine (nan_any _ _).mono ?_; rintro e w2 ⟨rfl, rfl⟩))
          go_ret2
          have HB2 := HB
          refine ⟨?_, HB2.out⟩
          rw [E1.out, has_of 0 E1.out (by have := HL.out; omega) Y.out, decide_eq_true (show keyI y = t from hyx)]
          first | rfl | simp [*]
        ·
          go_wp2_with (first | (go_at_call 43; refine (less_any _ _ _).mono ?_; rintro e w2 ⟨rfl, rfl⟩) | (go_at_call 44; refine (nan_any _ _).mono ?_; rintro e w2 ⟨rfl, rfl⟩))
          go_ret2
          have HB2 := HB
          refine ⟨?_, HB2.out⟩
          rw [E1.out, has_of 0 E1.out (by have := HL.out; omega) Y.out, decide_eq_false (show ¬ keyI y = t from hyx)]
          first | rfl | simp [*]
      · go_wp2
        go_ret2
        refine ⟨?_, HB.out⟩
        rw [E1.out, has_none E1.out (by omega)]
        first | rfl | simp [*]

theorem cloP_any (x : (Int × Int)) (t : Int) (w : World) : Calls Tryd.prog 59 #[.agg #[.int .i64 x.1, .int .i64 x.2], .int .i64 t] w (fun e w' => e = .returned (.int .i64 (cmpI (keyI x.1) t)) ∧ Below w.heap.size w w') := by
  obtain ⟨a, b⟩ := x
  have HC := aside (cmp_any a t)
  have HB := aside ((Below.refl w.heap.size w).alloc (Nat.le_refl _) (.cells #[.int .i64 a, .int .i64 b] 46))
  unfold keyI
  generalize cmpI a t = r at HC
  go_enter Tryd.func59, Tryd.ntmps59
  go_wp2_with (go_at_call 51; refine (HC.out _).mono ?_; rintro e w' ⟨rfl, rfl⟩)
  go_ret
  exact ⟨rfl, HB.out⟩

set_option maxHeartbeats 2000000 in
set_option maxRecDepth 100000 in
theorem findP_any (xs : List (Int × Int)) (hs : Asc keyP xs) (A : Option Addr) (n c : Nat) (t : Int) (w : World) (h : FSl encP 2 w w.heap.size A n xs) (hn : n ≤ 1000) :
    Calls Tryd.prog 58 #[.slice A n c, .int .i64 t, .func (.func 59) #[] #[]] w (fun e w' => e = .returned (.tuple #[.int .i64 (lbN keyP t xs), .bool (hasB keyP t xs)]) ∧ Below w.heap.size w w') := by
  have hln := FSl.len encP_len (by decide) h
  have HS := aside h
  have HA := aside hs
  have HB0 := aside (Below.refl w.heap.size w)
  clear h hs
  go_enter Tryd.func58, Tryd.ntmps58
  go_wp2
  go_loopg [9, 10] n (fun g s7 s8 wr => ∃ lo hi : Nat, s7 = .int .i64 lo ∧ s8 = .int .i64 hi ∧ lo ≤ hi ∧ hi ≤ n ∧ hi - lo ≤ g ∧ Hid (Below w.heap.size w wr) ∧ Hid ((∀ k, k < lo → keyP (xs.getD k (0, 0)) < t) ∧ (∀ k, hi ≤ k → k < n → t ≤ keyP (xs.getD k (0, 0)))))
  case atStart => exact ⟨0, n, rfl, rfl, Nat.zero_le _, Nat.le_refl _, by omega, HB0, aside ⟨fun k hk => absurd hk (Nat.not_lt_zero _), fun k h1 h2 => by omega⟩⟩
  case round =>
    clear HB0
    obtain ⟨lo, hi, rfl, rfl, hlh, hin, hg, HB, I⟩ := hrel
    by_cases hlt : lo < hi
    · obtain ⟨b, off, rfl, hbl, hcl⟩ := FSl.at_ (k := (lo + hi) / 2) encP_len (by decide) (0, 0) (FSl.below HS.out HB.out) (by omega)
      obtain ⟨y, hy⟩ : ∃ y, xs.getD ((lo + hi) / 2) (0, 0) = y := ⟨_, rfl⟩
      have Y := aside hy
      rw [hy] at hcl
      clear hy
      obtain ⟨ya, yb⟩ := y
      have c0 := hcl 0 _ rfl
      have c1 := hcl 1 _ rfl
      rw [Nat.add_zero] at c0
      clear hcl hbl
      have HL := aside hln
      clear hln
      have HCl := aside (cloP_any (ya, yb) t)
      unfold keyI at HCl
      dsimp only at HCl
      by_cases hyx : ya < t
      · have hm1 : cmpI ya t < 0 := by unfold cmpI; rw [if_pos hyx]; decide
        generalize cmpI ya t = r at HCl hm1
        go_wp2_with (go_at_call 59; refine (HCl.out _).mono ?_; rintro e w2 ⟨rfl, hb2⟩; have HB2 := aside (HB.out.trans (hb2.mono HB.out.size)); clear hb2)
        go_roundg (hi - ((lo + hi) / 2 + 1))
        case measure => omega
        case rel =>
          skip
          refine ⟨(lo + hi) / 2 + 1, hi, by rw [show ((lo : Int) + (hi : Int)) / 2 + 1 = (((lo + hi) / 2 + 1 : Nat) : Int) by omega], rfl, by omega, hin, Nat.le_refl _, HB2, aside ⟨fun k hk => ?_, I.out.2⟩⟩
          have h1 := asc_le HA.out (0, 0) (a := k) (b := (lo + hi) / 2) (by omega) (by have := HL.out; omega)
          rw [Y.out] at h1
          exact Int.lt_of_le_of_lt h1 hyx
      · have hm1 : ¬ cmpI ya t < 0 := by unfold cmpI; rw [if_neg hyx]; split <;> decide
        generalize cmpI ya t = r at HCl hm1
        go_wp2_with (go_at_call 59; refine (HCl.out _).mono ?_; rintro e w2 ⟨rfl, hb2⟩; have HB2 := aside (HB.out.trans (hb2.mono HB.out.size)); clear hb2)
        go_roundg ((lo + hi) / 2 - lo)
        case measure => omega
        case rel =>
          skip
          refine ⟨lo, (lo + hi) / 2, rfl, by rw [show ((lo : Int) + (hi : Int)) / 2 = (((lo + hi) / 2 : Nat) : Int) by omega], by omega, by omega, Nat.le_refl _, HB2, aside ⟨I.out.1, fun k hk hkn => ?_⟩⟩
          have h1 := asc_le HA.out (0, 0) (a := (lo + hi) / 2) (b := k) hk (by have := HL.out; omega)
          rw [Y.out] at h1
          first | exact Int.le_trans hyx h1 | exact Int.le_trans (Int.not_lt.1 hyx) h1
    · obtain rfl : hi = lo := by omega
      have E1 : Hid (lbN keyP t xs = hi) := aside (lb_of (0, 0) (by omega) I.out.1 (fun k h1 h2 => I.out.2 k h1 (by omega)))
      by_cases hn2 : hi < n
      · obtain ⟨b, off, rfl, hbl, hcl⟩ := FSl.at_ (k := hi) encP_len (by decide) (0, 0) (FSl.below HS.out HB.out) hn2
        obtain ⟨y, hy⟩ : ∃ y, xs.getD hi (0, 0) = y := ⟨_, rfl⟩
        have Y := aside hy
        rw [hy] at hcl
        clear hy
        obtain ⟨ya, yb⟩ := y
        have c0 := hcl 0 _ rfl
        have c1 := hcl 1 _ rfl
        rw [Nat.add_zero] at c0
        clear hcl hbl
        have HL := aside hln
        clear hln
        have HCl := aside (cloP_any (ya, yb) t)
        unfold keyI at HCl
        dsimp only at HCl
        by_cases hyx : ya = t
        · have hm1 : cmpI ya t = 0 := by unfold cmpI; rw [if_neg (by omega), if_neg (by omega)]
          rw [hm1] at HCl
          have HX := aside hyx
          clear hyx hm1
          go_wp2_with (go_at_call 59; refine (HCl.out _).mono ?_; rintro e w2 ⟨rfl, hb2⟩; have HB2 := aside (HB.out.trans (hb2.mono HB.out.size)); clear hb2)
          go_ret2
          skip
          refine ⟨?_, HB2.out⟩
          rw [E1.out, has_of (0, 0) E1.out (by have := HL.out; omega) Y.out, decide_eq_true (show keyP (ya, yb) = t from HX.out)]
          first | rfl | simp [*]
        · have hm1 : ¬ cmpI ya t = 0 := by unfold cmpI; split; decide; split; decide; omega
          generalize cmpI ya t = r at HCl hm1
          go_wp2_with (go_at_call 59; refine (HCl.out _).mono ?_; rintro e w2 ⟨rfl, hb2⟩; have HB2 := aside (HB.out.trans (hb2.mono HB.out.size)); clear hb2)
          go_ret2
          skip
          refine ⟨?_, HB2.out⟩
          rw [E1.out, has_of (0, 0) E1.out (by have := HL.out; omega) Y.out, decide_eq_false (show ¬ keyP (ya, yb) = t from hyx)]
          first | rfl | simp [*]
      · go_wp2
        go_ret2
        refine ⟨?_, HB.out⟩
        rw [E1.out, has_none E1.out (by omega)]
        first | rfl | simp [*]

theorem cloR_any (x : (Int × Int × Bool)) (t : Int) (w : World) : Calls Tryd.prog 50 #[.agg #[.int .i64 x.1, .int .i64 x.2.1, .bool x.2.2], .int .i64 t] w (fun e w' => e = .returned (.int .i64 (cmpI (keyI x.1) t)) ∧ Below w.heap.size w w') := by
  obtain ⟨a, b, c⟩ := x
  have HC := aside (cmp_any a t)
  have HB := aside ((Below.refl w.heap.size w).alloc (Nat.le_refl _) (.cells #[.int .i64 a, .int .i64 b, .bool c] 49))
  unfold keyI
  generalize cmpI a t = r at HC
  go_enter Tryd.func50, Tryd.ntmps50
  go_wp2_with (go_at_call 51; refine (HC.out _).mono ?_; rintro e w' ⟨rfl, rfl⟩)
  go_ret
  exact ⟨rfl, HB.out⟩

set_option maxHeartbeats 2000000 in
set_option maxRecDepth 100000 in
theorem findR_any (xs : List (Int × Int × Bool)) (hs : Asc keyR xs) (A : Option Addr) (n c : Nat) (t : Int) (w : World) (h : FSl encR 3 w w.heap.size A n xs) (hn : n ≤ 1000) :
    Calls Tryd.prog 49 #[.slice A n c, .int .i64 t, .func (.func 50) #[] #[]] w (fun e w' => e = .returned (.tuple #[.int .i64 (lbN keyR t xs), .bool (hasB keyR t xs)]) ∧ Below w.heap.size w w') := by
  have hln := FSl.len encR_len (by decide) h
  have HS := aside h
  have HA := aside hs
  have HB0 := aside (Below.refl w.heap.size w)
  clear h hs
  go_enter Tryd.func49, Tryd.ntmps49
  go_wp2
  go_loopg [9, 10] n (fun g s7 s8 wr => ∃ lo hi : Nat, s7 = .int .i64 lo ∧ s8 = .int .i64 hi ∧ lo ≤ hi ∧ hi ≤ n ∧ hi - lo ≤ g ∧ Hid (Below w.heap.size w wr) ∧ Hid ((∀ k, k < lo → keyR (xs.getD k (0, 0, false)) < t) ∧ (∀ k, hi ≤ k → k < n → t ≤ keyR (xs.getD k (0, 0, false)))))
  case atStart => exact ⟨0, n, rfl, rfl, Nat.zero_le _, Nat.le_refl _, by omega, HB0, aside ⟨fun k hk => absurd hk (Nat.not_lt_zero _), fun k h1 h2 => by omega⟩⟩
  case round =>
    clear HB0
    obtain ⟨lo, hi, rfl, rfl, hlh, hin, hg, HB, I⟩ := hrel
    by_cases hlt : lo < hi
    · obtain ⟨b, off, rfl, hbl, hcl⟩ := FSl.at_ (k := (lo + hi) / 2) encR_len (by decide) (0, 0, false) (FSl.below HS.out HB.out) (by omega)
      obtain ⟨y, hy⟩ : ∃ y, xs.getD ((lo + hi) / 2) (0, 0, false) = y := ⟨_, rfl⟩
      have Y := aside hy
      rw [hy] at hcl
      clear hy
      obtain ⟨ya, yb, yc⟩ := y
      have c0 := hcl 0 _ rfl
      have c1 := hcl 1 _ rfl
      have c2 := hcl 2 _ rfl
      rw [Nat.add_zero] at c0
      clear hcl hbl
      have HL := aside hln
      clear hln
      have HCl := aside (cloR_any (ya, yb, yc) t)
      unfold keyI at HCl
      dsimp only at HCl
      by_cases hyx : ya < t
      · have hm1 : cmpI ya t < 0 := by unfold cmpI; rw [if_pos hyx]; decide
        generalize cmpI ya t = r at HCl hm1
        go_wp2_with (go_at_call 50; refine (HCl.out _).mono ?_; rintro e w2 ⟨rfl, hb2⟩; have HB2 := aside (HB.out.trans (hb2.mono HB.out.size)); clear hb2)
        go_roundg (hi - ((lo + hi) / 2 + 1))
        case measure => omega
        case rel =>
          skip
          refine ⟨(lo + hi) / 2 + 1, hi, by rw [show ((lo : Int) + (hi : Int)) / 2 + 1 = (((lo + hi) / 2 + 1 : Nat) : Int) by omega], rfl, by omega, hin, Nat.le_refl _, HB2, aside ⟨fun k hk => ?_, I.out.2⟩⟩
          have h1 := asc_le HA.out (0, 0, false) (a := k) (b := (lo + hi) / 2) (by omega) (by have := HL.out; omega)
          rw [Y.out] at h1
          exact Int.lt_of_le_of_lt h1 hyx
      · have hm1 : ¬ cmpI ya t < 0 := by unfold cmpI; rw [if_neg hyx]; split <;> decide
        generalize cmpI ya t = r at HCl hm1
        go_wp2_with (go_at_call 50; refine (HCl.out _).mono ?_; rintro e w2 ⟨rfl, hb2⟩; have HB2 := aside (HB.out.trans (hb2.mono HB.out.size)); clear hb2)
        go_roundg ((lo + hi) / 2 - lo)
        case measure => omega
        case rel =>
          skip
          refine ⟨lo, (lo + hi) / 2, rfl, by rw [show ((lo : Int) + (hi : Int)) / 2 = (((lo + hi) / 2 : Nat) : Int) by omega], by omega, by omega, Nat.le_refl _, HB2, aside ⟨I.out.1, fun k hk hkn => ?_⟩⟩
          have h1 := asc_le HA.out (0, 0, false) (a := (lo + hi) / 2) (b := k) hk (by have := HL.out; omega)
          rw [Y.out] at h1
          first | exact Int.le_trans hyx h1 | exact Int.le_trans (Int.not_lt.1 hyx) h1
    · obtain rfl : hi = lo := by omega
      have E1 : Hid (lbN keyR t xs = hi) := aside (lb_of (0, 0, false) (by omega) I.out.1 (fun k h1 h2 => I.out.2 k h1 (by omega)))
      by_cases hn2 : hi < n
      · obtain ⟨b, off, rfl, hbl, hcl⟩ := FSl.at_ (k := hi) encR_len (by decide) (0, 0, false) (FSl.below HS.out HB.out) hn2
        obtain ⟨y, hy⟩ : ∃ y, xs.getD hi (0, 0, false) = y := ⟨_, rfl⟩
        have Y := aside hy
        rw [hy] at hcl
        clear hy
        obtain ⟨ya, yb, yc⟩ := y
        have c0 := hcl 0 _ rfl
        have c1 := hcl 1 _ rfl
        have c2 := hcl 2 _ rfl
        rw [Nat.add_zero] at c0
        clear hcl hbl
        have HL := aside hln
        clear hln
        have HCl := aside (cloR_any (ya, yb, yc) t)
        unfold keyI at HCl
        dsimp only at HCl
        by_cases hyx : ya = t
        · have hm1 : cmpI ya t = 0 := by unfold cmpI; rw [if_neg (by omega), if_neg (by omega)]
          rw [hm1] at HCl
          have HX := aside hyx
          clear hyx hm1
          go_wp2_with (go_at_call 50; refine (HCl.out _).mono ?_; rintro e w2 ⟨rfl, hb2⟩; have HB2 := aside (HB.out.trans (hb2.mono HB.out.size)); clear hb2)
          go_ret2
          skip
          refine ⟨?_, HB2.out⟩
          rw [E1.out, has_of (0, 0, false) E1.out (by have := HL.out; omega) Y.out, decide_eq_true (show keyR (ya, yb, yc) = t from HX.out)]
          first | rfl | simp [*]
        · have hm1 : ¬ cmpI ya t = 0 := by unfold cmpI; split; decide; split; decide; omega
          generalize cmpI ya t = r at HCl hm1
          go_wp2_with (go_at_call 50; refine (HCl.out _).mono ?_; rintro e w2 ⟨rfl, hb2⟩; have HB2 := aside (HB.out.trans (hb2.mono HB.out.size)); clear hb2)
          go_ret2
          skip
          refine ⟨?_, HB2.out⟩
          rw [E1.out, has_of (0, 0, false) E1.out (by have := HL.out; omega) Y.out, decide_eq_false (show ¬ keyR (ya, yb, yc) = t from hyx)]
          first | rfl | simp [*]
      · go_wp2
        go_ret2
        refine ⟨?_, HB.out⟩
        rw [E1.out, has_none E1.out (by omega)]
        first | rfl | simp [*]

end Go.Proofs.YtcmlhopidohimaaDoor
