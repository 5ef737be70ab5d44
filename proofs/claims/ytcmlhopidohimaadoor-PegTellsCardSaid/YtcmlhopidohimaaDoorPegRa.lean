/- The reference's words over pegs: Money, PileOf, Piled. Conditions: named in each theorem. -/
import Derived.Test.YtcmlhopidohimaaDoorPegR
import Derived.Test.YtcmlhopidohimaaDoorPegO
import Derived.Test.YtcmlhopidohimaaDoorErr
import Derived.Deep.Cut
namespace Go.Proofs.YtcmlhopidohimaaDoor
open Go.RowKit Go.ChangeShapes Go.WideShapes Go.ChangeAt

set_option maxRecDepth 100000 in
theorem rmoney_any (a : Int) (w : World) : Calls Tryd.prog 19 #[.int .i64 a] w (fun e w' => e = .returned (.bool (decide (moneyE a = 0))) ∧ w' = w) := by
  have hway : (0 ≤ a ∧ a ≤ 1125899906842624 ∧ decide (moneyE a = 0) = true) ∨ (a < 0 ∧ decide (moneyE a = 0) = false) ∨ (0 ≤ a ∧ 1125899906842624 < a ∧ decide (moneyE a = 0) = false) := by
    have h := @moneyE_zero a
    by_cases h0 : a < 0
    · exact .inr (.inl ⟨h0, decide_eq_false (fun e => by have := h.1 e; omega)⟩)
    · by_cases h1 : a ≤ 1125899906842624
      · exact .inl ⟨by omega, h1, decide_eq_true (h.2 ⟨by omega, h1⟩)⟩
      · exact .inr (.inr ⟨by omega, by omega, decide_eq_false (fun e => by have := h.1 e; omega)⟩)
  rcases hway with ⟨h, h', hd⟩ | ⟨h, hd⟩ | ⟨h, h', hd⟩
  all_goals rw [hd]
  all_goals clear hd
  all_goals go_enter Tryd.func19, Tryd.ntmps19
  all_goals go_wp2
  all_goals go_ret
  all_goals exact ⟨by first | rfl | (simp; omega) | simp, rfl⟩

theorem amt_at' {ps : List (Int × Int)} (h : Asc keyP ps) {k : Nat} (hk : k < ps.length) : amtS (ps.getD k (0, 0)).1 ps = (ps.getD k (0, 0)).2 := by
  have hm : ps.getD k (0, 0) ∈ ps := getD_mem (0, 0) hk
  generalize ps.getD k (0, 0) = y at hm
  obtain ⟨a, b, rfl⟩ := List.append_of_mem hm
  unfold Asc at h
  rw [List.pairwise_append] at h
  obtain ⟨-, h2, h3⟩ := h
  have h4 := List.pairwise_cons.1 h2
  unfold amtS
  have e1 : a.filter (fun z => decide (keyP z = y.1)) = [] := List.filter_eq_nil_iff.2 fun z hz => by
    have h5 : keyP z < keyP y := h3 z hz y (by simp)
    unfold keyP at h5
    have h6 : z.1 ≠ y.1 := by omega
    simp [keyP, h6]
  have e2 : b.filter (fun z => decide (keyP z = y.1)) = [] := List.filter_eq_nil_iff.2 fun z hz => by
    have h5 : keyP y < keyP z := h4.1 z hz
    unfold keyP at h5
    have h6 : z.1 ≠ y.1 := by omega
    simp [keyP, h6]
  rw [List.filter_append, e1, List.filter_cons_of_pos (by simp [keyP]), e2]
  simp
theorem amt_none {ps : List (Int × Int)} {t : Int} (h : ∀ k, k < ps.length → (ps.getD k (0, 0)).1 ≠ t) : amtS t ps = 0 := by
  unfold amtS
  rw [List.filter_eq_nil_iff.2 (fun z hz => by
    obtain ⟨k, hk, rfl⟩ := List.getElem_of_mem hz
    have := h k hk
    rw [List.getD_eq_getElem?_getD, List.getElem?_eq_getElem hk] at this
    have h6 : ps[k].1 ≠ t := this
    simp [keyP, h6])]
  rfl
/-- A peg in its own box, the first block of a call: what a walk reads of it. -/
theorem peg_open {N : Nat} {w : World} {v : Value} {s : PegS} (h : PegAt N w v s) : ∃ (l : Int) (A1 : Option Addr) (n1 c1 : Nat) (A2 : Option Addr) (n2 c2 : Nat) (A3 : Option Addr) (n3 c3 : Nat), v = .agg #[.int .i64 l, .slice A1 n1 c1, .slice A2 n2 c2, .slice A3 n3 c3] ∧ l = s.1 ∧ n1 = s.2.1.length ∧ n2 = s.2.2.1.length ∧ n3 = s.2.2.2.length ∧
    FSl encP 2 w w.heap.size A1 n1 s.2.1 ∧ FSl encI 1 w w.heap.size A2 n2 s.2.2.1 ∧ FSl encR 3 w w.heap.size A3 n3 s.2.2.2 := by
  obtain ⟨A1, n1, c1, A2, n2, c2, A3, n3, c3, rfl, h1, h2, h3, -⟩ := id h
  have h' : PegAt N w (.agg #[.int .i64 s.1, .slice A1 n1 c1, .slice A2 n2 c2, .slice A3 n3 c3]) s := h
  obtain ⟨-, hb, hc, hd⟩ := h'.lens
  exact ⟨_, A1, n1, c1, A2, n2, c2, A3, n3, c3, rfl, rfl, hb, hc, hd, h1, h2, h3⟩
set_option maxHeartbeats 4000000 in
set_option maxRecDepth 100000 in
theorem pileOf_any (s : PegS) (v : Value) (ha : Asc keyP s.2.1) (hn : s.2.1.length ≤ 1000) (t : Int) {N : Nat} (w : World) (h : PegAt N w v s) :
    Calls Tryd.prog 8 #[v, .int .i64 t] w (fun e w' => e = .returned (.int .i64 (amtS t s.2.1)) ∧ Below w.heap.size w w') := by
  obtain ⟨l, A1, n1, c1, A2, n2, c2, A3, n3, c3, rfl, -, hl1, -, -, h1, -, -⟩ := peg_open h
  obtain ⟨l0, ps, is, rs⟩ := s
  dsimp only at ha hn hl1 h1 ⊢
  rw [← hl1] at hn
  have AT0 := aside (AtP.first w (.int .i64 l) (.slice A1 n1 c1) (.slice A2 n2 c2) (.slice A3 n3 c3))
  have HA := aside ha
  have HL := aside hl1
  have H1 := aside h1
  clear h ha hl1 h1
  go_enter Tryd.func8, Tryd.ntmps8
  go_wp2
  change Code.wp _ _ _ _ (w.alloc (.cells #[.int .i64 l, .slice A1 n1 c1, .slice A2 n2 c2, .slice A3 n3 c3] 26))
  generalize w.alloc (.cells #[.int .i64 l, .slice A1 n1 c1, .slice A2 n2 c2, .slice A3 n3 c3] 26) = wb at AT0 ⊢
  have p3 := AT0.out.cells
  obtain ⟨⟨e0, e1, e2, e3⟩, -⟩ := p3
  go_loopw [5] (fun v5 wr => ∃ i : Nat, i ≤ n1 ∧ v5 = .int .i64 i ∧ wr = wb ∧ Hid (∀ k, k < i → (ps.getD k (0, 0)).1 ≠ t)) (fun v5 _ => n1 - (Go.RowKit.intOf v5).toNat)
  case atStart => exact ⟨0, by omega, rfl, rfl, aside (fun k hk => absurd hk (Nat.not_lt_zero k))⟩
  case round =>
    obtain ⟨i, hi, rfl, hwr, HN⟩ := hrel
    try subst hwr
    by_cases hin : i < n1
    · obtain ⟨b, o, hXe, hb, hc⟩ := FSl.at_ encP_len (by decide) (0, 0) (FSl.below H1.out AT0.out.below) hin
      have HAm := aside (amt_at' HA.out (k := i) (by have := HL.out; omega))
      obtain ⟨⟨k, m⟩, hy⟩ : ∃ q : Int × Int, q = ps.getD i (0, 0) := ⟨_, rfl⟩
      rw [← hy] at hc HAm
      have HY := aside hy
      have c0 := hc 0 (.int .i64 k) rfl
      have c1 := hc 1 (.int .i64 m) rfl
      rw [Nat.add_zero] at c0
      subst hXe
      have i0 : (i : Int) < (n1 : Int) := by omega
      have hb' : b < wr.heap.size := Nat.lt_of_lt_of_le hb AT0.out.below.size
      clear hc hy
      by_cases hk : k = t
      · have HAm2 : Hid (amtS t ps = m) := aside (by rw [← hk]; exact HAm.out)
        clear HAm
        subst hk
        go_wp2
        go_ret
        exact ⟨by rw [HAm2.out] <;> rfl, AT0.out.below⟩
      · have hk' : (k == t) = false := by simpa using hk
        have HK := aside hk
        clear hk HAm
        go_wp2
        refine ⟨⟨i + 1, by omega, by go_num, by trivial, aside (fun q hq => ?_)⟩, ?_⟩
        · by_cases hqi : q = i
          · subst hqi
            rw [← HY.out]
            exact HK.out
          · exact HN.out q (by omega)
        · simp [Go.RowKit.intOf]; omega
    · obtain rfl : i = n1 := by omega
      have HZ : Hid (amtS t ps = 0) := aside (amt_none (fun k hk => HN.out k (by have := HL.out; omega)))
      go_wp2
      go_ret
      exact ⟨by rw [HZ.out] <;> rfl, AT0.out.below⟩


/-- What is below a key, of the first so many; and what is above it. -/
def loP (t : Int) (ps : List (Int × Int)) (k : Nat) : List (Int × Int) := (ps.take k).filter (fun x => decide (keyP x < t))
def hiP (t : Int) (ps : List (Int × Int)) (k : Nat) : List (Int × Int) := (ps.take k).filter (fun x => decide (t < keyP x))
theorem filt_step {α : Type} (p : α → Bool) (d : α) {xs : List α} {k : Nat} (h : k < xs.length) : (xs.take (k + 1)).filter p = (xs.take k).filter p ++ (if p (xs.getD k d) then [xs.getD k d] else []) := by
  rw [take_next d h, List.filter_append]
  congr 1
  cases hp : p (xs.getD k d) with
  | true => rw [List.filter_cons_of_pos hp]; rfl
  | false => rw [List.filter_cons_of_neg (by rw [hp]; decide)]; rfl
theorem filt_len {α : Type} (p : α → Bool) (xs : List α) (k : Nat) : ((xs.take k).filter p).length ≤ k := Nat.le_trans (List.length_filter_le _ _) (by rw [List.length_take]; omega)
theorem flatP_app (xs ys : List (Int × Int)) : (xs ++ ys).flatMap encP = xs.flatMap encP ++ ys.flatMap encP := List.flatMap_append
set_option maxHeartbeats 8000000 in
set_option maxRecDepth 100000 in
theorem piled_any (ps : List (Int × Int)) (A : Option Addr) (n c : Nat) (t m : Int) (w : World) (h : FSl encP 2 w w.heap.size A n ps) (hn : n ≤ 1000) (hm : 0 ≤ m) :
    Calls Tryd.prog 30 #[.slice A n c, .int .i64 t, .int .i64 m] w (fun e w' => ∃ A' c', e = .returned (.slice A' (setP t m ps).length c') ∧ OwnP w' w.heap.size (.slice A' (setP t m ps).length c') (setP t m ps).length (setP t m ps) ∧ (setP t m ps).length ≤ c' ∧ c' ≤ maxLen ∧ Below w.heap.size w w') := by
  have hln := FSl.len encP_len (by decide) h
  have HLN := aside hln
  have HS := aside h
  have HMM := aside hm
  have HB0 := aside (Below.refl w.heap.size w)
  have HO0 : Hid (OwnP w w.heap.size (.slice none 0 0) 0 []) := aside ⟨by simp, .inl ⟨rfl, rfl⟩⟩
  clear h hln hm
  go_enter Tryd.func30, Tryd.ntmps30
  go_wp2
  go_loopw [7, 8] (fun v7 v8 wr => ∃ (i : Nat) (A1 : Option Addr) (c1 : Nat), i ≤ n ∧ v8 = .int .i64 i ∧ v7 = .slice A1 (loP t ps i).length c1 ∧ Hid (OwnP wr w.heap.size (.slice A1 (loP t ps i).length c1) (loP t ps i).length (loP t ps i)) ∧ Hid ((loP t ps i).length ≤ c1 ∧ c1 ≤ maxLen) ∧ Hid (Below w.heap.size w wr)) (fun _ v8 _ => n - (Go.RowKit.intOf v8).toNat)
  case atStart => exact ⟨0, none, 0, by omega, rfl, rfl, HO0, aside ⟨Nat.le_refl _, by unfold maxLen; omega⟩, HB0⟩
  case round =>
    clear HO0 HB0
    obtain ⟨i, A1, c1, hi, rfl, rfl, HO, HC, HB⟩ := hrel
    by_cases hin : i < n
    · obtain ⟨b, o, hXe, hb, hc⟩ := FSl.at_ encP_len (by decide) (0, 0) (FSl.below HS.out HB.out) hin
      have hst := filt_step (fun x => decide (keyP x < t)) (0, 0) (xs := ps) (k := i) (by have := HLN.out; omega)
      have hll := filt_len (fun x => decide (keyP x < t)) ps i
      change (loP t ps i).length ≤ i at hll
      change loP t ps (i + 1) = loP t ps i ++ _ at hst
      obtain ⟨⟨k, q⟩, hy⟩ : ∃ q : Int × Int, q = ps.getD i (0, 0) := ⟨_, rfl⟩
      rw [← hy] at hc hst
      have c0 := hc 0 (.int .i64 k) rfl
      have c1' := hc 1 (.int .i64 q) rfl
      rw [Nat.add_zero] at c0
      subst hXe
      have i0 : (i : Int) < (n : Int) := by omega
      have hb' : b < wr.heap.size := Nat.lt_of_lt_of_le hb HB.out.size
      clear hc hy
      obtain ⟨lo, hlo⟩ : ∃ lo, lo = loP t ps i := ⟨_, rfl⟩
      rw [← hlo] at hst hll HO HC ⊢
      by_cases hk : k < t
      · rw [if_pos (show (fun x : Int × Int => decide (keyP x < t)) (k, q) = true from decide_eq_true hk)] at hst
        have HST := aside hst
        have hbz := HB.out.size
        clear hst hlo
        go_wp2_with (first
          | (at_builtin; refine wpList_push rfl (.tmp 23) (.tmp 28) 22 rfl w.heap.size _ 2 16 Tryd.underlying22 infoP rfl (by decide) (.slice A1 lo.length c1) lo.length _ rfl rfl rfl rfl HO.out (by omega) (by unfold maxLen; omega) hbz ?_; intro A3 c3 w3 hc3 hc3' hown3 hb3 hz3' hg3)
          | fail)
        have HO3 := aside hown3
        have H3 := aside (HB.out.trans hb3)
        have HC3 := aside (⟨hc3, hc3'⟩ : lo.length + 1 ≤ c3 ∧ c3 ≤ maxLen)
        clear hown3 hb3 hg3 hc3 hc3'
        have hl : (loP t ps (i + 1)).length = lo.length + 1 := by rw [HST.out]; simp
        exact ⟨⟨i + 1, A3, c3, by omega, by go_num, by rw [hl], aside (by rw [hl, HST.out]; show w3.ownsRow _ _ _ _ _ _; rw [flatP_app]; exact HO3.out), aside (by rw [hl]; exact HC3.out), H3⟩, by simp [Go.RowKit.intOf]; omega⟩
      · rw [if_neg (show ¬ (fun x : Int × Int => decide (keyP x < t)) (k, q) = true from fun e => hk (of_decide_eq_true e)), List.append_nil] at hst
        have HST := aside hst
        clear hst hlo
        go_wp2
        exact ⟨⟨i + 1, A1, c1, by omega, by go_num, by rw [HST.out], aside (by rw [HST.out]; exact HO.out), aside (by rw [HST.out]; exact HC.out), HB⟩, by simp [Go.RowKit.intOf]; omega⟩
    · obtain rfl : i = n := by omega
      have hll := filt_len (fun x => decide (keyP x < t)) ps i
      change (loP t ps i).length ≤ i at hll
      have hlo : loP t ps i = ps.filter (fun x => decide (keyP x < t)) := by unfold loP; rw [← HLN.out, List.take_length]
      rw [hlo] at HO HC hll ⊢
      obtain ⟨lo, hlo'⟩ : ∃ lo, lo = ps.filter (fun x => decide (keyP x < t)) := ⟨_, rfl⟩
      rw [← hlo'] at HO HC hll ⊢
      clear hlo
      have HLO := aside hlo'
      clear hlo'
      have hm0 := HMM.out
      have hbz := HB.out.size
      have H7 := HLN
      go_upto_if 31 with fail
      obtain ⟨mid, hmid⟩ : ∃ mid, mid = lo ++ (if m = 0 then [] else [(t, m)]) := ⟨_, rfl⟩
      have HMid := aside hmid
      go_cut [7] from 10 (fun v7 wx => ∃ (A3 : Option Addr) (c3 : Nat), v7 = .slice A3 mid.length c3 ∧ Hid (OwnP wx w.heap.size (.slice A3 mid.length c3) mid.length mid) ∧ Hid (mid.length ≤ c3 ∧ c3 ≤ maxLen) ∧ Hid (Below w.heap.size w wx))
      case first =>
        clear HMid
        by_cases hz : m = 0
        · rw [if_pos hz, List.append_nil] at hmid
          subst hz
          subst hmid
          go_wp2
          go_meet
          exact ⟨A1, c1, rfl, HO, HC, HB⟩
        · rw [if_neg hz] at hmid
          have HMid := aside hmid
          have hm1 : 0 < m := by omega
          clear hmid hz hm0
          go_wp2_with (first
            | (at_builtin; refine wpList_push rfl (.tmp 32) (.tmp 36) 22 rfl w.heap.size _ 2 16 Tryd.underlying22 infoP rfl (by decide) (.slice A1 lo.length c1) lo.length _ rfl rfl rfl rfl HO.out (by omega) (by unfold maxLen; omega) hbz ?_; intro A3 c3 w3 hc3 hc3' hown3 hb3 hz3' hg3)
            | fail)
          have hl : mid.length = lo.length + 1 := by rw [HMid.out]; simp
          go_meet
          exact ⟨A3, c3, by rw [hl], aside (by rw [hl, HMid.out]; show w3.ownsRow _ _ _ _ _ _; rw [flatP_app]; exact hown3), aside (by rw [hl]; exact ⟨hc3, hc3'⟩), aside (HB.out.trans hb3)⟩
      case rest =>
        obtain ⟨A3, c3, rfl, HO3, HC3, HB3⟩ := hcut
        clear HO HC HB hbz hm0
        have hml : mid.length ≤ lo.length + 1 := by rw [hmid]; split <;> simp
        clear hmid
        go_wp2
        go_loopw [7, 9] (fun v7 v9 wr => ∃ (j : Nat) (A1 : Option Addr) (c1 : Nat), j ≤ i ∧ v9 = .int .i64 j ∧ v7 = .slice A1 (mid ++ hiP t ps j).length c1 ∧ Hid (OwnP wr w.heap.size (.slice A1 (mid ++ hiP t ps j).length c1) (mid ++ hiP t ps j).length (mid ++ hiP t ps j)) ∧ Hid ((mid ++ hiP t ps j).length ≤ c1 ∧ c1 ≤ maxLen) ∧ Hid (Below w.heap.size w wr)) (fun _ v9 _ => i - (Go.RowKit.intOf v9).toNat)
        case atStart =>
          have e0 : mid ++ hiP t ps 0 = mid := by unfold hiP; simp
          exact ⟨0, A3, c3, by omega, rfl, by rw [e0], by rw [e0]; exact HO3, by rw [e0]; exact HC3, HB3⟩
        case round =>
          clear HO3 HC3 HB3
          obtain ⟨j, A4, c4, hj, rfl, rfl, HO, HC, HB⟩ := hrel
          have hll2 := filt_len (fun x => decide (t < keyP x)) ps j
          change (hiP t ps j).length ≤ j at hll2
          obtain ⟨xs, hxs⟩ : ∃ xs, xs = mid ++ hiP t ps j := ⟨_, rfl⟩
          have hxl : xs.length ≤ 2100 := by rw [hxs, List.length_append]; omega
          rw [← hxs] at HO HC ⊢
          by_cases hjn : j < i
          · obtain ⟨b, o, hXe, hb, hc⟩ := FSl.at_ encP_len (by decide) (0, 0) (FSl.below HS.out HB.out) hjn
            have hst := filt_step (fun x => decide (t < keyP x)) (0, 0) (xs := ps) (k := j) (by have := HLN.out; omega)
            change hiP t ps (j + 1) = hiP t ps j ++ _ at hst
            obtain ⟨⟨k, q⟩, hy⟩ : ∃ q : Int × Int, q = ps.getD j (0, 0) := ⟨_, rfl⟩
            rw [← hy] at hc hst
            have c0 := hc 0 (.int .i64 k) rfl
            have c1' := hc 1 (.int .i64 q) rfl
            rw [Nat.add_zero] at c0
            subst hXe
            have i0 : (j : Int) < (i : Int) := by omega
            have hb' : b < wr.heap.size := Nat.lt_of_lt_of_le hb HB.out.size
            clear hc hy
            by_cases hk : t < k
            · rw [if_pos (show (fun x : Int × Int => decide (t < keyP x)) (k, q) = true from decide_eq_true hk)] at hst
              have HST : Hid (mid ++ hiP t ps (j + 1) = xs ++ [(k, q)]) := aside (by rw [hst, hxs, List.append_assoc])
              have hbz := HB.out.size
              clear hst hxs
              go_wp2_with (first
                | (at_builtin; refine wpList_push rfl (.tmp 51) (.tmp 56) 22 rfl w.heap.size _ 2 16 Tryd.underlying22 infoP rfl (by decide) (.slice A4 xs.length c4) xs.length _ rfl rfl rfl rfl HO.out (by omega) (by unfold maxLen; omega) hbz ?_; intro A5 c5 w5 hc5 hc5' hown5 hb5 hz5' hg5)
                | fail)
              have HO5 := aside hown5
              have H5 := aside (HB.out.trans hb5)
              have HC5 := aside (⟨hc5, hc5'⟩ : xs.length + 1 ≤ c5 ∧ c5 ≤ maxLen)
              clear hown5 hb5 hg5 hc5 hc5'
              have hl : (mid ++ hiP t ps (j + 1)).length = xs.length + 1 := by rw [HST.out]; simp
              exact ⟨⟨j + 1, A5, c5, by omega, by go_num, by rw [hl], aside (by rw [hl, HST.out]; show w5.ownsRow _ _ _ _ _ _; rw [flatP_app]; exact HO5.out), aside (by rw [hl]; exact HC5.out), H5⟩, by simp [Go.RowKit.intOf]; omega⟩
            · rw [if_neg (show ¬ (fun x : Int × Int => decide (t < keyP x)) (k, q) = true from fun e => hk (of_decide_eq_true e)), List.append_nil] at hst
              have HST : Hid (mid ++ hiP t ps (j + 1) = xs) := aside (by rw [hst, hxs])
              clear hst hxs
              go_wp2
              exact ⟨⟨j + 1, A4, c4, by omega, by go_num, by rw [HST.out], aside (by rw [HST.out]; exact HO.out), aside (by rw [HST.out]; exact HC.out), HB⟩, by simp [Go.RowKit.intOf]; omega⟩
          · obtain rfl : j = i := by omega
            have HX : Hid (setP t m ps = xs) := aside (by
              rw [hxs, HMid.out, HLO.out]
              unfold setP hiP
              rw [← HLN.out, List.take_length])
            clear hxs
            go_wp2
            go_ret
            exact ⟨A4, c4, by rw [HX.out] <;> rfl, by rw [HX.out]; exact HO.out, by rw [HX.out]; exact HC.out.1, HC.out.2, HB.out⟩
end Go.Proofs.YtcmlhopidohimaaDoor
