/- RankSorts: the numbers at all places, one behind the other, are the numbers, rising, each as often as it is there. No condition: every list of ints. -/
import Derived.Test.YtelmllngcbihjaaRankW
import Derived.Deep.QuietTactic
import Derived.BigQuiet
namespace Go.Proofs.Ytelmllngcbihjaa
open Go.RowKit Go.ChangeShapes Go.WideShapes Go.ChangeAt

theorem countP_range (a b : Nat) : ∀ n, a ≤ b → b ≤ n → (List.range n).countP (fun j => decide (a ≤ j) && decide (j < b)) = b - a
  | 0, _, h => by have : b = 0 := by omega
                  subst this; simp
  | n + 1, h1, h2 => by
    rw [List.range_succ, List.countP_append, List.countP_singleton]
    rcases Nat.lt_or_ge b (n + 1) with h | h
    · rw [countP_range a b n h1 (by omega)]
      have : ¬ n < b := by omega
      simp [this]
    · obtain rfl : b = n + 1 := by omega
      rcases Nat.lt_or_ge a (n + 1) with ha | ha
      · have e : (List.range n).countP (fun j => decide (a ≤ j) && decide (j < n + 1)) = (List.range n).countP (fun j => decide (a ≤ j) && decide (j < n)) :=
          List.countP_congr (fun j hj => by have := List.mem_range.1 hj; simp <;> omega)
        rw [e, countP_range a n n (by omega) (Nat.le_refl _)]
        have : a ≤ n := by omega
        simp [this]
        try omega
      · obtain rfl : a = n + 1 := by omega
        have e : (List.range n).countP (fun j => decide (n + 1 ≤ j) && decide (j < n + 1)) = 0 := List.countP_eq_zero.2 (fun j hj => by have := List.mem_range.1 hj; simp <;> omega)
        rw [e]; simp

def cnt (l : List Int) (v : Int) : Nat := l.countP (fun x => x == v)
theorem cnt_le (l : List Int) (v : Int) : cnt l v ≤ l.length := List.countP_le_length
theorem cnt_snoc (l : List Int) (x v : Int) : cnt (l ++ [x]) v = if x = v then cnt l v + 1 else cnt l v := by
  unfold cnt; by_cases h : x = v <;> simp [List.countP_append, h]

theorem as_often {ns gs : List Int} (hl : gs.length = ns.length) (h : ∀ j, j < ns.length → IsRank ns j (nth gs j)) {v : Int} (hv : v ∈ ns) : cnt ns v = cnt gs v := by
  have e1 : gs = (List.range ns.length).map (nth gs) := by
    apply List.ext_getElem (by simp [hl])
    intro i h1 h2
    simp [nth_get h1]
  have e2 : cnt ns v = upTo ns v - less ns v := by
    rw [upTo_len, lows_len]
    unfold cnt sames
    rw [List.countP_eq_length_filter]; omega
  rw [e2]
  conv => rhs; rw [e1]
  unfold cnt
  rw [List.countP_map, ← countP_range (less ns v) (upTo ns v) ns.length (less_upTo ns v) List.countP_le_length]
  refine List.countP_congr (fun j hj => ?_)
  have hj' := List.mem_range.1 hj
  have hr := h j hj'
  simp only [Bool.and_eq_true, decide_eq_true_eq, Function.comp, beq_iff_eq]
  constructor
  · intro ⟨h1, h2⟩
    exact hr.uniq ⟨h1, h2, hv⟩
  · intro e
    rw [e] at hr
    exact ⟨hr.1, hr.2.1⟩

set_option maxHeartbeats 4000000 in
theorem sorts_any (ns : List Int) (A : Option Addr) (n cap : Nat) (w : World) (hs : ISl w w.heap.size A n ns) (hreach : n * 8 ≤ 140737488351232) :
    Calls Try.prog 3 #[.slice A n cap] w (LawPost w) := by
  have hlen := hs.len
  by_cases hn : n ≤ 60
  · have Hlen := aside hlen
    clear hlen
    go_enter Try.func3, Try.ntmps3
    go_wp2_with fail
    refine (ranked_any _).mono ?_
    rintro e w1 ⟨rfl, hb1⟩
    have hs1 : ISl w1 w.heap.size A n ns := Sl.below hs hb1
    go_wp2_with fail
    go_loopw [4, 5] (fun v4 v5 wr => ∃ (k : Nat) (gs : List Int), k ≤ n ∧ v5 = .int .i64 k ∧ gs.length = k ∧ (∀ j, j < k → IsRank ns j (nth gs j)) ∧ Below w.heap.size w1 wr ∧ IRow wr w.heap.size v4 gs)
      (fun _ v5 _ => n - (intOf v5).toNat)
    case atStart => exact ⟨0, [], Nat.zero_le _, rfl, rfl, fun j hj => absurd hj (by omega), Below.refl _ _, World.ownsRow_nil _ _ _ _⟩
    case round =>
      obtain ⟨k, gs, hk, rfl, hgl, hgr, hb, hrow⟩ := hrel
      have hz := hb.size
      have hzw := hb1.size
      by_cases hlt : k < n
      · have hsr : ISl wr wr.heap.size A n ns := Sl.more (Sl.below hs1 hb) (by omega)
        have Hgl := aside hgl
        have Hgr := aside hgr
        clear hgl hgr
        go_wp2_with fail
        refine (rank_any ns k A n cap wr hsr hreach).mono ?_
        rintro e w2 ⟨r, v, rfl, hb2, h2⟩
        have hl := Hlen.out
        rcases h2 with ⟨_, _, rfl, hr⟩ | ⟨h1, _, _⟩ | ⟨_, h1, _, _⟩
        · simp only [Int.toNat_natCast] at hr
          have hrow2 : IRow w2 w.heap.size u4 gs := own_below hrow hb2
          have hz2 := hb2.size
          have hbb := hb.trans (hb2.mono (by omega : w.heap.size ≤ wr.heap.size))
          have hgk : gs.length ≤ k := Nat.le_of_eq Hgl.out
          have hgk' : k ≤ gs.length := Nat.le_of_eq Hgl.out.symm
          have next : ∀ (w3 : World) (A3 : Option Addr) (c3 : Nat), w3.ownsRow w.heap.size 3 1 (.slice A3 (gs.length + 1) c3) (gs.length + 1) (gs.map (Value.int .i64) ++ #[Value.int .i64 r].toList) → Below w.heap.size w2 w3 →
              (∃ (k' : Nat) (gs' : List Int), k' ≤ n ∧ Value.int .i64 ((k : Int) + 1) = .int .i64 k' ∧ gs'.length = k' ∧ (∀ j, j < k' → IsRank ns j (nth gs' j)) ∧ Below w.heap.size w1 w3 ∧ IRow w3 w.heap.size (.slice A3 (gs.length + 1) c3) gs') := by
            intro w3 A3 c3 h3 hb3
            refine ⟨k + 1, gs ++ [r], by omega, by go_num, by simp; omega, fun j hj => ?_, hbb.trans hb3, IRow.push rfl h3⟩
            rcases Nat.lt_or_ge j k with hjk | hjk
            · have : nth (gs ++ [r]) j = nth gs j := by
                rw [nth_get (by simp; omega), nth_get (by omega), List.getElem_append_left (by omega)]
              rw [this]; exact Hgr.out j hjk
            · obtain rfl : j = k := by omega
              have : nth (gs ++ [r]) j = r := by
                rw [nth_get (by simp; omega), List.getElem_append_right (by omega)]; simp
              rw [this]; exact hr
          have Hnext := aside next
          clear next hl
          rcases Nat.eq_zero_or_pos k with hk0 | hk0
          · subst hk0
            go_wp2_with (at_builtin; refine wpList_push rfl (.tmp 45) (.tmp 47) 22 rfl w.heap.size _ 1 8 Try.underlying22 intInfo rfl (by decide) _ _ _ rfl rfl rfl rfl hrow2 (by omega) (by unfold maxLen; omega) (by omega) ?_)
            intro A3 c3 w3 _ _ hown3 hb3 hz3 _
            go_wp2
            exact ⟨Hnext.out w3 A3 c3 hown3 hb3, by simp [intOf]; omega⟩
          · obtain ⟨m, rfl⟩ : ∃ m, k = m + 1 := ⟨k - 1, by omega⟩
            obtain ⟨A4, n4, c4, rfl, i4, j4, l4⟩ := hrow2.out
            obtain ⟨b4, o4, rfl, hbl4, hc4⟩ := i4.at_ (k := m) (by have := i4.len; omega)
            have hge : nth gs m ≤ r := (Hgr.out m (by omega)).mono hr (by omega)
            have hn4 : m < n4 := by have := i4.len; omega
            have hi1 : (m : Int) < (n4 : Int) := by omega
            go_wp2_with (at_builtin; refine wpList_push rfl (.tmp 45) (.tmp 47) 22 rfl w.heap.size _ 1 8 Try.underlying22 intInfo rfl (by decide) _ _ _ rfl rfl rfl rfl hrow2 (by omega) (by unfold maxLen; omega) (by omega) ?_)
            intro A3 c3 w3 _ _ hown3 hb3 hz3 _
            go_wp2
            exact ⟨Hnext.out w3 A3 c3 hown3 hb3, by simp [intOf]; omega⟩
        · subst h1; simp at hl; omega
        · omega
      · obtain rfl : k = n := by omega
        have hl := Hlen.out
        obtain ⟨A4, n4, c4, rfl, i4, j4, l4⟩ := hrow.out
        have hn4 := i4.len
        obtain rfl : n4 = k := by omega
        have hB : Below w.heap.size w wr := hb1.trans hb
        have hoft : ∀ v, v ∈ ns → cnt ns v = cnt gs v := fun v hv => as_often (by omega) (fun j hj => hgr j (by omega)) hv
        have hsr : ISl wr wr.heap.size A n4 ns := Sl.more (Sl.below hs1 hb) (by omega)
        have Hoft := aside hoft
        have Hgl := aside hgl
        clear hoft hgl hgr hrow hl hn4 hs1 hb hb1
        go_wp2_with fail
        go_loopw [8] (fun v8 w2 => ∃ (i q : Nat), i ≤ n4 ∧ v8 = .int .i64 i ∧ w2 = wr.drewN q) (fun v8 _ => n4 - (intOf v8).toNat)
        case atStart => exact ⟨0, 0, Nat.zero_le _, rfl, rfl⟩
        case round =>
          obtain ⟨i, q, hi, rfl, rfl⟩ := hrel
          by_cases hil : i < n4
          · obtain ⟨bi, oi, rfl, hbi, hci⟩ := hsr.at_ hil
            go_wp2_with fail
            go_loopw [9, 10, 11] (fun v9 v10 v11 w3 => ∃ (j q' : Nat), j ≤ n4 ∧ v11 = .int .i64 j ∧ v9 = .int .i64 (cnt (ns.take j) (nth ns i)) ∧ v10 = .int .i64 (cnt (gs.take j) (nth ns i)) ∧ w3 = wr.drewN q') (fun _ _ v11 _ => n4 - (intOf v11).toNat)
            case atStart => exact ⟨0, q, Nat.zero_le _, rfl, rfl, rfl, rfl⟩
            case round =>
              obtain ⟨j, q', hj, rfl, rfl, rfl, rfl⟩ := hrel
              by_cases hjl : j < n4
              · obtain ⟨b2, o2, hA2, hb2, hcj⟩ := hsr.at_ hjl
                simp only [Option.some.injEq, Addr.mk.injEq, and_true] at hA2
                obtain ⟨rfl, rfl⟩ := hA2
                obtain ⟨b3, o3, rfl, hb3, hcg⟩ := i4.at_ hjl
                have tn := take_nth (zs := ns) (k := j) (by have := Hlen.out; omega)
                have tg := take_nth (zs := gs) (k := j) (by have := Hgl.out; omega)
                have cn1 : cnt (ns.take j) (nth ns i) ≤ j := Nat.le_trans (cnt_le _ _) (List.length_take_le _ _)
                have cg1 : cnt (gs.take j) (nth ns i) ≤ j := Nat.le_trans (cnt_le _ _) (List.length_take_le _ _)
                have sn : cnt (ns.take (j + 1)) (nth ns i) = if nth ns j = nth ns i then cnt (ns.take j) (nth ns i) + 1 else cnt (ns.take j) (nth ns i) := by rw [tn, cnt_snoc]
                have sg : cnt (gs.take (j + 1)) (nth ns i) = if nth gs j = nth ns i then cnt (gs.take j) (nth ns i) + 1 else cnt (gs.take j) (nth ns i) := by rw [tg, cnt_snoc]
                have Sn := aside sn
                have Sg := aside sg
                clear tn tg sn sg
                generalize cnt (ns.take j) (nth ns i) = cn at *
                generalize cnt (gs.take j) (nth ns i) = cg at *
                have hi1 : (j : Int) < (n4 : Int) := by omega
                have hi2 : (i : Int) < (n4 : Int) := by omega
                have hi3 : (0 : Int) ≤ (i : Int) := by omega
                have hi4 : (0 : Int) ≤ (j : Int) := by omega
                go_wp2_with fail
                go_quiet (fail)
                by_cases e1 : nth ns j = nth ns i
                · have e1' : (nth ns j == nth ns i) = true := beq_iff_eq.2 e1
                  have E1 := aside e1
                  clear e1
                  go_wp2_with fail
                  go_quiet (fail)
                  by_cases e2 : nth gs j = nth ns i
                  · have e2' : (nth gs j == nth ns i) = true := beq_iff_eq.2 e2
                    have E2 := aside e2
                    clear e2
                    go_wp2
                    refine ⟨⟨j + 1, _, by omega, by go_num, ?_, ?_, rfl⟩, by simp [intOf]; omega⟩
                    · rw [Sn.out, if_pos E1.out]; go_num
                    · rw [Sg.out, if_pos E2.out]; go_num
                  · have e2' : (nth gs j == nth ns i) = false := beq_eq_false_iff_ne.2 e2
                    have E2 := aside e2
                    clear e2
                    go_wp2
                    refine ⟨⟨j + 1, _, by omega, by go_num, ?_, ?_, rfl⟩, by simp [intOf]; omega⟩
                    · rw [Sn.out, if_pos E1.out]; go_num
                    · rw [Sg.out, if_neg E2.out]
                · have e1' : (nth ns j == nth ns i) = false := beq_eq_false_iff_ne.2 e1
                  have E1 := aside e1
                  clear e1
                  go_wp2_with fail
                  go_quiet (fail)
                  by_cases e2 : nth gs j = nth ns i
                  · have e2' : (nth gs j == nth ns i) = true := beq_iff_eq.2 e2
                    have E2 := aside e2
                    clear e2
                    go_wp2
                    refine ⟨⟨j + 1, _, by omega, by go_num, ?_, ?_, rfl⟩, by simp [intOf]; omega⟩
                    · rw [Sn.out, if_neg E1.out]
                    · rw [Sg.out, if_pos E2.out]; go_num
                  · have e2' : (nth gs j == nth ns i) = false := beq_eq_false_iff_ne.2 e2
                    have E2 := aside e2
                    clear e2
                    go_wp2
                    refine ⟨⟨j + 1, _, by omega, by go_num, ?_, ?_, rfl⟩, by simp [intOf]; omega⟩
                    · rw [Sn.out, if_neg E1.out]
                    · rw [Sg.out, if_neg E2.out]
              · obtain rfl : j = n4 := by omega
                have hl := Hlen.out
                have hg := Hgl.out
                have heq := Hoft.out (nth ns i) (nth_mem (by omega))
                rw [List.take_of_length_le (by omega), List.take_of_length_le (by omega)]
                rw [← heq]
                have hcl := cnt_le ns (nth ns i)
                generalize cnt ns (nth ns i) = q0 at hcl ⊢
                have hq0 : ((q0 : Int) != q0) = false := by simp
                clear heq hl hg
                go_wp2
                exact ⟨⟨i + 1, q', by omega, by go_num, rfl⟩, by simp [intOf]; omega⟩
          · go_wp2
            go_ret
            exact ⟨rfl, hB.trans ⟨rfl, rfl, rfl, Nat.le_refl _, fun _ _ => rfl⟩⟩
  · have hn' : 60 < n := by omega
    go_enter Try.func3, Try.ntmps3
    go_wp2_with fail
    refine (ranked_any _).mono ?_
    rintro e w1 ⟨rfl, hb1⟩
    go_wp2
    go_ret
    exact ⟨rfl, hb1⟩

/-- What the law's arguments are. -/
theorem rankSorts_walk {H : Type} {enc : TypeId × Value → H} (W : World) (args : Array Value) (ds : List (DataW H)) (ps : List MemPlace)
    (h : LawPre enc Try.prog Try.f3 W args ds ps) : Calls Try.prog 3 args W (LawPost W) := by
  obtain ⟨hA, ⟨base, hval⟩, hlt, hsz⟩ := h
  rw [Try.params3] at hA hval hsz
  obtain ⟨v0, d0, rfl, rfl, h0⟩ := trodAll_one hA
  obtain ⟨A, n, c', zs, rfl, hc1, hc2, hs, _, hx⟩ := open_intSlice (hval 0 _ v0 rfl rfl) h0 hlt
  exact sorts_any zs A n c' W hs (reach_ints hsz (j := 0) rfl rfl Try.underlying22 (by kernel_rfl) hx)

set_option maxRecDepth 100000 in
theorem rankSorts_lifted (os : Os) (started : os.Started) (H : Type) (enc : TypeId × Value → H) :
    ReturnsInHanded {} Try.checked os 3 .any (Rows.rankSortsSpec.pre6 enc Try.prog Try.f3 Rows.rankSortsRow.domain false) (Rows.rankSortsSpec.post enc Try.prog Try.f3 false true false false) :=
  law_lifted (C := Try.checked) (B := 4) (n := 1) Try.own started (by kernel_rfl) Try.func3
      (ChangeSpec.witness6 (enc := enc) (C := Try.checked) false ⟨#[], #[.slice none 0 0], []⟩ 8 (by kernel_rfl) (by kernel_rfl) (by kernel_rfl) (by kernel_rfl))
      rfl Try.underlying4 (by kernel_rfl) Try.laidOut (by kernel_rfl) (by kernel_rfl) (fun ds h => by match ds, h with | [a], _ => rfl) rankSorts_walk

/-- The statement. -/
theorem RankSorts_holds : Rows.RankSortsSaid :=
  OpenClaim.holds_of_wide 3 Try.f3 rfl rfl rfl rfl rfl rfl rfl ⟨rfl, rfl, rfl, rfl, rfl⟩ rfl rfl rfl rfl rfl (by kernel_rfl) Try.func3 (by kernel_rfl)
    (of_decide_eq_true (by kernel_rfl)) (by unfold Func.isWrapper; first | (rw [if_pos (by decide +kernel)]; kernel_rfl) | (rw [if_neg (by decide +kernel)]; exact ⟨rfl, rfl⟩))
    (fun os started H enc _ => rankSorts_lifted os started H enc)
#print axioms RankSorts_holds
end Go.Proofs.Ytelmllngcbihjaa
