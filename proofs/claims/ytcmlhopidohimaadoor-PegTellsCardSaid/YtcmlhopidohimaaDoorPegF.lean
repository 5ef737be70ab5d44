/- More for somebody, or less: the walk. Conditions: named in each theorem. -/
import Derived.Test.YtcmlhopidohimaaDoorPegE
namespace Go.Proofs.YtcmlhopidohimaaDoor
open Go.RowKit Go.ChangeShapes Go.WideShapes Go.ChangeAt

theorem set_cut {α : Type} (y : α) : ∀ (xs : List α) (L : Nat), (xs.set L y).take L ++ (xs.set L y).drop (L + 1) = xs.take L ++ xs.drop (L + 1)
  | [], L => by simp
  | x :: r, 0 => rfl
  | x :: r, L + 1 => by
    have ih := set_cut y r L
    simp only [List.set_cons_succ, List.take_succ_cons, List.drop_succ_cons, List.cons_append]
    rw [ih]
theorem ins_done {w w1 w2 : World} {base pb n C L c' : Nat} {k : Int} {A A' : Option Addr} {v2 v3 : Value} {qs : List (Int × Int)} (o : Obj) (hb1 : Below w.heap.size w w1) (hbox : w.heap[pb]? = some (.cells #[.int .i64 k, .slice A n C, v2, v3] 26 (0, 0)))
    (hfar : ∀ g o s, A = some ⟨g, o, s⟩ → g ≠ pb) (hbp : base ≤ pb) (hbase : base ≤ w.heap.size) (ho : OwnP w2 base (.slice A' (n + 1) c') (n + 1) qs) (hb : Below base (w1.alloc o) w2) (hg : Grew (w1.alloc o) w2 (.slice A n C) (.slice A' (n + 1) c')) (hL : L ≤ n) :
    w2.cell? ⟨pb, 1, none⟩ = some (.slice A n C) ∧ w2.frozen? ⟨pb, 1, none⟩ = false ∧ ∃ g, A' = some ⟨g, 0, none⟩ ∧ PileAt (w2.setCell ⟨pb, 1, none⟩ (.slice (some ⟨g, 0, none⟩) (n + 1) c')) base pb g (n + 1) c' L k v2 v3 qs ∧ From w (w2.setCell ⟨pb, 1, none⟩ (.slice (some ⟨g, 0, none⟩) (n + 1) c')) base pb g A n C := by
  have hpb := (Array.getElem?_eq_some_iff.1 hbox).1
  have hs1 := hb1.size
  have hne : (Value.slice A n C).ownBlock ≠ some pb := by
    intro e
    cases A with
    | none => cases e
    | some a =>
      obtain ⟨q, o, s⟩ := a
      injection e with e
      exact hfar q o s rfl e
  have hx1 : (w1.alloc o).heap[pb]? = w.heap[pb]? := (Below.heap_alloc w1 o pb (by omega)).trans (hb1.block pb hpb)
  have hx2 : w2.heap[pb]? = some (.cells #[.int .i64 k, .slice A n C, v2, v3] 26 (0, 0)) := (hg.by_.block pb (by simp; omega) (fun e => hne e.symm)).trans (hx1.trans hbox)
  obtain ⟨g, cur, rfl, hbg, hcur, -⟩ := own_open ho (.inl (by omega))
  have hgp : g ≠ pb := by
    rcases hg.at_ with e | ⟨q, e, h'⟩
    · intro h
      exact hne (e ▸ (by rw [h]; rfl))
    · have : some g = some q := e
      injection this with this
      simp at h'
      omega
  refine ⟨by simp [World.cell?, hx2], by simp [World.frozen?, hx2], g, rfl, ⟨?_, ?_, by omega, hgp⟩, ⟨?_, ?_, ?_⟩⟩
  · rw [heap_setCell_same w2 pb 1 _ _ _ hx2]
    rfl
  · refine ownsRow_setCell_other ho ?_ _
    intro e
    have : some g = some pb := e
    injection this with this
    exact hgp this
  · exact (((hb1.mono hbase).alloc (by omega) o).trans hb).setCell hbp _
  · exact (((KeptBut.below hb1 _).trans (KeptBut.alloc w1 o (fun _ => False)) (fun _ h => h) (fun _ _ h => h.elim)).trans (KeptBut.grew hg (fun j => (Value.slice A n C).ownBlock = some j) (fun j e => e)) (fun _ h => h) (fun j _ e => .inr e)).trans (KeptBut.setCell w2 ⟨pb, 1, none⟩ _ (fun j => j = pb) rfl) (fun _ h => h) (fun j _ e => .inl e)
  · rcases hg.at_ with e | ⟨q, e, h'⟩
    · exact .inl e.symm
    · have : some g = some q := e
      injection this with this
      simp at h'
      exact .inr (by omega)
theorem putP_len {t : Int} {ps : List (Int × Int)} : lbN keyP t ps < (putP t ps).length := by
  unfold putP
  have hle : lbN keyP t ps ≤ ps.length := List.countP_le_length
  cases hh : hasB keyP t ps with
  | true => rw [if_pos rfl]; exact has_lt hh
  | false =>
    rw [if_neg (by decide), List.length_append, List.length_take]
    simp
    omega
set_option maxHeartbeats 4000000 in
set_option maxRecDepth 100000 in
theorem more_any (ps : List (Int × Int)) (hs : Asc keyP ps) (t d : Int) (base pb n C : Nat) (k : Int) (A : Option Addr) (A2 : Option Addr) (n2 c2 : Nat) (A3 : Option Addr) (n3 c3 : Nat) (w : World)
    (hbox : w.heap[pb]? = some (.cells #[.int .i64 k, .slice A n C, .slice A2 n2 c2, .slice A3 n3 c3] 26 (0, 0))) (hown : OwnP w base (.slice A n C) n ps) (hfar : ∀ g o s, A = some ⟨g, o, s⟩ → g ≠ pb) (hbp : base ≤ pb) (hbase : base ≤ w.heap.size) (hn : n ≤ 900)
    (hwr : IntKind.i64.wrap (((putP t ps).getD (lbN keyP t ps) (0, 0)).2 + d) = ((putP t ps).getD (lbN keyP t ps) (0, 0)).2 + d) :
    Calls Tryd.prog 34 #[.pointer (some ⟨pb, 0, none⟩), .int .i64 t, .int .i64 d] w (fun e w' => e = .returned (.tuple #[]) ∧ MoreD w w' base pb k (.slice A2 n2 c2) (.slice A3 n3 c3) A n C (moreP t d ps)) := by
  have hln : ps.length = n := by
    have := hown.1
    rw [flat_len encP_len] at this
    omega
  have hpl := (Array.getElem?_eq_some_iff.1 hbox).1
  have hC := aside (pile_any ps hs k A n C A2 n2 c2 A3 n3 c3 t w (Sl.own hown) (by omega))
  have b0 : w.cell? ⟨pb, 0, none⟩ = some (.int .i64 k) := by simp [World.cell?, hbox]
  have b1 : w.cell? ⟨pb, 1, none⟩ = some (.slice A n C) := by simp [World.cell?, hbox]
  have b2 : w.cell? ⟨pb, 2, none⟩ = some (.slice A2 n2 c2) := by simp [World.cell?, hbox]
  have b3 : w.cell? ⟨pb, 3, none⟩ = some (.slice A3 n3 c3) := by simp [World.cell?, hbox]
  have hle : lbN keyP t ps ≤ ps.length := List.countP_le_length
  have HBox := aside hbox
  have HOwn := aside hown
  have HFar := aside hfar
  have hget := putP_len (t := t) (ps := ps)
  unfold moreP
  cases hh : hasB keyP t ps with
  | true =>
    have hlt := has_lt hh
    have hput : putP t ps = ps := by unfold putP; rw [if_pos hh]
    rw [hput] at hwr ⊢
    rw [hh] at hC
    unfold addP
    obtain ⟨L, hL⟩ : ∃ L, L = lbN keyP t ps := ⟨_, rfl⟩
    rw [← hL] at hC hlt hwr ⊢
    obtain ⟨⟨y1, y2⟩, hy⟩ : ∃ y, ps.getD L (0, 0) = y := ⟨_, rfl⟩
    rw [hy] at hwr ⊢
    have HY := aside hy
    obtain ⟨g, cur, rfl, hbg, -⟩ := own_open hown (.inl (by omega))
    obtain ⟨m, rfl⟩ : ∃ m, n = m + 1 := ⟨n - 1, by omega⟩
    have hgp : g ≠ pb := hfar g 0 none rfl
    have HKey : Hid (∀ w1, Below w.heap.size w w1 → PileAt w1 base pb g (m + 1) C L k (.slice A2 n2 c2) (.slice A3 n3 c3) ps ∧ From w w1 base pb g (some ⟨g, 0, none⟩) (m + 1) C) := aside (fun w1 hb1 =>
      ⟨⟨(hb1.block pb hpl).trans hbox, own_below hown hb1, by omega, hgp⟩, ⟨hb1.mono hbase, KeptBut.below hb1 _, .inl rfl⟩⟩)
    have hgp' : ¬ pb = g := fun e => hgp e.symm
    clear hh hs hown hfar hbox hy hL hle hput hget
    dsimp only at hwr ⊢
    have hLm : L ≤ m := by omega
    have hLn : (L : Int) < (m : Int) + 1 := by omega
    by_cases hz : y2 + d = 0
    · rw [if_pos hz]
      have hz2 : (y2 + d == 0) = true := by rw [hz]; rfl
      unfold pegV at hC
      go_enter Tryd.func34, Tryd.ntmps34
      go_wp2_with (go_at_call 39; refine hC.out.mono ?_; rintro e w1 ⟨rfl, hb1⟩; obtain ⟨PA, FA⟩ := HKey.out w1 hb1; obtain ⟨q1, q2, q3, q4, q5, q6, e1, e1f, cy, cf, PB⟩ := PA.facts (d := d) HY.out; clear b0 b1 b2 b3 hb1; have FB := FA.set q6 (L * 2 + 1) (.int .i64 (y2 + d)); (try rw [hz] at PB FB); have HPB := aside PB; have HFA := aside FB; clear PA FA PB FB)
      have hD := deleteP_any _ L m hLm (some ⟨g, 0, none⟩) C base _ HPB.out.own (by omega) (Nat.le_trans hbase HFA.out.kept.1)
      rw [Int.natCast_succ] at hD
      refine hD.mono ?_
      clear hD
      rintro e w3 ⟨A4, c4, rfl, hO3, hB3, hG3⟩
      have bx := HPB.out.box3 hG3
      have x1 : w3.cell? ⟨pb, 1, none⟩ = some (.slice (some ⟨g, 0, none⟩) (m + 1) C) := by simp [World.cell?, bx]
      have xf : w3.frozen? ⟨pb, 1, none⟩ = false := by simp [World.frozen?, bx]
      have HD := aside (HPB.out.del HFA.out hbp hO3 hB3 hG3)
      clear bx hO3 hB3 hG3
      go_wp2
      go_end0
      exact ⟨rfl, by rw [← set_cut (y1, 0) ps L]; exact HD.out⟩
    · rw [if_neg hz]
      have hz2 : (y2 + d == 0) = false := by simp only [beq_eq_false_iff_ne, ne_eq]; exact hz
      unfold pegV at hC
      go_enter Tryd.func34, Tryd.ntmps34
      go_wp2_with (go_at_call 39; refine hC.out.mono ?_; rintro e w1 ⟨rfl, hb1⟩; obtain ⟨PA, FA⟩ := HKey.out w1 hb1; obtain ⟨q1, q2, q3, q4, q5, q6, e1, e1f, cy, cf, PB⟩ := PA.facts (d := d) HY.out; clear b0 b1 b2 b3 hb1; have FB := FA.set q6 (L * 2 + 1) (.int .i64 (y2 + d)); (try rw [hz] at PB FB); have HPB := aside PB; have HFA := aside FB; clear PA FA PB FB)
      go_end0
      exact ⟨rfl, HPB.out.fin HFA.out⟩
  | false =>
    have hput : putP t ps = ps.take (lbN keyP t ps) ++ (t, 0) :: ps.drop (lbN keyP t ps) := by unfold putP; rw [if_neg (by rw [hh]; decide)]
    rw [hput] at hwr ⊢
    rw [hh] at hC
    unfold addP
    obtain ⟨L, hL⟩ : ∃ L, L = lbN keyP t ps := ⟨_, rfl⟩
    rw [← hL] at hC hwr hle ⊢
    have hy : (ps.take L ++ (t, 0) :: ps.drop L).getD L (0, 0) = (t, 0) := by
      rw [List.getD_eq_getElem?_getD, List.getElem?_append_right (by rw [List.length_take]; omega), List.length_take, Nat.min_eq_left hle, Nat.sub_self]
      rfl
    rw [hy] at hwr ⊢
    have HY := aside hy
    have HIns : Hid (∀ w1, Below w.heap.size w w1 → Calls Tryd.prog 47 #[.slice A n C, .int .i64 L, .slice (some ⟨w1.heap.size, 0, none⟩) 1 1] (w1.alloc (.cells #[.int .i64 t, .int .i64 0] 46)) (fun e w' => ∃ A' c', e = .returned (.slice A' (n + 1) c') ∧ OwnP w' base (.slice A' (n + 1) c') (n + 1) (ps.take L ++ (t, 0) :: ps.drop L) ∧ Below base (w1.alloc (.cells #[.int .i64 t, .int .i64 0] 46)) w' ∧ Grew (w1.alloc (.cells #[.int .i64 t, .int .i64 0] 46)) w' (.slice A n C) (.slice A' (n + 1) c'))) := aside (fun w1 hb1 => by
      have h1 := own_below hown hb1
      have h2 := own_below h1 ((Below.refl _ _).alloc (Nat.le_refl _) (.cells #[.int .i64 t, .int .i64 0] 46))
      refine insertP_any ps (t, 0) L n (by omega) A C base w1.heap.size _ h2 (heap_alloc_new _ _) ?_ (by omega) (by have := hb1.size; simp; omega)
      rintro g o s rfl
      rcases h1.2 with ⟨e, -⟩ | ⟨g', cap, cur, e, -, h4, -⟩
      · cases e
      · injection e with e
        injection e with e
        injection e with e
        have := (Array.getElem?_eq_some_iff.1 h4).1
        omega)
    have HDone : Hid (∀ (w1 : World), Below w.heap.size w w1 → ∀ w2 A' c', OwnP w2 base (.slice A' (n + 1) c') (n + 1) (ps.take L ++ (t, 0) :: ps.drop L) → Below base (w1.alloc (.cells #[.int .i64 t, .int .i64 0] 46)) w2 → Grew (w1.alloc (.cells #[.int .i64 t, .int .i64 0] 46)) w2 (.slice A n C) (.slice A' (n + 1) c') →
        w2.cell? ⟨pb, 1, none⟩ = some (.slice A n C) ∧ w2.frozen? ⟨pb, 1, none⟩ = false ∧ ∃ g, A' = some ⟨g, 0, none⟩ ∧ PileAt (w2.setCell ⟨pb, 1, none⟩ (.slice (some ⟨g, 0, none⟩) (n + 1) c')) base pb g (n + 1) c' L k (.slice A2 n2 c2) (.slice A3 n3 c3) (ps.take L ++ (t, 0) :: ps.drop L) ∧ From w (w2.setCell ⟨pb, 1, none⟩ (.slice (some ⟨g, 0, none⟩) (n + 1) c')) base pb g A n C) :=
      aside (fun w1 hb1 w2 A' c' h1 h2 h3 => ins_done _ hb1 hbox hfar hbp hbase h1 h2 h3 (by omega))
    have HB1 : Hid (∀ w1, Below w.heap.size w w1 → w1.cell? ⟨pb, 1, none⟩ = some (.slice A n C)) := aside (fun w1 hb1 => (hb1.cell (p := ⟨pb, 1, none⟩) hpl).trans b1)
    clear hh hs hown hfar hbox hy hL hput hget
    dsimp only at hwr ⊢
    have hLn : (L : Int) < (n : Int) + 1 := by omega
    have hLm : L ≤ n := by omega
    rw [Int.zero_add] at hwr ⊢
    by_cases hz : d = 0
    · rw [if_pos hz]
      have hz2 : (d == 0) = true := by rw [hz]; rfl
      unfold pegV at hC
      go_enter Tryd.func34, Tryd.ntmps34
      go_wp2_with (first
        | (go_at_call 39; refine hC.out.mono ?_; rintro e w1 ⟨rfl, hb1⟩; have i1 := HB1.out w1 hb1; have Hb1 := aside hb1; clear hb1)
        | (go_at_call 47; refine (HIns.out _ Hb1.out).mono ?_; rintro e w2 ⟨A4, c4, rfl, hO2, hB2, hG2⟩; obtain ⟨x1, xf, g, rfl, PA, FA⟩ := HDone.out _ Hb1.out w2 A4 c4 hO2 hB2 hG2; obtain ⟨q1, q2, q3, q4, q5, q6, e1, e1f, cy, cf, PB⟩ := PA.facts (d := d) HY.out; clear b0 b1 b2 b3; have FB := FA.set q6 (L * 2 + 1) (.int .i64 d); rw [Int.zero_add] at PB; (try rw [hz] at PB FB); have HPB := aside PB; have HFA := aside FB; have hgp1 : ¬ pb = g := fun e => PA.far e.symm; clear PA FA PB FB hO2 hB2 hG2))
      have hD := deleteP_any _ L n hLm (some ⟨g, 0, none⟩) c4 base _ HPB.out.own (by omega) (Nat.le_trans hbase HFA.out.kept.1)
      rw [Int.natCast_succ] at hD
      refine hD.mono ?_
      clear hD
      rintro e w3 ⟨A5, c5, rfl, hO3, hB3, hG3⟩
      have bx := HPB.out.box3 hG3
      have x1 : w3.cell? ⟨pb, 1, none⟩ = some (.slice (some ⟨g, 0, none⟩) (n + 1) c4) := by simp [World.cell?, bx]
      have xf : w3.frozen? ⟨pb, 1, none⟩ = false := by simp [World.frozen?, bx]
      have HD := aside (HPB.out.del HFA.out hbp hO3 hB3 hG3)
      clear bx hO3 hB3 hG3
      go_wp2
      go_end0
      exact ⟨rfl, by rw [← set_cut (t, 0) _ L]; exact HD.out⟩
    · rw [if_neg hz]
      have hz2 : (d == 0) = false := by simp only [beq_eq_false_iff_ne, ne_eq]; exact hz
      unfold pegV at hC
      go_enter Tryd.func34, Tryd.ntmps34
      go_wp2_with (first
        | (go_at_call 39; refine hC.out.mono ?_; rintro e w1 ⟨rfl, hb1⟩; have i1 := HB1.out w1 hb1; have Hb1 := aside hb1; clear hb1)
        | (go_at_call 47; refine (HIns.out _ Hb1.out).mono ?_; rintro e w2 ⟨A4, c4, rfl, hO2, hB2, hG2⟩; obtain ⟨x1, xf, g, rfl, PA, FA⟩ := HDone.out _ Hb1.out w2 A4 c4 hO2 hB2 hG2; obtain ⟨q1, q2, q3, q4, q5, q6, e1, e1f, cy, cf, PB⟩ := PA.facts (d := d) HY.out; clear b0 b1 b2 b3; have FB := FA.set q6 (L * 2 + 1) (.int .i64 d); rw [Int.zero_add] at PB; (try rw [hz] at PB FB); have HPB := aside PB; have HFA := aside FB; have hgp1 : ¬ pb = g := fun e => PA.far e.symm; clear PA FA PB FB hO2 hB2 hG2))
      go_end0
      exact ⟨rfl, HPB.out.fin HFA.out⟩
end Go.Proofs.YtcmlhopidohimaaDoor
