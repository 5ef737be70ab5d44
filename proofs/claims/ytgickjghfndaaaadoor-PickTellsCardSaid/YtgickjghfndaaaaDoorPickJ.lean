/- (*chooser).best. Conditions: named in each theorem. -/
import Derived.Test.YtgickjghfndaaaaDoorPickI
import Derived.Deep.Cut
import Derived.Deep.RegionHeld3
namespace Go.Proofs.YtgickjghfndaaaaDoor
open Go.RowKit Go.ChangeShapes Go.WideShapes Go.ChangeAt

/-- A block of cells, all at once. -/
def Blk (w : World) (b : Nat) (t : TypeId) (cs : List Value) : Prop := w.heap[b]? = some (.cells cs.toArray t (0, 0))
theorem Blk.cell {w : World} {b : Nat} {t : TypeId} {cs : List Value} (h : Blk w b t cs) {i : Nat} {v : Value} (hi : cs[i]? = some v) : w.cell? ⟨b, i, none⟩ = some v := by
  unfold Blk at h
  simp [World.cell?, h, hi]
theorem Blk.fz {w : World} {b : Nat} {t : TypeId} {cs : List Value} (h : Blk w b t cs) (o : Nat) : w.frozen? ⟨b, o, none⟩ = false := by
  unfold Blk at h
  simp [World.frozen?, h]
theorem Blk.lt {w : World} {b : Nat} {t : TypeId} {cs : List Value} (h : Blk w b t cs) : b < w.heap.size := (Array.getElem?_eq_some_iff.1 h).1
theorem Blk.grown {w w' : World} {b : Nat} {t : TypeId} {cs : List Value} {row : Option Nat} (h : Blk w b t cs) (hg : w.grownBy w' row) (hne : some b ≠ row) : Blk w' b t cs := (hg.block b h.lt hne).trans h
theorem Blk.alloc {w : World} {b : Nat} {t : TypeId} {cs : List Value} (h : Blk w b t cs) (o : Obj) : Blk (w.alloc o) b t cs := (Below.heap_alloc _ _ _ h.lt).trans h
theorem Blk.new (w : World) (t : TypeId) (cs : List Value) : Blk (w.alloc (.cells cs.toArray t)) w.heap.size t cs := (MapKept.heap_alloc w _).1
theorem Blk.drew {w : World} {b : Nat} {t : TypeId} {cs : List Value} (h : Blk w b t cs) : Blk w.drew b t cs := h
theorem grown_below {w w' : World} (h : Below w.heap.size w w') (row : Option Nat) : w.grownBy w' row := ⟨h.os, h.tape, h.output, h.size, fun i hi _ => h.block i hi⟩
theorem grown_after {w w' w'' : World} {row : Option Nat} (h : w.grownBy w' row) (hb : Below w.heap.size w' w'') : w.grownBy w'' row := ⟨hb.os.trans h.os, hb.tape.trans h.tape, hb.output.trans h.output, Nat.le_trans h.size hb.size, fun i hi hne => (hb.block i hi).trans (h.block i hi hne)⟩
theorem Blk.other {w : World} {b : Nat} {t : TypeId} {cs : List Value} (h : Blk w b t cs) {p : Addr} (hp : b ≠ p.block) (u : Value) : Blk (w.setCell p u) b t cs := (Below.heap_setCell _ _ _ _ hp).trans h
theorem Blk.set {w : World} {b : Nat} {t : TypeId} {cs : List Value} (h : Blk w b t cs) (i : Nat) (u : Value) : Blk (w.setCell ⟨b, i, none⟩ u) b t (cs.set i u) := by
  unfold Blk at *
  rw [heap_setCell_same w b i _ t _ h]
  simp only [List.setIfInBounds_toArray]
theorem Blk.row {w : World} {b : Nat} {t : TypeId} {v0 v1 v2 v3 : Value} (h : Blk w b t [v0, v1, v2, v3]) (u0 u1 u2 u3 : Value) : Blk ((((w.setCell ⟨b, 0, none⟩ u0).setCell ⟨b, 1, none⟩ u1).setCell ⟨b, 2, none⟩ u2).setCell ⟨b, 3, none⟩ u3) b t [u0, u1, u2, u3] := (((h.set 0 u0).set 1 u1).set 2 u2).set 3 u3
theorem Blk.row_other {w : World} {b b' : Nat} {t : TypeId} {cs : List Value} (h : Blk w b t cs) (hne : b ≠ b') (u0 u1 u2 u3 : Value) : Blk ((((w.setCell ⟨b', 0, none⟩ u0).setCell ⟨b', 1, none⟩ u1).setCell ⟨b', 2, none⟩ u2).setCell ⟨b', 3, none⟩ u3) b t cs := (((h.other hne u0).other hne u1).other hne u2).other hne u3
theorem below_row {N : Nat} (w : World) {b : Nat} (hN : N ≤ b) (u0 u1 u2 u3 : Value) : Below N w ((((w.setCell ⟨b, 0, none⟩ u0).setCell ⟨b, 1, none⟩ u1).setCell ⟨b, 2, none⟩ u2).setCell ⟨b, 3, none⟩ u3) := ((((Below.refl N w).setCell (p := ⟨b, 0, none⟩) hN u0).setCell (p := ⟨b, 1, none⟩) hN u1).setCell (p := ⟨b, 2, none⟩) hN u2).setCell (p := ⟨b, 3, none⟩) hN u3
/-- The chooser: its amounts and its memory. -/
structure Ch (ns : List Int) (A : Option Addr) (n c cb mb B k : Nat) (w : World) : Prop where
  c0 : w.cell? ⟨cb, 0, none⟩ = some (.slice A n c)
  c1 : w.cell? ⟨cb, 1, none⟩ = some (.map (some mb))
  lt : cb < w.heap.size
  ne : cb ≠ mb
  sl : ISl w B A n ns
  bm : B ≤ mb
  me : Memo w mb k ns
theorem Ch.below {ns : List Int} {A : Option Addr} {n c cb mb B k N : Nat} {w w' : World} (h : Ch ns A n c cb mb B k w) (hb : Below N w w') (hN : cb < N ∧ mb < N) : Ch ns A n c cb mb B k w' :=
  ⟨(hb.cell (p := ⟨cb, 0, none⟩) hN.1).trans h.c0, (hb.cell (p := ⟨cb, 1, none⟩) hN.1).trans h.c1, Nat.lt_of_lt_of_le h.lt hb.size, h.ne, isl_below h.sl (hb.mono (by have := h.bm; omega)), h.bm, h.me.same (hb.block mb hN.2)⟩
theorem Ch.turn {ns : List Int} {A : Option Addr} {n c cb mb B k k' : Nat} {w w' : World} (h : Ch ns A n c cb mb B k w) (hg : w.grownBy w' (some mb)) (hm : Memo w' mb k' ns) : Ch ns A n c cb mb B k' w' := by
  have hne : some cb ≠ some mb := fun e => h.ne (by injection e)
  have hlt := h.me.lt
  exact ⟨(hg.cell_far ⟨cb, 0, none⟩ h.lt hne).trans h.c0, (hg.cell_far ⟨cb, 1, none⟩ h.lt hne).trans h.c1, Nat.lt_of_lt_of_le h.lt hg.size, h.ne, Sl.keep h.sl (fun p hp => hg.cell_far p (by have := h.bm; omega) (fun e => by injection e with e; have := h.bm; omega)), h.bm, hm⟩
/-- What best leaves. -/
def BestD (ns : List Int) (mb k at_ : Nat) (want : Int) (w : World) (e : Ending) (w' : World) : Prop := e = .returned (cv (bestF (ns.drop at_) want)) ∧ Memo w' mb k ns ∧ w.grownBy w' (some mb)
set_option maxHeartbeats 20000000 in
set_option maxRecDepth 100000 in
theorem best_any (ns : List Int) (A : Option Addr) (n c cb mb B : Nat) (hn : n ≤ 30) (hl : ns.length = n) (hns : ∀ x ∈ ns, 0 ≤ x ∧ x ≤ 1125899906842624) (hT : ns.sum ≤ 1125899906842624) : ∀ (m at_ : Nat), at_ + m = n → ∀ (want : Int), -1125899906842624 ≤ want ∧ want ≤ 1125899906842624 → ∀ (k : Nat), k + cap m ≤ 1099511627776 → ∀ (w : World), Ch ns A n c cb mb B k w →
    Calls Tryd.prog 29 #[.pointer (some ⟨cb, 0, none⟩), .int .i64 at_, .int .i64 want] w (BestD ns mb (k + cap m) at_ want w) := by
  intro m
  induction m with
  | zero =>
    intro at_ hat want hw k hk w h
    have hd : ns.drop at_ = [] := List.drop_of_length_le (by omega)
    obtain rfl : at_ = n := by omega
    have HK := aside h.me
    by_cases hz : want ≤ 0
    · have hV := bestF_low (ns.drop at_) hz
      unfold BestD
      rw [hV]
      clear hd hV h hT hns hl hk
      go_enter Tryd.func29, Tryd.ntmps29
      go_wp2
      refine bodyPost_ret (v := cv ⟨0, 0, false, true⟩) (by simp only [results, Tryd.results29, cv]; go_simp) rfl ?_
      exact ⟨rfl, (HK.out.grown (World.grownBy_alloc w _ none) (by simp)), World.grownBy_alloc w _ _⟩
    · have hV := bestF_nil hz
      unfold BestD
      rw [hd, hV]
      obtain ⟨c0, c1, hlt, -, -, -, -⟩ := h
      have hz2 : (0 : Int) < want := by omega
      clear hd hV hT hns hl hk
      go_enter Tryd.func29, Tryd.ntmps29
      go_wp2
      refine bodyPost_ret (v := cv ⟨0, 0, false, false⟩) (by simp only [results, Tryd.results29, cv]; go_simp) rfl ?_
      exact ⟨rfl, (HK.out.grown (World.grownBy_alloc w _ none) (by simp)), World.grownBy_alloc w _ _⟩
  | succ m ih =>
    intro at_ hat want hw k hk w h
    have HK := aside h.me
    by_cases hz : want ≤ 0
    · have hV := bestF_low (ns.drop at_) hz
      have hck : k ≤ k + cap (m + 1) := by omega
      unfold BestD
      rw [hV]
      have HCK := aside hck
      clear hck hV h hT hns hl hk ih
      go_enter Tryd.func29, Tryd.ntmps29
      go_wp2
      refine bodyPost_ret (v := cv ⟨0, 0, false, true⟩) (by simp only [results, Tryd.results29, cv]; go_simp) rfl ?_
      exact ⟨rfl, (HK.out.grown (World.grownBy_alloc w _ none) (by simp)).more HCK.out, World.grownBy_alloc w _ _⟩
    have hat2 : at_ < ns.length := by omega
    have hdr : ns.drop at_ = nth ns at_ :: ns.drop (at_ + 1) := by rw [nth_get hat2]; exact List.drop_eq_getElem_cons hat2
    have hB := bestF_cons (nth ns at_) (ns.drop (at_ + 1)) hz
    rw [← hdr] at hB
    have hcm : cap (m + 1) = cap m + cap m + 1 := rfl
    have hm30 : cap (m + 1) < 1073741824 := cap_30 (by omega)
    obtain ⟨z, ok, hok, hlk⟩ := h.me.look (a := at_) (t := want) (WalkArith.wf_i64 (by omega)) (WalkArith.wf_i64 (by omega))
    obtain ⟨V, hV⟩ : ∃ V, V = bestF (ns.drop at_) want := ⟨_, rfl⟩
    unfold BestD
    rw [← hV] at hB hok ⊢
    have hx : nth ns at_ ∈ ns := nth_mem hat2
    have hxb := hns _ hx
    obtain ⟨ab, ao, hAe, hab, hac⟩ := h.sl.at_ (k := at_) (by omega)
    have hsub : ∀ y ∈ ns.drop (at_ + 1), 0 ≤ y := fun y hy => (hns y (List.mem_of_mem_drop hy)).1
    have hb1 := bestF_in (ns.drop (at_ + 1)) hsub want
    have hb2 := bestF_in (ns.drop (at_ + 1)) hsub (want - nth ns at_)
    have HCH := aside h
    have HIH := aside ih
    have HB := aside hB
    have HV := aside hV
    have HOK := aside hok
    have HLK := aside hlk
    have hds : (ns.drop (at_ + 1)).sum ≤ 1125899906842624 := by
      have h1 : ns.sum = (ns.take (at_ + 1)).sum + (ns.drop (at_ + 1)).sum := by rw [← List.sum_append, List.take_append_drop]
      have h2 := sum_pos (l := ns.take (at_ + 1)) (fun y hy => (hns y (List.mem_of_mem_take hy)).1)
      omega
    have hdl : (ns.drop (at_ + 1)).length ≤ 30 := by rw [List.length_drop]; omega
    have HBI := aside (And.intro hb1 (And.intro hb2 (And.intro hds hdl)))
    obtain ⟨c0, c1, hlt, hne, hsl, hbm, hme⟩ := h
    obtain ⟨x, hxe⟩ : ∃ x, x = nth ns at_ := ⟨_, rfl⟩
    rw [← hxe] at hxb hac
    have HX := aside hxe
    have hz2 : (0 : Int) < want := by omega
    have hne2 : ((at_ : Int) == (n : Int)) = false := by simp; omega
    have hna : (at_ : Int) < (n : Int) := by omega
    have HDIM := aside (And.intro hat (And.intro hn (And.intro hl (And.intro hk (And.intro hcm hm30)))))
    clear hds hdl hV hz hB hok hlk hb1 hb2 hsub hx hdr hat2 hcm hm30 hT hns hl hk ih hme hsl hbm hxe hat hab
    subst hAe
    go_enter Tryd.func29, Tryd.ntmps29
    go_wp2_with fail
    have HBW : Hid (Below w.heap.size w ((w.alloc (.cells #[.int .i64 0, .int .i64 0, .bool false, .bool false] 55)).alloc (.cells #[.int .i64 at_, .int .i64 want] 62))) := aside (((Below.refl _ _).alloc (Nat.le_refl _) _).alloc (by simp) _)
    have q6 : Blk ((w.alloc (.cells #[.int .i64 0, .int .i64 0, .bool false, .bool false] 55)).alloc (.cells #[.int .i64 at_, .int .i64 want] 62)) w.heap.size 55 [.int .i64 0, .int .i64 0, .bool false, .bool false] := by
      unfold Blk
      rw [Below.heap_alloc _ _ _ (by simp)]
      exact (MapKept.heap_alloc w _).1
    have q7 : Blk ((w.alloc (.cells #[.int .i64 0, .int .i64 0, .bool false, .bool false] 55)).alloc (.cells #[.int .i64 at_, .int .i64 want] 62)) (w.heap.size + 1) 62 [.int .i64 at_, .int .i64 want] := by
      have h := (MapKept.heap_alloc (w.alloc (.cells #[.int .i64 0, .int .i64 0, .bool false, .bool false] 55)) (.cells #[.int .i64 at_, .int .i64 want] 62)).1
      rw [show (w.alloc (.cells #[.int .i64 0, .int .i64 0, .bool false, .bool false] 55)).heap.size = w.heap.size + 1 by simp] at h
      exact h
    have hsz : ((w.alloc (.cells #[.int .i64 0, .int .i64 0, .bool false, .bool false] 55)).alloc (.cells #[.int .i64 at_, .int .i64 want] 62)).heap.size = w.heap.size + 2 := by simp
    have HCW := aside (HCH.out.below HBW.out ⟨HCH.out.lt, HCH.out.me.lt⟩)
    obtain ⟨b6, hb6⟩ : ∃ b, b = w.heap.size := ⟨_, rfl⟩
    rw [← hb6] at q6 q7 hsz HBW ⊢
    generalize ((w.alloc (.cells #[.int .i64 0, .int .i64 0, .bool false, .bool false] 55)).alloc (.cells #[.int .i64 at_, .int .i64 want] 62)) = w1 at q6 q7 hsz HBW HCW ⊢
    have HQ6 := aside q6
    have HQ7 := aside q7
    have r1 := HLK.out w1.drew (HBW.out.block mb (by rw [hb6]; exact HCH.out.me.lt))
    have r2 := HLK.out (w1.alloc (.cells #[.int .i64 0, .int .i64 0, .bool false, .bool false] 55)).drew (by
      show (w1.alloc _).heap[mb]? = _
      rw [Below.heap_alloc _ _ _ HCW.out.me.lt]
      exact HBW.out.block mb (by rw [hb6]; exact HCH.out.me.lt))
    have a7 := q7.cell (i := 0) rfl
    have b7 := q7.cell (i := 1) rfl
    have hcs := HCW.out.lt
    have c0 := HCW.out.c0
    have c1 := HCW.out.c1
    have l6 := q6.lt
    have l7 := q7.lt
    have HB6 := aside hb6
    have HSZ := aside hsz
    clear q6 q7 hac hlt hb6 hsz
    unfold kv cv at r1 r2
    go_cut [8, 9] from 26 (fun v8 v9 wx => v8 = .pointer (some ⟨w1.heap.size, 0, none⟩) ∧ v9 = .bool ok ∧ wx = (w1.alloc (.cells #[.int .i64 z.s, .int .i64 z.k, .bool z.tk, .bool z.can] 55)).drew)
    case first =>
      go_region
      all_goals go_wp2_with fail
      all_goals go_meet
      all_goals exact ⟨rfl, rfl, rfl⟩
    case rest =>
      obtain ⟨rfl, rfl, hw9⟩ := hcut
      have hw9 := hw9.symm
      subst hw9
      clear r1 r2 a7 b7 hcs c0 c1 l6 l7
      have HB2 : Hid (Below b6 w (w1.alloc (.cells #[.int .i64 z.s, .int .i64 z.k, .bool z.tk, .bool z.can] 55)).drew) := aside (HBW.out.alloc (by rw [HSZ.out]; omega) _).drew
      have HQ62 := aside (HQ6.out.alloc (.cells #[.int .i64 z.s, .int .i64 z.k, .bool z.tk, .bool z.can] 55)).drew
      have HQ72 := aside (HQ7.out.alloc (.cells #[.int .i64 z.s, .int .i64 z.k, .bool z.tk, .bool z.can] 55)).drew
      have HQ8 := aside (Blk.new w1 55 [.int .i64 z.s, .int .i64 z.k, .bool z.tk, .bool z.can]).drew
      have HC2 := aside (HCH.out.below HB2.out (by rw [HB6.out]; exact ⟨HCH.out.lt, HCH.out.me.lt⟩))
      obtain ⟨b8, hb8⟩ : ∃ b, b = w1.heap.size := ⟨_, rfl⟩
      rw [← hb8] at HQ8 ⊢
      have HB8 : Hid (b8 = b6 + 2) := aside (by rw [hb8, HSZ.out])
      have HS2 : Hid ((w1.alloc (.cells #[.int .i64 z.s, .int .i64 z.k, .bool z.tk, .bool z.can] 55)).drew.heap.size = b6 + 3) := aside (by
        show (w1.alloc _).heap.size = _
        rw [← hb8] at HSZ
        simp [← hb8, HSZ.out])
      simp only [List.toArray] at HQ8
      generalize (w1.alloc (.cells #[.int .i64 z.s, .int .i64 z.k, .bool z.tk, .bool z.can] 55)).drew = w2 at HB2 HQ62 HQ72 HQ8 HC2 HS2 ⊢
      clear hb8 HCW HQ6 HQ7 HBW HSZ
      have a6 := fun i v h => HQ62.out.cell (i := i) (v := v) h
      have f6 := HQ62.out.fz
      have l6 := HQ62.out.lt
      have p0 := HQ62.out.cell (i := 0) rfl
      have p1 := HQ62.out.cell (i := 1) rfl
      have p2 := HQ62.out.cell (i := 2) rfl
      have p3 := HQ62.out.cell (i := 3) rfl
      clear a6
      cases ok with
      | true =>
        have s0 := HQ8.out.cell (i := 0) rfl
        have s1 := HQ8.out.cell (i := 1) rfl
        have s2 := HQ8.out.cell (i := 2) rfl
        have s3 := HQ8.out.cell (i := 3) rfl
        have hb68 : b6 ≠ b8 := by have := HB8.out; omega
        go_wp2
        refine bodyPost_ret (v := cv z) (by simp only [results, Tryd.results29, cv]; go_simp) rfl ?_
        have hb9 := (((HB2.out.setCell (p := ⟨b6, 0, none⟩) (Nat.le_refl _) (.int .i64 z.s)).setCell (p := ⟨b6, 1, none⟩) (Nat.le_refl _) (.int .i64 z.k)).setCell (p := ⟨b6, 2, none⟩) (Nat.le_refl _) (.bool z.tk)).setCell (p := ⟨b6, 3, none⟩) (Nat.le_refl _) (.bool z.can)
        have hb10 := hb9.mono (B' := w.heap.size) (by rw [HB6.out]; exact Nat.le_refl _)
        exact ⟨by rw [HOK.out trivial], (HK.out.same (hb10.block mb HK.out.lt)).more (Nat.le_add_right _ _), grown_below hb10 _⟩
      | false =>
        clear p0 p1 p2 p3 f6 l6
        obtain ⟨an, han⟩ : ∃ q, q = at_ + 1 := ⟨_, rfl⟩
        have e1 : IntKind.i64.wrap ((at_ : Int) + 1) = (an : Int) := by rw [IntKind.wrap_i64]; have := HDIM.out; omega
        have HAN := aside han
        obtain ⟨X, hX⟩ : ∃ X, X = bestF (ns.drop an) want := ⟨_, rfl⟩
        have HCA : Hid (Calls Tryd.prog 29 #[.pointer (some ⟨cb, 0, none⟩), .int .i64 an, .int .i64 want] w2 (fun e w' => e = .returned (cv X) ∧ Memo w' mb (k + cap m) ns ∧ w2.grownBy w' (some mb))) := aside (by
          have hd := HDIM.out
          have h := HIH.out an (by omega) want hw k (by omega) w2 HC2.out
          unfold BestD at h
          rw [← hX] at h
          exact h)
        have HXX := aside hX
        clear han hX
        go_wp2_with fail
        refine HCA.out.mono ?_
        rintro e w3 ⟨rfl, hm3, hg3⟩
        have HC3 := aside (HC2.out.turn hg3 hm3)
        have hmb := HK.out.lt
        have HQ63 := aside (HQ62.out.grown hg3 (fun e => by injection e with e; have := HB6.out; omega))
        have HQ73 := aside (HQ72.out.grown hg3 (fun e => by injection e with e; have := HB6.out; omega))
        have HG3 := aside ((grown_below (HB2.out.mono (B' := w.heap.size) (by rw [HB6.out]; exact Nat.le_refl _)) (some mb)).trans hg3)
        have HS3 := aside hg3.size
        clear hm3 hg3 hmb HQ62 HQ72 HQ8 HC2 HB2 HCA
        have c0 := HC3.out.c0
        have hcs := HC3.out.lt
        obtain ⟨ab', ao', hAe', hab, hac⟩ := HC3.out.sl.at_ (k := at_) (by omega)
        injection hAe' with hAe'
        injection hAe' with h1 h2
        subst h1 h2
        rw [← HX.out] at hac
        have hab3 : ab < w3.heap.size := by have := HC3.out.bm; have := HC3.out.me.lt; omega
        clear hab
        unfold cv
        obtain ⟨Y, hY⟩ : ∃ Y, Y = bestF (ns.drop an) (want - x) := ⟨_, rfl⟩
        have HC3a := aside (HC3.out.below ((Below.refl w3.heap.size w3).alloc (Nat.le_refl _) (.cells #[.int .i64 X.s, .int .i64 X.k, .bool false, .bool X.can] 55)) ⟨HC3.out.lt, HC3.out.me.lt⟩)
        have HCA : Hid (Calls Tryd.prog 29 #[.pointer (some ⟨cb, 0, none⟩), .int .i64 an, .int .i64 (want - x)] (w3.alloc (.cells #[.int .i64 X.s, .int .i64 X.k, .bool false, .bool X.can] 55)) (fun e w' => e = .returned (cv Y) ∧ Memo w' mb (k + cap m + cap m) ns ∧ (w3.alloc (.cells #[.int .i64 X.s, .int .i64 X.k, .bool false, .bool X.can] 55)).grownBy w' (some mb))) := aside (by
          have hd := HDIM.out
          have ha := HAN.out
          have h := HIH.out an (by omega) (want - x) (by omega) (k + cap m) (by omega) _ HC3a.out
          unfold BestD at h
          rw [← hY] at h
          exact h)
        have HYY := aside hY
        clear hY HC3a
        go_wp2_with fail
        refine HCA.out.mono ?_
        rintro e w5 ⟨rfl, hm5, hg5⟩
        clear HCA c0 hcs hac hab3
        have hg35 : w3.grownBy w5 (some mb) := (World.grownBy_alloc w3 _ (some mb)).trans hg5
        have HC5 := aside (HC3.out.turn hg35 hm5)
        have hmb := HK.out.lt
        have hmb3 := HC3.out.me.lt
        have HQ65 := aside (HQ63.out.grown hg35 (fun e => by injection e with e; have := HB6.out; omega))
        have HQ75 := aside (HQ73.out.grown hg35 (fun e => by injection e with e; have := HB6.out; omega))
        have HQ10 := aside ((Blk.new w3 55 [.int .i64 X.s, .int .i64 X.k, .bool false, .bool X.can]).grown hg5 (fun e => by injection e with e; omega))
        have HG5 := aside (HG3.out.trans hg35)
        obtain ⟨b10, hb10⟩ : ∃ b, b = w3.heap.size := ⟨_, rfl⟩
        rw [← hb10] at HQ10 ⊢
        have HB10 : Hid (b6 + 1 < b10) := aside (by have := HS3.out; have := HS2.out; omega)
        clear hm5 hg5 hg35 hmb hmb3 HQ63 HQ73 HC3 HG3 hb10 HS3
        have c0 := HC5.out.c0
        have c1 := HC5.out.c1
        have hcs := HC5.out.lt
        obtain ⟨ab', ao', hAe', hab, hac⟩ := HC5.out.sl.at_ (k := at_) (by omega)
        injection hAe' with hAe'
        injection hAe' with h1 h2
        subst h1 h2
        rw [← HX.out] at hac
        have hab3 : ab < w5.heap.size := by have := HC5.out.bm; have := HC5.out.me.lt; omega
        have l10 := HQ10.out.lt
        clear hab
        unfold cv
        go_upto_if 57 with fail
        have hg56 : w5.grownBy (w5.alloc (.cells #[.int .i64 Y.s, .int .i64 Y.k, .bool Y.tk, .bool Y.can] 55)) (some mb) := World.grownBy_alloc w5 _ (some mb)
        have HG6 := aside (HG5.out.trans hg56)
        have HQ66 := aside (HQ65.out.alloc (.cells #[.int .i64 Y.s, .int .i64 Y.k, .bool Y.tk, .bool Y.can] 55))
        have HQ76 := aside (HQ75.out.alloc (.cells #[.int .i64 Y.s, .int .i64 Y.k, .bool Y.tk, .bool Y.can] 55))
        have HQ106 := aside (HQ10.out.alloc (.cells #[.int .i64 Y.s, .int .i64 Y.k, .bool Y.tk, .bool Y.can] 55))
        have HQ11 := aside (Blk.new w5 55 [.int .i64 Y.s, .int .i64 Y.k, .bool Y.tk, .bool Y.can])
        have HC6 := aside (HC5.out.below ((Below.refl w5.heap.size w5).alloc (Nat.le_refl _) (.cells #[.int .i64 Y.s, .int .i64 Y.k, .bool Y.tk, .bool Y.can] 55)) ⟨HC5.out.lt, HC5.out.me.lt⟩)
        obtain ⟨b11, hb11⟩ : ∃ b, b = w5.heap.size := ⟨_, rfl⟩
        have HN11 : Hid (b6 ≠ b11 ∧ b6 + 1 ≠ b11 ∧ b10 ≠ b11 ∧ w.heap.size ≤ b11) := aside (by
          have := HQ65.out.lt
          have := HQ75.out.lt
          have := HQ10.out.lt
          have := HB6.out
          omega)
        have HCW : Hid (cb < w.heap.size ∧ mb < w.heap.size) := aside ⟨HCH.out.lt, HK.out.lt⟩
        simp only [List.toArray] at HQ11
        rw [← hb11] at HQ11 ⊢
        generalize (w5.alloc (.cells #[.int .i64 Y.s, .int .i64 Y.k, .bool Y.tk, .bool Y.can] 55)) = w6 at HG6 HQ66 HQ76 HQ106 HQ11 HC6 ⊢
        clear c0 c1 hcs hac hab3 l10 hg56 hb11 HC5 HQ65 HQ75 HQ10 HG5
        have HVV : Hid (V = joinF x X Y) := aside (by rw [HB.out, HXX.out, HYY.out, HX.out, HAN.out])
        go_cut [10] from 26 (fun v10 wx => v10 = .pointer (some ⟨b10, 0, none⟩) ∧ Hid (Blk wx b10 55 [.int .i64 V.s, .int .i64 V.k, .bool V.tk, .bool V.can]) ∧ Hid (Blk wx b6 55 [.int .i64 0, .int .i64 0, .bool false, .bool false]) ∧ Hid (Blk wx (b6 + 1) 62 [.int .i64 at_, .int .i64 want]) ∧ Hid (Ch ns (some ⟨ab, ao, none⟩) n c cb mb B (k + cap m + cap m) wx) ∧ Hid (w.grownBy wx (some mb)))
        case first =>
          have hbx : 0 ≤ X.s ∧ X.s ≤ 1125899906842624 ∧ 0 ≤ X.k ∧ X.k ≤ 30 ∧ 0 ≤ Y.s ∧ Y.s ≤ 1125899906842624 ∧ 0 ≤ Y.k ∧ Y.k ≤ 30 := by
            have h1 := HBI.out
            rw [HXX.out, HYY.out, HAN.out, HX.out]
            omega
          clear HB HXX HYY HBI HV HIH HLK HCH
          by_cases hyc : Y.can = false
          · have hve : V = ⟨X.s, X.k, false, X.can⟩ := by rw [HVV.out]; unfold joinF; rw [if_neg (by simp [hyc])]
            subst hve
            clear hbx
            rw [hyc]
            go_wp2_with fail
            go_meet
            exact ⟨rfl, HQ106, HQ66, HQ76, HC6, HG6⟩
          · have hyc : Y.can = true := by simpa using hyc
            have c0 := HC6.out.c0
            have hcs := HC6.out.lt
            obtain ⟨ab', ao', hAe', hab, hac⟩ := HC6.out.sl.at_ (k := at_) (by omega)
            injection hAe' with hAe'
            injection hAe' with h1 h2
            subst h1 h2
            rw [← HX.out] at hac
            have hab3 : ab < w6.heap.size := by have := HC6.out.bm; have := HC6.out.me.lt; omega
            clear hab
            have y0 := HQ11.out.cell (i := 0) rfl
            have y1 := HQ11.out.cell (i := 1) rfl
            have y2 := HQ11.out.cell (i := 2) rfl
            have y3 := HQ11.out.cell (i := 3) rfl
            have yf := HQ11.out.fz
            have e2 : IntKind.i64.wrap (Y.s + x) = Y.s + x := by rw [IntKind.wrap_i64]; omega
            have e3 : IntKind.i64.wrap (Y.k + 1) = Y.k + 1 := by rw [IntKind.wrap_i64]; omega
            rw [hyc]
            go_wp2_with fail
            go_region
            have hcbw := HCW.out.1
            have hmbw := HCW.out.2
            have HB7 := aside ((below_row w6 (N := w.heap.size) HN11.out.2.2.2 (.int .i64 (Y.s + x)) (.int .i64 (Y.k + 1)) (.bool true) (.bool true)).drew)
            have HQ67 := aside (HQ66.out.row_other HN11.out.1 (.int .i64 (Y.s + x)) (.int .i64 (Y.k + 1)) (.bool true) (.bool true)).drew
            have HQ77 := aside (HQ76.out.row_other HN11.out.2.1 (.int .i64 (Y.s + x)) (.int .i64 (Y.k + 1)) (.bool true) (.bool true)).drew
            have HQ107 := aside (HQ106.out.row_other HN11.out.2.2.1 (.int .i64 (Y.s + x)) (.int .i64 (Y.k + 1)) (.bool true) (.bool true)).drew
            have HQ117 := aside (HQ11.out.row (.int .i64 (Y.s + x)) (.int .i64 (Y.k + 1)) (.bool true) (.bool true)).drew
            have HC7 := aside (HC6.out.below HB7.out ⟨hcbw, hmbw⟩)
            have HG7 := aside (grown_after HG6.out HB7.out)
            generalize ((((w6.setCell ⟨b11, 0, none⟩ (.int .i64 (Y.s + x))).setCell ⟨b11, 1, none⟩ (.int .i64 (Y.k + 1))).setCell ⟨b11, 2, none⟩ (.bool true)).setCell ⟨b11, 3, none⟩ (.bool true)).drew = w7 at HB7 HQ67 HQ77 HQ107 HQ117 HC7 HG7 ⊢
            clear c0 hcs hac hab3 y0 y1 y2 y3 yf e2 e3 hcbw hmbw HQ66 HQ76 HQ106 HQ11 HC6 HG6 HB7
            have z0 := HQ107.out.cell (i := 0) rfl
            have z1 := HQ107.out.cell (i := 1) rfl
            have z2 := HQ107.out.cell (i := 2) rfl
            have z3 := HQ107.out.cell (i := 3) rfl
            have zf := HQ107.out.fz
            have zl := HQ107.out.lt
            have y0 := HQ117.out.cell (i := 0) rfl
            have y1 := HQ117.out.cell (i := 1) rfl
            have y2 := HQ117.out.cell (i := 2) rfl
            have y3 := HQ117.out.cell (i := 3) rfl
            have yl := HQ117.out.lt
            have h1011 := HN11.out.2.2.1
            have TAKE : Hid (∀ w8, Below w7.heap.size w7 w8 → Hid (Blk ((((w8.setCell ⟨b10, 0, none⟩ (.int .i64 (Y.s + x))).setCell ⟨b10, 1, none⟩ (.int .i64 (Y.k + 1))).setCell ⟨b10, 2, none⟩ (.bool true)).setCell ⟨b10, 3, none⟩ (.bool true)) b10 55 [.int .i64 (Y.s + x), .int .i64 (Y.k + 1), .bool true, .bool true]) ∧ Hid (Blk ((((w8.setCell ⟨b10, 0, none⟩ (.int .i64 (Y.s + x))).setCell ⟨b10, 1, none⟩ (.int .i64 (Y.k + 1))).setCell ⟨b10, 2, none⟩ (.bool true)).setCell ⟨b10, 3, none⟩ (.bool true)) b6 55 [.int .i64 0, .int .i64 0, .bool false, .bool false]) ∧ Hid (Blk ((((w8.setCell ⟨b10, 0, none⟩ (.int .i64 (Y.s + x))).setCell ⟨b10, 1, none⟩ (.int .i64 (Y.k + 1))).setCell ⟨b10, 2, none⟩ (.bool true)).setCell ⟨b10, 3, none⟩ (.bool true)) (b6 + 1) 62 [.int .i64 at_, .int .i64 want]) ∧ Hid (Ch ns (some ⟨ab, ao, none⟩) n c cb mb B (k + cap m + cap m) ((((w8.setCell ⟨b10, 0, none⟩ (.int .i64 (Y.s + x))).setCell ⟨b10, 1, none⟩ (.int .i64 (Y.k + 1))).setCell ⟨b10, 2, none⟩ (.bool true)).setCell ⟨b10, 3, none⟩ (.bool true))) ∧ Hid (w.grownBy ((((w8.setCell ⟨b10, 0, none⟩ (.int .i64 (Y.s + x))).setCell ⟨b10, 1, none⟩ (.int .i64 (Y.k + 1))).setCell ⟨b10, 2, none⟩ (.bool true)).setCell ⟨b10, 3, none⟩ (.bool true)) (some mb))) := aside (fun w8 hb8 => by
              have h10 := HB10.out
              have h6 := HB6.out
              have k10 : Blk w8 b10 55 [.int .i64 X.s, .int .i64 X.k, .bool false, .bool X.can] := (hb8.block b10 HQ107.out.lt).trans HQ107.out
              have k6 : Blk w8 b6 55 [.int .i64 0, .int .i64 0, .bool false, .bool false] := (hb8.block b6 HQ67.out.lt).trans HQ67.out
              have k7 : Blk w8 (b6 + 1) 62 [.int .i64 at_, .int .i64 want] := (hb8.block (b6 + 1) HQ77.out.lt).trans HQ77.out
              have hb9 := (hb8.mono HG7.out.size).trans (below_row w8 (N := w.heap.size) (b := b10) (by omega) (.int .i64 (Y.s + x)) (.int .i64 (Y.k + 1)) (.bool true) (.bool true))
              exact ⟨k10.row _ _ _ _, k6.row_other (by omega) _ _ _ _, k7.row_other (by omega) _ _ _ _, HC7.out.below hb9 HCW.out, grown_after HG7.out hb9⟩)
            have STAY : Hid (∀ w8, Below w7.heap.size w7 w8 → Hid (Blk w8 b10 55 [.int .i64 X.s, .int .i64 X.k, .bool false, .bool X.can]) ∧ Hid (Blk w8 b6 55 [.int .i64 0, .int .i64 0, .bool false, .bool false]) ∧ Hid (Blk w8 (b6 + 1) 62 [.int .i64 at_, .int .i64 want]) ∧ Hid (Ch ns (some ⟨ab, ao, none⟩) n c cb mb B (k + cap m + cap m) w8) ∧ Hid (w.grownBy w8 (some mb))) := aside (fun w8 hb8 => by
              have hb9 := hb8.mono HG7.out.size
              exact ⟨(hb8.block b10 HQ107.out.lt).trans HQ107.out, (hb8.block b6 HQ67.out.lt).trans HQ67.out, (hb8.block (b6 + 1) HQ77.out.lt).trans HQ77.out, HC7.out.below hb9 HCW.out, grown_after HG7.out hb9⟩)
            have HBR := aside (Below.refl w7.heap.size w7)
            clear HQ107 HQ67 HQ77 HC7 HG7 HQ117
            by_cases hxc : X.can = false
            · have hve : V = ⟨Y.s + x, Y.k + 1, true, true⟩ := by rw [HVV.out]; unfold joinF; rw [if_pos ⟨hyc, .inl hxc⟩]
              subst hve
              rw [hxc] at z3
              go_wp2_with fail
              go_region
              go_wp2_with fail
              go_meet
              obtain ⟨t1, t2, t3, t4, t5⟩ := TAKE.out _ HBR.out.drew
              exact ⟨rfl, t1, t2, t3, t4, t5⟩
            · have hxc : X.can = true := by simpa using hxc
              rw [hxc] at z3
              have HLX := aside (lex_or (Y.s + x) (Y.k + 1) X.s X.k)
              obtain ⟨O, hO⟩ : ∃ q, q = orL [cmpI (Y.s + x) X.s, cmpI (Y.k + 1) X.k] := ⟨_, rfl⟩
              rw [← hO] at HLX
              have HOR : Hid (Calls Tryd.prog 34 #[.slice (some ⟨w7.heap.size, 0, none⟩) 2 2] (w7.alloc (.cells #[.int .i64 (cmpI (Y.s + x) X.s), .int .i64 (cmpI (Y.k + 1) X.k)] 3)).drew (fun e w' => e = .returned (.int .i64 O) ∧ w' = (w7.alloc (.cells #[.int .i64 (cmpI (Y.s + x) X.s), .int .i64 (cmpI (Y.k + 1) X.k)] 3)).drew)) := aside (by
                rw [hO]
                exact or_any [cmpI (Y.s + x) X.s, cmpI (Y.k + 1) X.k] _ 2 2 (by omega) _ (Sl.drew (heap_ints w7 [cmpI (Y.s + x) X.s, cmpI (Y.k + 1) X.k] rfl)))
              clear hO
              have HS0 : w7.drew.cell? ⟨b10, 0, none⟩ = some (.int .i64 X.s) ∧ w7.drew.cell? ⟨b10, 1, none⟩ = some (.int .i64 X.k) ∧ w7.drew.cell? ⟨b10, 3, none⟩ = some (.bool true) ∧ w7.drew.cell? ⟨b11, 0, none⟩ = some (.int .i64 (Y.s + x)) ∧ w7.drew.cell? ⟨b11, 1, none⟩ = some (.int .i64 (Y.k + 1)) := ⟨z0, z1, z3, y0, y1⟩
              have HS1 : (w7.alloc (.cells #[.int .i64 (cmpI (Y.s + x) X.s), .int .i64 (cmpI (Y.k + 1) X.k)] 3)).drew.cell? ⟨b10, 0, none⟩ = some (.int .i64 X.s) ∧ (w7.alloc (.cells #[.int .i64 (cmpI (Y.s + x) X.s), .int .i64 (cmpI (Y.k + 1) X.k)] 3)).drew.cell? ⟨b10, 1, none⟩ = some (.int .i64 X.k) ∧ (w7.alloc (.cells #[.int .i64 (cmpI (Y.s + x) X.s), .int .i64 (cmpI (Y.k + 1) X.k)] 3)).drew.cell? ⟨b10, 3, none⟩ = some (.bool true) ∧ (w7.alloc (.cells #[.int .i64 (cmpI (Y.s + x) X.s), .int .i64 (cmpI (Y.k + 1) X.k)] 3)).drew.cell? ⟨b11, 0, none⟩ = some (.int .i64 (Y.s + x)) ∧ (w7.alloc (.cells #[.int .i64 (cmpI (Y.s + x) X.s), .int .i64 (cmpI (Y.k + 1) X.k)] 3)).drew.cell? ⟨b11, 1, none⟩ = some (.int .i64 (Y.k + 1)) := by
                refine ⟨?_, ?_, ?_, ?_, ?_⟩ <;> (refine (World.cell?_alloc_lt _ _ _ (by assumption)).trans ?_; assumption)
              go_wp2_with fail
              go_region_held3 (fun W => W.cell? ⟨b10, 0, none⟩ = some (.int .i64 X.s) ∧ W.cell? ⟨b10, 1, none⟩ = some (.int .i64 X.k) ∧ W.cell? ⟨b10, 3, none⟩ = some (.bool true) ∧ W.cell? ⟨b11, 0, none⟩ = some (.int .i64 (Y.s + x)) ∧ W.cell? ⟨b11, 1, none⟩ = some (.int .i64 (Y.k + 1)))
                (first | exact HS0 | exact HS1)
                (first | (go_at_call 25; refine (cmp_any _ _ _).mono ?_; rintro e w' ⟨rfl, rfl⟩) | (go_at_call 34; refine HOR.out.mono ?_; rintro e w' ⟨rfl, rfl⟩))
              clear HS0 HS1 HOR
              all_goals have HBW2 := aside ((HBR.out.alloc (Nat.le_refl _) (.cells #[.int .i64 (cmpI (Y.s + x) X.s), .int .i64 (cmpI (Y.k + 1) X.k)] 3)).drew)
              all_goals (generalize (w7.alloc (.cells #[.int .i64 (cmpI (Y.s + x) X.s), .int .i64 (cmpI (Y.k + 1) X.k)] 3)).drew = w8 at HBW2 ⊢)
              all_goals (by_cases hle : O ≤ 0)
              · have hve : V = ⟨Y.s + x, Y.k + 1, true, true⟩ := by rw [HVV.out]; unfold joinF; rw [if_pos ⟨hyc, .inr (HLX.out.1 hle)⟩]
                subst hve
                have hb8 := HBW2.out
                have z0' := (hb8.cell (p := ⟨b10, 0, none⟩) zl).trans z0
                have z1' := (hb8.cell (p := ⟨b10, 1, none⟩) zl).trans z1
                have z2' := (hb8.cell (p := ⟨b10, 2, none⟩) zl).trans z2
                have z3' := (hb8.cell (p := ⟨b10, 3, none⟩) zl).trans z3
                have zf' := fun o => (hb8.frozen (p := ⟨b10, o, none⟩) zl).trans (zf o)
                have y0' := (hb8.cell (p := ⟨b11, 0, none⟩) yl).trans y0
                have y1' := (hb8.cell (p := ⟨b11, 1, none⟩) yl).trans y1
                have y2' := (hb8.cell (p := ⟨b11, 2, none⟩) yl).trans y2
                have y3' := (hb8.cell (p := ⟨b11, 3, none⟩) yl).trans y3
                clear hb8 z0 z1 z2 z3 zf y0 y1 y2 y3
                go_wp2_with fail
                go_meet
                obtain ⟨t1, t2, t3, t4, t5⟩ := TAKE.out _ HBW2.out
                exact ⟨rfl, t1, t2, t3, t4, t5⟩
              · have hve : V = ⟨X.s, X.k, false, X.can⟩ := by rw [HVV.out]; unfold joinF; rw [if_neg (fun h => by rcases h.2 with h | h; rw [hxc] at h; cases h; exact hle (HLX.out.2 h))]
                subst hve
                have hle2 : 0 < O := by omega
                clear z0 z1 z2 z3 zf y0 y1 y2 y3 hle
                go_wp2_with fail
                go_meet
                obtain ⟨t1, t2, t3, t4, t5⟩ := STAY.out _ HBW2.out
                exact ⟨rfl, t1, t2, t3, t4, t5⟩
        case rest =>
          obtain ⟨rfl, HQ107, HQ67, HQ77, HC7, HG7⟩ := hcut
          obtain ⟨w7, r7, hm7, hg7⟩ := (HC7.out.me.same (w' := wc.drew) rfl).put (a := at_) (t := want) (by have := HDIM.out; unfold maxLen; omega) (WalkArith.wf_i64 (by omega)) (WalkArith.wf_i64 (by omega)) HV.out
          have hmb := HK.out.lt
          have HM7 := aside hm7
          have HQ68 := aside (HQ67.out.drew.grown hg7 (fun e => by injection e with e; have := HB6.out; omega))
          have HQ108 := aside (HQ107.out.drew.grown hg7 (fun e => by injection e with e; have := HB6.out; have := HB10.out; omega))
          have hwd : wc.grownBy wc.drew (some mb) := ⟨rfl, rfl, rfl, Nat.le_refl _, fun _ _ _ => rfl⟩
          have HG8 := aside (HG7.out.trans (hwd.trans hg7))
          have c1 := HC7.out.c1
          have p70 := HQ77.out.cell (i := 0) rfl
          have p71 := HQ77.out.cell (i := 1) rfl
          have p0 := HQ107.out.cell (i := 0) rfl
          have p1 := HQ107.out.cell (i := 1) rfl
          have p2 := HQ107.out.cell (i := 2) rfl
          have p3 := HQ107.out.cell (i := 3) rfl
          have s0 := HQ108.out.cell (i := 0) rfl
          have s1 := HQ108.out.cell (i := 1) rfl
          have s2 := HQ108.out.cell (i := 2) rfl
          have s3 := HQ108.out.cell (i := 3) rfl
          have q0 := HQ68.out.cell (i := 0) rfl
          have q1 := HQ68.out.cell (i := 1) rfl
          have q2 := HQ68.out.cell (i := 2) rfl
          have q3 := HQ68.out.cell (i := 3) rfl
          have f6 := HQ68.out.fz
          have l6 := HQ68.out.lt
          have hb610 : b6 ≠ b10 := by have := HB10.out; omega
          unfold kv cv at r7
          clear hm7 hg7 hwd hmb
          go_wp2_with fail
          go_region
          go_wp2
          refine bodyPost_ret (v := cv V) (by simp only [results, Tryd.results29, cv]; go_simp) rfl ?_
          have hb9 := ((((Below.refl b6 w7).setCell (p := ⟨b6, 0, none⟩) (Nat.le_refl _) (.int .i64 V.s)).setCell (p := ⟨b6, 1, none⟩) (Nat.le_refl _) (.int .i64 V.k)).setCell (p := ⟨b6, 2, none⟩) (Nat.le_refl _) (.bool V.tk)).setCell (p := ⟨b6, 3, none⟩) (Nat.le_refl _) (.bool V.can)
          have hb10 := hb9.mono (B' := w.heap.size) (by rw [HB6.out]; exact Nat.le_refl _)
          exact ⟨rfl, (HM7.out.same (hb10.block mb HK.out.lt)).more (by have := HDIM.out; omega), grown_after HG8.out hb10⟩
end Go.Proofs.YtgickjghfndaaaaDoor
