/- BookBack: what is posted the other way round is undone. No condition. -/
import Derived.Test.YtjoplhpaefngkaaBookN
import Derived.Deep.RegionHeld3
import Derived.Deep.AppendLies
import Derived.Deep.RegionLaw
import Derived.Deep.RegionWith
namespace Go.Proofs.Ytjoplhpaefngkaa
open Go.RowKit Go.ChangeShapes Go.WideShapes Go.ChangeAt

/-- A slice of slices of lines. -/
def ESl (w : World) (B : Nat) (A : Option Addr) (n : Nat) : Prop :=
  ∀ k, k < n → ∃ b off Ai ni ci li, A = some ⟨b, off, none⟩ ∧ b < B ∧ w.cell? ⟨b, off + k, none⟩ = some (.slice Ai ni ci) ∧ LSl w B Ai ni li

theorem lineInfo : (Try.prog.info? 33).map (fun i => (i.zero, i.size, i.bytes)) = some (some (.agg #[.string ⟨#[]⟩, .int .i64 0]), 2, 24) := by kernel_rfl
/-- 'append(row, Line{..})' at a step of a region that draws. -/
theorem step_line {w : World} {ops : Array Oper} {o : Oper} {a : Act} {K : Act → World → Prop} {Q : Exit → Act → World → Prop} {E : Prop} (hgd : o.guard = none) (s x : Operand)
    (ho : o.op = .call { callee := .builtin .append, args := #[s, x], argTypes := #[23, 23] })
    {base n : Nat} {A : Option Addr} {c g : Nat} {xs : List Value} {u0 u1 : Value} (hs : a.eval s = .slice A n c) (hx : a.eval x = .slice (some ⟨g, 0, none⟩) 1 1)
    (hown : w.ownsRow base 33 2 (.slice A n c) n xs) (c0 : w.cell? ⟨g, 0, none⟩ = some u0) (c1 : w.cell? ⟨g, 1, none⟩ = some u1) (o0 : u0.oneCell' = true) (o1 : u1.oneCell' = true) (hn : n ≤ 100) (hbase : base ≤ w.heap.size)
    (h : ∀ A' cap w', w'.ownsRow base 33 2 (.slice A' (n + 1) cap) (n + 1) (xs ++ [u0, u1]) → Below base w w' → K (a.put o.dst (.slice A' (n + 1) cap)) w') :
    if Region.wanted o (yielded ops a.tmps) = true then Oper.wp Try.prog o a w K Q else E := by
  obtain ⟨i0, hI, hIz, hIs, hIb⟩ := info_parts lineInfo
  refine step_append_lies w hgd s x 23 ho base 33 i0 (.agg #[.string ⟨#[]⟩, .int .i64 0]) 2 24 Try.underlying23 hI hIz hIs hIb rfl (by decide) _ n xs hs hown ⟨g, 0, none⟩ 1 1 [u0, u1] hx rfl ?_ ?_ (by decide) (by unfold maxLen; omega) (by omega) hbase _ rfl ?_
  · intro j u hj
    rw [add_plain, Nat.zero_add]
    match j with
    | 0 => simp at hj; subst hj; exact c0
    | 1 => simp at hj; subst hj; exact c1
    | j + 2 => simp at hj
  · intro u hu
    simp at hu
    rcases hu with rfl | rfl
    · exact o0
    · exact o1
  · intro g' cap w' hown' hgrow hat hlt
    exact h _ cap w' hown' ((Below.refl _ _).grown hgrow hbase (fun k hk => own_block_ge hown k hk))
theorem negAll_app (xs : List Ln) (s : List UInt8) (a : Int) : flatL (negAll (xs ++ [(s, a)])) = flatL (negAll xs) ++ [strV s, .int .i64 (-a)] := by simp [flatL, negAll]
theorem LSl.ownR {w : World} {base : Nat} {A : Option Addr} {n c : Nat} {ls : List Ln} (h : w.ownsRow base 33 2 (.slice A n c) n (flatL ls)) : LSl w w.heap.size A n ls := Sl.own h
theorem two_keep {W W' : World} {b o : Nat} {u v : Value} (hb : Below W.heap.size W W') (l : b < W.heap.size) (h : W.cell? ⟨b, o, none⟩ = some u ∧ W.cell? ⟨b, o + 1, none⟩ = some v) : W'.cell? ⟨b, o, none⟩ = some u ∧ W'.cell? ⟨b, o + 1, none⟩ = some v :=
  ⟨(hb.cell (p := ⟨b, o, none⟩) l).trans h.1, (hb.cell (p := ⟨b, o + 1, none⟩) l).trans h.2⟩
theorem two_drew {W : World} {b o : Nat} {u v : Value} (h : W.cell? ⟨b, o, none⟩ = some u ∧ W.cell? ⟨b, o + 1, none⟩ = some v) : W.drew.cell? ⟨b, o, none⟩ = some u ∧ W.drew.cell? ⟨b, o + 1, none⟩ = some v := h
theorem two_alloc_drew {W : World} {c : Obj} {b o : Nat} {u v : Value} (l : b < W.heap.size) (h : W.cell? ⟨b, o, none⟩ = some u ∧ W.cell? ⟨b, o + 1, none⟩ = some v) : (W.alloc c).drew.cell? ⟨b, o, none⟩ = some u ∧ (W.alloc c).drew.cell? ⟨b, o + 1, none⟩ = some v :=
  two_keep (W' := W.alloc c) ((Below.refl _ _).alloc (Nat.le_refl _) c) l h

set_option maxHeartbeats 8000000 in
set_option maxRecDepth 100000 in
theorem back_any (A1 A2 : Option Addr) (n1 n2 p1 p2 : Nat) (ls : List Ln) (s : ByteArray) (hs : s.size ≤ maxLen) (w : World) (he : ESl w w.heap.size A1 n1) (hl : LSl w w.heap.size A2 n2 ls) :
    Calls Try.prog 3 #[.slice A1 n1 p1, .slice A2 n2 p2, .string s] w (LawPost w) := by
  have HL := aside hl
  have HS := aside hs
  clear hl hs
  go_enter Try.func3, Try.ntmps3
  go_wp2_with fail
  refine (posted_any _).mono ?_
  rintro e w1 ⟨rfl, hb1⟩
  have hz1 := hb1.size
  go_wp2_with fail
  refine (new_any _).mono ?_
  rintro e w2 ⟨bb, rfl, hbb, hb2, hB⟩
  have HB := aside hB
  have H2 := aside (hb1.trans (hb2.mono hz1))
  have hbw : w.heap.size ≤ bb := by omega
  clear hb1 hb2 hB hbb hz1
  by_cases h40 : 40 < n1
  · have h40' : (40 : Int) < (n1 : Int) := by omega
    go_wp2
    go_ret
    exact ⟨rfl, H2.out⟩
  have h40' : ((40 : Int) < (n1 : Int)) = False := by simp only [eq_iff_iff, iff_false]; omega
  go_wp2_with fail
  go_loopw [9] (fun v9 wr => ∃ (k : Nat) (D : DataW Unit) (f : List UInt8 → Int) (cnt : Int), k ≤ n1 ∧ v9 = .int .i64 k ∧ 0 ≤ cnt ∧ cnt ≤ k ∧ Hid (BookAt wr bb D f cnt) ∧ Below w.heap.size w wr) (fun v9 _ => n1 - (intOf v9).toNat)
  case atStart => exact ⟨0, _, _, 0, Nat.zero_le _, rfl, by omega, by omega, HB, H2.out⟩
  case round =>
    obtain ⟨k, D, f, cnt, hk, rfl, hc0, hc1, HB, hb⟩ := hrel
    have hbz := hb.size
    by_cases k1 : k < n1
    · obtain ⟨b, off, Ai, ni, ci, li, rfl, hlt, c0, hli⟩ := he k k1
      have d0 := (hb.cell (p := ⟨b, off + k, none⟩) hlt).trans c0
      have l0 : b < wr.heap.size := by omega
      have i1 : (k : Int) < (n1 : Int) := by omega
      have i4 : (0 : Int) ≤ (k : Int) := by omega
      have HLi := aside ((Sl.below hli hb).more hbz)
      clear c0 hli
      go_wp2_with fail
      refine (post_book li Ai ni ci w.heap.size bb cnt D f _ HLi.out hbw HB.out (by omega)).mono ?_
      rintro e w3 ⟨hb3, ⟨-, rfl, hB3⟩ | ⟨-, ⟨q, rfl⟩, hB3⟩⟩
      all_goals have HB3 := aside hB3
      all_goals have H3 := aside (hb.trans hb3)
      all_goals clear hb3 hB3 hb d0
      all_goals go_wp2_with fail
      · exact ⟨⟨k + 1, _, _, cnt + 1, by omega, rfl, by omega, by omega, HB3, H3.out⟩, by simp [intOf]; omega⟩
      · exact ⟨⟨k + 1, _, _, cnt, by omega, rfl, by omega, by omega, HB3, H3.out⟩, by simp [intOf]; omega⟩
    · have i1 : ((k : Int) < (n1 : Int)) = False := by simp only [eq_iff_iff, iff_false]; omega
      have HLr := aside ((Sl.below HL.out hb).more hbz)
      have H3 := aside hb
      clear he hb
      go_wp2_with (first
        | (go_at_call 9; refine (balance_any s HS.out bb _ _ _ _ HB.out).mono ?_; rintro e w' ⟨rfl, rfl⟩)
        | (go_at_call 10; refine (entries_any bb _ _ _ _ HB.out).mono ?_; rintro e w' ⟨rfl, rfl⟩)
        | fail)
      refine (post_book ls A2 n2 p2 w.heap.size bb cnt D f _ HLr.out hbw HB.out (by omega)).mono ?_
      rintro e w4 ⟨hb4, ⟨hok, rfl, hB4⟩ | ⟨-, ⟨q, rfl⟩, hB4⟩⟩
      rotate_left
      · have HB4 := aside hB4
        have H4 := aside (H3.out.trans hb4)
        clear hb4 hB4
        go_wp2_with (first
          | (go_at_call 9; refine (balance_any s HS.out bb _ _ _ _ HB4.out).mono ?_; rintro e w' ⟨rfl, rfl⟩)
          | (go_at_call 10; refine (entries_any bb _ _ _ _ HB4.out).mono ?_; rintro e w' ⟨rfl, rfl⟩)
          | fail)
        go_ret
        exact ⟨by first | rfl | simp, H4.out⟩
      · have HB4 := aside hB4
        have H4 := aside (H3.out.trans hb4)
        have HOk := aside hok
        clear hb4 hB4 hok
        have HLw := aside ((Sl.below HL.out H4.out).more H4.out.size)
        have hlen := LSl.len HL.out
        have hn60 : n2 ≤ 60 := by have := HOk.out.2.1; omega
        go_wp2_with fail
        go_loopw [12, 13] (fun v12 v13 wq => ∃ (j : Nat) (A : Option Addr) (c : Nat), j ≤ n2 ∧ v13 = .int .i64 j ∧ v12 = .slice A j c ∧ Hid (wq.ownsRow w4.heap.size 33 2 (.slice A j c) j (flatL (negAll (ls.take j)))) ∧ Below w4.heap.size w4 wq) (fun _ v13 _ => n2 - (intOf v13).toNat)
        case atStart => exact ⟨0, none, 0, Nat.zero_le _, rfl, rfl, aside ⟨by simp [flatL, negAll], .inl ⟨rfl, rfl⟩⟩, Below.refl _ _⟩
        case round =>
          obtain ⟨j, A, c, hj, rfl, rfl, HR, hb⟩ := hrel
          have hbz := hb.size
          by_cases j1 : j < n2
          · obtain ⟨b, off, rfl, hlt, c0, c1⟩ := LSl.at_ HLw.out j1
            have HT := aside (take_next (ls := ls) (k := j) (by omega))
            have hLk : LnOk (ls.getD j ([], 0)) := HOk.out.2.2.1 _ (by rw [List.getD_eq_getElem?_getD, List.getElem?_eq_getElem (by omega), Option.getD_some]; exact List.getElem_mem _)
            generalize ls.getD j ([], 0) = p at c0 c1 HT hLk
            obtain ⟨t, x⟩ := p
            have hx := hLk.2.2
            simp only [strV] at c0 c1 hx
            have HC4 := aside (And.intro c0 c1)
            have d0 := (hb.cell (p := ⟨b, off + j * 2, none⟩) hlt).trans c0
            have d1 := (hb.cell (p := ⟨b, off + j * 2 + 1, none⟩) hlt).trans c1
            have l0 : b < wr.heap.size := by omega
            have i1 : (j : Int) < (n2 : Int) := by omega
            have i4 : (0 : Int) ≤ (j : Int) := by omega
            have wn : wrap64 (-x) = -x := by unfold Within at hx; unfold wrap64; omega
            have wn' : IntKind.i64.wrap (-x) = -x := by rw [IntKind.wrap_i64]; unfold Within at hx; omega
            clear c0 c1 hx hLk
            go_wp2_with fail
            have HS0 := two_drew ⟨d0, d1⟩
            have HS1 := fun c => two_alloc_drew (c := c) l0 ⟨d0, d1⟩
            have H5 := aside hb
            go_region_held3 (fun v => v.cell? ⟨b, off + j * 2, none⟩ = some (.string ⟨t.toArray⟩) ∧ v.cell? ⟨b, off + j * 2 + 1, none⟩ = some (.int .i64 x))
              (with_reducible (first | exact HS0 | exact HS1 _ | exact HS3))
              (first
                | (refine step_line (by rfl) _ _ (by rfl) (base := w4.heap.size) (n := j) (by rfl) (by rfl) (World.ownsRow.alloc HR.out _) (World.cell?_alloc_at _ _ _ _ rfl) (World.cell?_alloc_at _ _ _ _ rfl) rfl rfl (by omega) (by first | exact Nat.le_trans hbz (Nat.le_succ _) | (simp; omega)) ?_; intro A3 c3 w5 hown3 hb5; have hb5w : Below w4.heap.size w4 w5 := (H5.out.alloc hbz _).trans ⟨hb5.os, hb5.tape, hb5.output, hb5.size, hb5.block⟩; have HS3 := two_keep hb5w hlt HC4.out; skip))
            have HO3 := aside hown3
            have H6 := aside hb5w
            clear hown3 hb5 hb5w d0 d1 HS0 HS1 HS3 hb
            go_wp2
            exact ⟨⟨j + 1, A3, c3, by omega, rfl, rfl, aside (by rw [HT.out, negAll_app]; first | exact HO3.out | (have h := HO3.out; rw [wn] at h; exact h)), H6.out⟩, by simp [intOf]; omega⟩
          · have i1 : ((j : Int) < (n2 : Int)) = False := by simp only [eq_iff_iff, iff_false]; omega
            obtain rfl : j = n2 := by omega
            have htk : ls.take j = ls := List.take_of_length_le (by omega)
            rw [htk] at HR
            have HLb := aside (LSl.ownR HR.out)
            have HB5 := aside (HB4.out.to hb)
            have H5 := aside (H4.out.trans (hb.mono H4.out.size))
            have HBack := aside (HB.out.fine.back HOk.out)
            have wc : wrap64 (cnt + 2) = cnt + 2 := by unfold wrap64; omega
            clear htk HR hb
            go_wp2_with fail
            refine (post_book (negAll ls) A j c w.heap.size bb (cnt + 1) _ _ _ HLb.out hbw HB5.out (by omega)).mono ?_
            rintro e w6 ⟨hb6, ⟨-, rfl, hB6⟩ | ⟨h, -⟩⟩
            rotate_left
            · exact absurd HBack.out h
            rw [show cnt + 1 + 1 = cnt + 2 by omega] at hB6
            have HB6 := aside hB6
            have H6 := aside (H5.out.trans hb6)
            clear hB6 hb6
            go_wp2_with (first
              | (go_at_call 9; refine (balance_any s HS.out bb _ _ _ _ HB6.out).mono ?_; rintro e w' ⟨rfl, rfl⟩; rw [addAll_back])
              | (go_at_call 10; refine (entries_any bb _ _ _ _ HB6.out).mono ?_; rintro e w' ⟨rfl, rfl⟩)
              | fail)
            go_ret
            exact ⟨by first | rfl | simp, H6.out⟩
end Go.Proofs.Ytjoplhpaefngkaa
