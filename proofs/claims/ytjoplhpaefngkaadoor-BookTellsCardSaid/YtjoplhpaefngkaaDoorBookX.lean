/- BookTells: the book and the reference's one tell the same. Condition: errors.errorType reads as the program's text lays it. -/
import Derived.Test.YtjoplhpaefngkaaDoorBookH
import Derived.Test.YtjoplhpaefngkaaDoorErrB
import Derived.Deep.Slices
namespace Go.Proofs.YtjoplhpaefngkaaDoor
open Go.RowKit Go.ChangeShapes Go.WideShapes Go.ChangeAt

/-- A slice of slices of lines. -/
def ESl (w : World) (B : Nat) (A : Option Addr) (n : Nat) : Prop :=
  ∀ k, k < n → ∃ b off Ai ni ci li, A = some ⟨b, off, none⟩ ∧ b < B ∧ w.cell? ⟨b, off + k, none⟩ = some (.slice Ai ni ci) ∧ LSl w B Ai ni li
theorem BookAt.strMap {w : World} {bb : Nat} {D : DataW Unit} {f : List UInt8 → Int} {cnt : Int} (h : BookAt w bb D f cnt) : StrMap D := by
  obtain ⟨-, ⟨mb, -, h3⟩, -⟩ := h
  exact strMap_of h3
theorem BookAt.has_len {w : World} {bb : Nat} {D : DataW Unit} {f : List UInt8 → Int} {cnt : Int} (h : BookAt w bb D f cnt) : ∀ x, Maps.has D (kOf x) = true → x.length ≤ maxLen := by
  obtain ⟨-, ⟨mb, -, h3⟩, -⟩ := h
  exact fun x hx => strKeys_le h3 Tryd.underlying9 x (((strMap_of h3).facts.2 x).2 hx)
/-- One entry: what is wrong, and what is there then. -/
def Did (D : DataW Unit) (f : List UInt8 → Int) (cnt : Int) (ls : List Ln) (q : Int) (D' : DataW Unit) (f' : List UInt8 → Int) (cnt' : Int) : Prop :=
  (PostOk 60 D f ls ∧ q = 0 ∧ D' = putAll D f ls ∧ f' = addAll f ls ∧ cnt' = cnt + 1) ∨ (¬ PostOk 60 D f ls ∧ q = pErr 60 D f ls ∧ D' = D ∧ f' = f ∧ cnt' = cnt)
theorem post_did {D D' : DataW Unit} {f f' : List UInt8 → Int} {cnt cnt' q : Int} {ls : List Ln} (hd : Did D f cnt ls q D' f' cnt') (A : Option Addr) (n cp B bb : Nat) (w : World) (hl : LSl w w.heap.size A n ls) (hB : B ≤ bb) (h : BookAt w bb D f cnt) (hc : 0 ≤ cnt ∧ cnt ≤ 1000) :
    Calls Tryd.prog 8 #[.pointer (some ⟨bb, 0, none⟩), .slice A n cp] w (fun e w' => e = .returned (errOf q) ∧ BookAt w' bb D' f' cnt' ∧ Below B w w' ∧ ∀ k, k < w.heap.size → k ≠ bb → w'.heap[k]? = w.heap[k]?) := by
  refine (post_book3 ls A n cp B bb cnt D f w hl hB h hc).mono ?_
  rintro e w' ⟨h1, hk, ⟨h2, rfl, h3⟩ | ⟨h2, rfl, h3⟩⟩
  · rcases hd with ⟨-, rfl, rfl, rfl, rfl⟩ | ⟨h4, -⟩
    · exact ⟨rfl, h3, h1, hk⟩
    · exact absurd h2 h4
  · rcases hd with ⟨h4, -⟩ | ⟨-, rfl, rfl, rfl, rfl⟩
    · exact absurd h4 h2
    · exact ⟨by rw [errOf_no (pErr_not h2)], h3, h1, hk⟩
theorem ref_did {D : DataW Unit} {f : List UInt8 → Int} (cnt : Int) {ls : List Ln} (A A2 : Option Addr) (n c n2 c2 : Nat) (w : World) (h : LSl w w.heap.size A n (trialOf D f)) (hl : LSl w w.heap.size A2 n2 ls)
    (hF : Fine 60 D f) (hS : StrMap D) (hN : ∀ x, Maps.has D (kOf x) = true → x.length ≤ maxLen) :
    Calls Tryd.prog 6 #[.slice A n c, .slice A2 n2 c2] w (fun e w' => Below w.heap.size w w' ∧ ∃ A' c' q D' f' cnt', e = .returned (.tuple #[.slice A' (trialOf D' f').length c', .int .i64 q]) ∧ LSl w' w'.heap.size A' (trialOf D' f').length (trialOf D' f') ∧ Did D f cnt ls q D' f' cnt' ∧ (Far w.heap.size A' ∨ A' = A)) := by
  refine (refPost_any A A2 n c n2 c2 D f ls w h hl hF hS hN).mono ?_
  rintro e w' ⟨hb, ⟨h1, A', n', c', rfl, h2, h3⟩ | ⟨h1, rfl⟩⟩
  · obtain rfl := h2.len
    exact ⟨hb, A', c', 0, _, _, cnt + 1, rfl, h2, .inl ⟨h1, rfl, rfl, rfl, rfl⟩, .inl h3⟩
  · obtain rfl := h.len
    exact ⟨hb, A, c, _, D, f, cnt, rfl, (Sl.below h hb).more hb.size, .inr ⟨h1, rfl, rfl, rfl, rfl⟩, .inr rfl⟩
theorem Did.zero {D D' : DataW Unit} {f f' : List UInt8 → Int} {cnt cnt' q : Int} {ls : List Ln} (h : Did D f cnt ls q D' f' cnt') : ((q == 0) = true ∧ cnt' = cnt + 1) ∨ ((q == 0) = false ∧ cnt' = cnt) := by
  rcases h with ⟨-, rfl, -, -, rfl⟩ | ⟨h1, rfl, -, -, rfl⟩
  · exact .inl ⟨rfl, rfl⟩
  · exact .inr ⟨by simpa using pErr_not h1, rfl⟩
theorem LSl.but {w w' : World} {b n : Nat} {A : Option Addr} {ls : List Ln} (h : LSl w w.heap.size A n ls) (hk : ∀ k, k < w.heap.size → k ≠ b → w'.heap[k]? = w.heap[k]?) (hs : w.heap.size ≤ w'.heap.size) (hf : ∀ c o s, A = some ⟨c, o, s⟩ → c ≠ b) : LSl w' w'.heap.size A n ls :=
  ⟨Sl.len h, fun hn => by
    obtain ⟨c, off, e, hb, hc⟩ := Sl.cells h hn
    exact ⟨c, off, e, Nat.lt_of_lt_of_le hb hs, fun j u hu => (World.cell?_of_block (a := ⟨c, off + j, none⟩) (hk c hb (hf _ _ _ e))).trans (hc j u hu)⟩⟩
theorem LSl.drewN {w : World} {B n : Nat} {A : Option Addr} {ls : List Ln} (h : LSl w B A n ls) (q : Nat) : LSl (w.drewN q) B A n ls := Sl.drewN h q
theorem trial_empty : trialOf (.map []) (fun _ => 0) = [] := by simp [trialOf, keysOf, strKeys]
theorem sumAt_take {xs : List Ln} (h : Rises xs) {j : Nat} {s : List UInt8} {a : Int} (ht : xs.take (j + 1) = xs.take j ++ [(s, a)]) : sumAt s (xs.take j) = 0 := by
  refine sumAt_none fun v hv => ?_
  have hr : Rises (xs.take (j + 1)) := List.Pairwise.sublist ((List.take_sublist _ _).map _) h
  rw [ht] at hr
  unfold Rises at hr
  rw [List.map_append, List.pairwise_append] at hr
  exact lt_irr s (hr.2.2 s (List.mem_map.2 ⟨_, hv, rfl⟩) s (by simp))

set_option maxHeartbeats 8000000 in
set_option maxRecDepth 100000 in
theorem tells_any (A1 : Option Addr) (n1 p1 : Nat) (nm : List UInt8) (hs : nm.length ≤ maxLen) (w : World) (hg : ErrVar w) (he : ESl w w.heap.size A1 n1) :
    Calls Tryd.prog 3 #[.slice A1 n1 p1, .string ⟨nm.toArray⟩] w (LawPost w) := by
  have HS := aside hs
  have HG := aside hg
  have hgl := errVar_lt hg
  clear hs hg
  go_enter Tryd.func3, Tryd.ntmps3
  go_wp2_with fail
  refine (posted_any _).mono ?_
  rintro e w1 ⟨rfl, hb1⟩
  have hz1 := hb1.size
  go_wp2_with fail
  refine (new_any _).mono ?_
  rintro e w2 ⟨bb, rfl, hbb, hb2, hB⟩
  have HB := aside hB
  have H2 := aside (hb1.trans (hb2.mono hz1))
  have hbw : w.heap.size ≤ bb := by omega
  clear hb1 hb2 hB hbb hz1
  by_cases h20 : 20 < n1
  · have h20' : (20 : Int) < (n1 : Int) := by omega
    go_wp2
    go_ret
    exact ⟨rfl, H2.out⟩
  have h20' : ((20 : Int) < (n1 : Int)) = False := by simp only [eq_iff_iff, iff_false]; omega
  go_wp2_with fail
  go_loopw [7, 8, 9] (fun v7 v8 v9 wr => ∃ (k : Nat) (D : DataW Unit) (f : List UInt8 → Int) (cnt : Int) (A : Option Addr) (n c : Nat), k ≤ n1 ∧ v9 = .int .i64 k ∧ 0 ≤ cnt ∧ cnt ≤ k ∧ v8 = .int .i64 cnt ∧ v7 = .slice A n c ∧ Hid (∀ b o s, A = some ⟨b, o, s⟩ → b ≠ bb) ∧ Hid (LSl wr wr.heap.size A n (trialOf D f)) ∧ Hid (BookAt wr bb D f cnt) ∧ Below w.heap.size w wr) (fun _ _ v9 _ => n1 - (intOf v9).toNat)
  case atStart => exact ⟨0, _, _, 0, none, 0, 0, Nat.zero_le _, rfl, by omega, by omega, rfl, rfl, aside (fun _ _ _ e => by cases e), aside (trial_empty ▸ Sl.nil_), HB, H2.out⟩
  case round =>
    obtain ⟨k, D, f, cnt, A, n, c, hk, rfl, hc0, hc1, rfl, rfl, HNe, HL, HB, hb⟩ := hrel
    have hbz := hb.size
    by_cases k1 : k < n1
    · obtain ⟨b, off, Ai, ni, ci, li, rfl, hlt, c0, hli⟩ := he k k1
      have d0 := (hb.cell (p := ⟨b, off + k, none⟩) hlt).trans c0
      have l0 : b < wr.heap.size := by omega
      have i1 : (k : Int) < (n1 : Int) := by omega
      have i4 : (0 : Int) ≤ (k : Int) := by omega
      have HC0 := aside c0
      have HLi := aside hli
      have hcw : cnt ≤ 20 := by omega
      clear c0 hli
      go_wp2_with fail
      refine (ref_did cnt A Ai n c ni ci _ HL.out ((Sl.below HLi.out hb).more hbz) HB.out.fine HB.out.strMap HB.out.has_len).mono ?_
      rintro e w3 ⟨hb3, A3, c3, q, D3, f3, cnt3, rfl, hL3, hD, hfar⟩
      have HNe3 : Hid (∀ b o s, A3 = some ⟨b, o, s⟩ → b ≠ bb) := aside (by
        rcases hfar with h | rfl
        · intro b o s e
          have h1 := h b o s e
          have h2 := HB.out.lt
          omega
        · exact HNe.out)
      have HL3 := aside hL3
      have HB3 := aside (HB.out.to hb3)
      have H3 := aside (hb.trans (hb3.mono hbz))
      have HD := aside hD
      have e0 := (H3.out.cell (p := ⟨b, off + k, none⟩) hlt).trans HC0.out
      have l3 : b < w3.heap.size := by have := H3.out.size; omega
      have hz := hD.zero
      have HLi3 := aside ((Sl.below HLi.out H3.out).more H3.out.size)
      clear hL3 hb3 d0 hD hb HL HB hfar
      rcases hz with ⟨hq, rfl⟩ | ⟨hq, rfl⟩
      all_goals go_wp2_with fail
      all_goals refine (post_did HD.out Ai ni ci w.heap.size bb _ HLi3.out hbw HB3.out ⟨hc0, by omega⟩).mono ?_
      all_goals rintro e w4 ⟨rfl, hB4, hb4, hk4⟩
      all_goals have hs4 : w3.heap.size ≤ w4.heap.size := hb4.size
      all_goals have HL4 := aside (LSl.but HL3.out hk4 hs4 HNe3.out)
      all_goals have HB4 := aside hB4
      all_goals have H4 := aside (H3.out.trans hb4)
      all_goals have HE4 : Hid (ErrVar w4) := aside (HG.out.below hgl H4.out)
      all_goals clear hB4 hb4 e0 hk4
      all_goals go_wp2_with fail
      all_goals refine (error_any q q _ HE4.out).mono ?_
      all_goals rintro e w5 ⟨rfl, hb5⟩
      all_goals have HB5 := aside (HB4.out.to hb5)
      all_goals have H5 := aside (H4.out.trans (hb5.mono H4.out.size))
      all_goals have HL5 := aside ((Sl.below HL4.out hb5).more hb5.size)
      all_goals have hq2 : (q == q) = true := by simp
      all_goals have ht60 := trial_len HB5.out.fine
      all_goals clear hb5
      all_goals go_wp2_with fail
      all_goals refine (trial_any bb _ _ _ _ HB5.out).mono ?_
      all_goals rintro e w6 ⟨A6, c6, rfl, hL6, hb6⟩
      all_goals have HL6 := aside hL6
      all_goals have HB6 := aside (HB5.out.to hb6)
      all_goals have H6 := aside (H5.out.trans (hb6.mono H5.out.size))
      all_goals have HA6 := aside ((Sl.below HL5.out hb6).more hb6.size)
      all_goals clear hb6 hL6
      all_goals go_wp2_with fail
      all_goals refine (lines_same _ _ _ _ _ _ _ HL6.out HA6.out (by omega)).mono ?_
      all_goals rintro e w7 ⟨rfl, r, rfl⟩
      all_goals have HB7 := aside (HB6.out.drewN r)
      all_goals have HA7 := aside (LSl.drewN HA6.out r)
      all_goals go_wp2_with (first
        | (go_at_call 11; refine (entries_any bb _ _ _ _ HB7.out).mono ?_; rintro e w' ⟨rfl, rfl⟩)
        | fail)
      · exact ⟨⟨k + 1, D3, f3, cnt + 1, A3, _, c3, by omega, rfl, by omega, by omega, rfl, rfl, HNe3, HA7, HB7, below_drawn H6.out r⟩, by simp [intOf]; omega⟩
      · exact ⟨⟨k + 1, D3, f3, _, A3, _, c3, by omega, rfl, by omega, by omega, rfl, rfl, HNe3, HA7, HB7, below_drawn H6.out r⟩, by simp [intOf]; omega⟩
    · have i1 : ((k : Int) < (n1 : Int)) = False := by simp only [eq_iff_iff, iff_false]; omega
      have H3 := aside hb
      have hlen := LSl.len HL.out
      have ht60 := trial_len HB.out.fine
      have HRs := aside (trial_rises f HB.out.strMap)
      have HSm := aside (sumAt_trial HB.out.fine.1 HB.out.strMap nm)
      clear he hb
      go_wp2_with fail
      go_loopw [13, 14] (fun v13 v14 wq => ∃ (j q : Nat), j ≤ n ∧ v14 = .int .i64 j ∧ v13 = .int .i64 (sumAt nm ((trialOf D f).take j)) ∧ wq = wr.drewN q) (fun _ v14 _ => n - (intOf v14).toNat)
      case atStart => exact ⟨0, 0, Nat.zero_le _, rfl, rfl, rfl⟩
      case round =>
        obtain ⟨j, q, hj, rfl, rfl, rfl⟩ := hrel
        by_cases j1 : j < n
        · obtain ⟨b, off, rfl, hlt, c0, c1⟩ := LSl.at_ HL.out j1
          have HT := aside (take_next (ls := trialOf D f) (k := j) (by omega))
          generalize (trialOf D f).getD j ([], 0) = p at c0 c1 HT
          obtain ⟨t, x⟩ := p
          simp only [strV] at c0 c1
          have i1 : (j : Int) < (n : Int) := by omega
          have i4 : (0 : Int) ≤ (j : Int) := by omega
          by_cases he : t = nm
          · have hst : (t == nm) = true := by simpa using he
            have HSum : Hid (sumAt nm ((trialOf D f).take (j + 1)) = x) := aside (by
              subst he
              rw [HT.out, sumAt_app, sumAt_take HRs.out HT.out]
              simp [sumAt])
            clear he
            go_wp2
            exact ⟨⟨j + 1, q, by omega, by go_num, by rw [HSum.out], rfl⟩, by simp [intOf]; omega⟩
          · have hst : (t == nm) = false := by simpa using he
            have HSum : Hid (sumAt nm ((trialOf D f).take (j + 1)) = sumAt nm ((trialOf D f).take j)) := aside (by
              rw [HT.out, sumAt_app]
              simp [sumAt, show nm ≠ t from fun e => he e.symm])
            clear he
            go_wp2
            exact ⟨⟨j + 1, q, by omega, by go_num, by rw [HSum.out], rfl⟩, by simp [intOf]; omega⟩
        · have i1 : ((j : Int) < (n : Int)) = False := by simp only [eq_iff_iff, iff_false]; omega
          obtain rfl : j = n := by omega
          rw [List.take_of_length_le (by omega), HSm.out]
          have HBq := aside (HB.out.drewN q)
          go_wp2_with (first
            | (go_at_call 12; refine (balance_any ⟨nm.toArray⟩ (by show nm.toArray.size ≤ maxLen; simpa using HS.out) bb _ _ _ _ HBq.out).mono ?_; rintro e w' ⟨rfl, rfl⟩)
            | fail)
          go_ret
          exact ⟨by simp, below_drawn H3.out q⟩
end Go.Proofs.YtjoplhpaefngkaaDoor
