/- A leaf's path where all have a root: audit.Path: the walk. Conditions: named in each theorem. -/
import Derived.Test.YtkpbhbafapdboaaDoorAudS
namespace Go.Proofs.YtkpbhbafapdboaaDoor
open Go.RowKit Go.ChangeShapes Go.WideShapes Go.ChangeAt Go.Sort

/-- How long a slice in a slot is. -/
def nOf : Value → Nat
  | .slice _ n _ => n
  | _ => 0
theorem tot_ones (s : Int) (d : List Nat) : (totR s d).toList.all (fun u => u.oneCell') = true := by
  unfold totR totL
  simp [Value.oneCell']
theorem own_otherRow {w : World} {base g m c : Nat} {A : Option Addr} {ts : List Tot} (h : TOwn w base (.slice A m c) m ts) (hg : ∀ k, (Value.slice A m c).ownBlock = some k → k ≠ g) (cs : Array Value) : TOwn (w.setRow g cs) base (.slice A m c) m ts := by
  obtain ⟨h1, h2⟩ := h
  refine ⟨h1, ?_⟩
  rcases h2 with h2 | ⟨b, cap, cur, e, hb, hh, r⟩
  · exact .inl h2
  · refine .inr ⟨b, cap, cur, e, hb, ?_, r⟩
    have hne : b ≠ g := hg b (by rw [e]; rfl)
    rw [setRow_other _ _ _ _ hne]
    exact hh

set_option maxHeartbeats 4000000 in
set_option maxRecDepth 100000 in
theorem path_ok (ts : List Tot) (hd : ∀ t ∈ ts, Dig t.2) (i : Nat) (A : Option Addr) (n c : Nat) (w : World) (hnc : n ≤ c) (h : TSl w w.heap.size A n ts) (hg : RoundsAt w) (hq : (rootR ts).2 = 0) (hi : i < n) :
    Calls Tryd.prog 11 #[.slice A n c, .int .i64 i] w (fun e w' => (∃ G m cg, e = .returned (.tuple #[.slice G m cg, .nilIface]) ∧ TSl w' w'.heap.size G m (path0 i ts).reverse) ∧ Below w.heap.size w w') := by
  have hRoot := fun w' h1 h2 => Root_any ts hd A n c w' hnc h1 h2
  have hRd := rootR_dig ts hd
  have hln := FSl.len totE_len (by decide) h
  have hn256 : n ≤ 256 := by
    unfold rootR at hq
    by_cases hb : 256 < ts.length
    · rw [if_pos hb] at hq
      exact absurd hq (by decide)
    · omega
  obtain ⟨x, hx⟩ : ∃ x, rootR ts = (x, 0) := ⟨(rootR ts).1, by rw [← hq]⟩
  rw [hx] at hRoot hRd
  have HRoot : Hid (∀ w', TSl w' w'.heap.size A n ts → RoundsAt w' → Calls Tryd.prog 10 #[.slice A n c] w' (fun e w'' => e = .returned (.tuple #[tV x, .nilIface]) ∧ Below w'.heap.size w' w'')) := aside hRoot
  have HRd := aside hRd
  have HSl := aside h
  have HG := aside hg
  have HD0 := aside hd
  have e1 : ((i : Int) < 0) = False := by simp only [eq_iff_iff, iff_false]; omega
  have e2 : ((n : Int) ≤ (i : Int)) = False := by simp only [eq_iff_iff, iff_false]; omega
  clear hRoot hRd h hg hd hx hq
  go_enter Tryd.func11, Tryd.ntmps11
  go_upto_region 4 with (first
    | (go_at_call 10; refine (HRoot.out w HSl.out HG.out).mono ?_; rintro e w2 ⟨rfl, hb2⟩; have HB2 := aside hb2; have R2 := TotAt.new w2 0 zeroD; clear hb2)
    | (refine wpList_store_row rfl 25 (.tmp 6) (.tmp 14) rfl w2.heap.size (totR x.1 x.2) rfl rfl 25 (totR 0 zeroD) R2 (totInfo HRd.out.1) (tot_same rfl HRd.out.1) (totR_one _ _) ?_)
    | fail)
  have hB3 : Below w.heap.size w ((w2.alloc (.cells (totR 0 zeroD) 25)).setRow w2.heap.size (totR x.1 x.2)) := below_setRow (HB2.out.alloc HB2.out.size _) _ HB2.out.size _
  change Code.wp _ _ _ _ ((w2.alloc (.cells (totR 0 zeroD) 25)).setRow w2.heap.size (totR x.1 x.2))
  clear R2 HB2
  generalize ((w2.alloc (.cells (totR 0 zeroD) 25)).setRow w2.heap.size (totR x.1 x.2)) = w3 at hB3 ⊢
  have HB3 := aside hB3
  clear hB3 HRoot
  go_upto_region 7 with fail
  go_loopw [0, 1, 8] (fun x0 x1 x8 wr => ∃ (A2 : Option Addr) (n2 c2 i2 : Nat) (G : Option Addr) (m cg : Nat) (ts2 L : List Tot), x0 = .slice A2 n2 c2 ∧ x1 = .int .i64 i2 ∧ x8 = .slice G m cg ∧ n2 ≤ c2 ∧ Hid (TSl w w.heap.size A2 n2 ts2) ∧ Hid (∀ t ∈ ts2, Dig t.2) ∧ i2 < n2 ∧ n2 ≤ 256 ∧ m + n2 ≤ n ∧ Hid (TOwn wr w.heap.size (.slice G m cg) m L) ∧ Hid (∀ t ∈ L, Dig t.2) ∧ Hid (L ++ path0 i2 ts2 = path0 i ts) ∧ Hid (Below w.heap.size w wr)) (fun x0 _ _ _ => nOf x0)
  case atStart => exact ⟨A, n, c, i, none, 0, 0, ts, [], rfl, rfl, rfl, hnc, HSl, HD0, hi, hn256, by omega, aside ⟨by simp, .inl ⟨rfl, rfl⟩⟩, aside (fun t ht => by cases ht), aside rfl, HB3⟩
  case round =>
    clear HB3 HSl HD0
    obtain ⟨A2, n2, c2, i2, G, m, cg, ts2, L, rfl, rfl, rfl, hnc2, HSl2, HD, hi2, hn2, hmn, HO, HLd, HP, HB⟩ := hrel
    have hln2 := FSl.len totE_len (by decide) HSl2.out
    by_cases h2 : 2 ≤ n2
    · have e3 : (1 : Int) < (n2 : Int) := by omega
      have hh := half_lt h2 hn2
      have HS := aside (path0_step i2 ts2 (by omega) (by omega))
      rw [hln2] at HS
      have HHf := aside (half_any n2 h2 hn2)
      generalize halfN n2 = k at hh HS HHf
      obtain ⟨k1, k2⟩ := hh
      obtain ⟨tb, to, hA, htb, -, -⟩ := TSl.at_ HSl2.out HD.out (show 0 < n2 by omega)
      subst hA
      have HC1 : Hid (∀ w', Below w.heap.size w w' → Calls Tryd.prog 26 #[.slice (some ⟨tb, to, none⟩) k c2] w' (fun e w'' => e = .returned (.tuple #[tV (rootF 257 (ts2.take k)).1, errA (rootF 257 (ts2.take k)).2]) ∧ Below w'.heap.size w' w'')) := aside (fun w' hb => root_any 257 (ts2.take k) (by rw [List.length_take]; omega) (by rw [List.length_take]; omega) (fun t ht => HD.out t (List.mem_of_mem_take ht)) _ k c2 w' (by omega) ((Sl.below (HSl2.out.take (Nat.le_of_lt k2)) hb).more hb.size) (HG.out.below hb))
      have HC2 : Hid (∀ w', Below w.heap.size w w' → Calls Tryd.prog 26 #[.slice (some ⟨tb, to + k * 33, none⟩) (n2 - k) (c2 - k)] w' (fun e w'' => e = .returned (.tuple #[tV (rootF 257 (ts2.drop k)).1, errA (rootF 257 (ts2.drop k)).2]) ∧ Below w'.heap.size w' w'')) := aside (fun w' hb => root_any 257 (ts2.drop k) (by rw [List.length_drop]; omega) (by rw [List.length_drop]; omega) (fun t ht => HD.out t (List.mem_of_mem_drop ht)) _ (n2 - k) (c2 - k) w' (by omega) ((Sl.below (HSl2.out.drop k2) hb).more hb.size) (HG.out.below hb))
      have HD1 := aside (rootF_dig 257 (ts2.take k) (fun t ht => HD.out t (List.mem_of_mem_take ht)))
      have HD2 := aside (rootF_dig 257 (ts2.drop k) (fun t ht => HD.out t (List.mem_of_mem_drop ht)))
      generalize errA (rootF 257 (ts2.take k)).2 = E1 at HC1
      generalize errA (rootF 257 (ts2.drop k)).2 = E2 at HC2
      generalize (rootF 257 (ts2.take k)).1 = x1 at HC1 HD1 HS
      generalize (rootF 257 (ts2.drop k)).1 = x2 at HC2 HD2 HS
      have hkc : k ≤ c2 := by omega
      have hkn : k ≤ n2 := by omega
      have HBlt : Hid (∀ b, (Value.slice G m cg).ownBlock = some b → b ≠ wr.heap.size) := aside (fun b hb => Nat.ne_of_lt (HO.out.lt b hb).2)
      have T3' := TotAt.new wr 0 zeroD
      have hB3 : Below w.heap.size w (wr.alloc (.cells (totR 0 zeroD) 25)) := HB.out.alloc HB.out.size _
      have hO3 : TOwn (wr.alloc (.cells (totR 0 zeroD) 25)) w.heap.size (.slice G m cg) m L := own_below HO.out (below_more (Below.refl _ _) _)
      go_upto_region 10 with (first
        | (go_at_call 27; refine (HHf.out _).mono ?_; rintro e w' ⟨rfl, hw'⟩; rw [hw']; clear hw' w')
        | fail)
      change Code.wp _ _ _ _ (wr.alloc (.cells (totR 0 zeroD) 25))
      generalize (wr.alloc (.cells (totR 0 zeroD) 25)) = w3 at T3' hB3 hO3 ⊢
      have T3 := aside T3'
      have HO3a := aside hO3
      clear T3' hO3
      by_cases hik : i2 < k
      · have e4 : (i2 : Int) < (k : Int) := by omega
        rw [if_pos hik] at HS
        go_upto_region 15 with (first
          | (go_at_call 26; refine (HC2.out w3 hB3).mono ?_; rintro e w4 ⟨rfl, hb4⟩; have HB4 : Hid (Below w.heap.size w w4) := aside (hB3.trans (hb4.mono hB3.size)); have T4 : Hid (TotAt w4 wr.heap.size 0 zeroD) := aside (T3.out.below hb4 T3.out.lt); have HO4 : Hid (TOwn w4 w.heap.size (.slice G m cg) m L) := aside (own_below HO3a.out hb4); clear hb4)
          | (refine wpList_store_row rfl 25 (.tmp 10) (.tmp 42) rfl wr.heap.size (totR x2.1 x2.2) rfl rfl 25 (totR 0 zeroD) T4.out (totInfo HD2.out.1) (tot_same rfl HD2.out.1) (totR_one _ _) ?_)
          | fail)
        have T5' : TotAt (w4.setRow wr.heap.size (totR x2.1 x2.2)) wr.heap.size x2.1 x2.2 := T4.out.setRow
        have hB5' : Below w.heap.size w (w4.setRow wr.heap.size (totR x2.1 x2.2)) := below_setRow HB4.out _ HB.out.size _
        have hO5 : TOwn (w4.setRow wr.heap.size (totR x2.1 x2.2)) w.heap.size (.slice G m cg) m L := own_otherRow HO4.out HBlt.out _
        change Code.wp _ _ _ _ (w4.setRow wr.heap.size (totR x2.1 x2.2))
        generalize (w4.setRow wr.heap.size (totR x2.1 x2.2)) = w5 at T5' hB5' hO5 ⊢
        have T5 := aside T5'
        have HB5 := aside hB5'
        have HO5 := aside hO5
        clear T5' hB5' hO5 T4 HB4 HO4
        go_wp2_with (first
          | (refine wpList_load_row rfl 25 (.tmp 10) rfl wr.heap.size rfl 25 (totR x2.1 x2.2) (0, 0) _ T5.out Tryd.underlying25 rfl (totInfo HD2.out.1) ?_)
          | (refine wpList_one rfl (.tmp 61) rfl x2.1 x2.2 rfl HD2.out.1 ?_)
          | (at_builtin; refine wpList_push rfl (.tmp 60) (.tmp 62) 26 rfl w.heap.size (.agg (totR 0 zeroD)) 33 40 Tryd.underlying26 totInfo3 rfl (by decide) _ m _ rfl rfl (totR_size HD2.out.1) (tot_ones _ _) HO5.out (by omega) (by unfold maxLen; omega) HB5.out.size ?_; intro G3 c3 w6 hc3 hc3' hown hb6 hz6 hg6; have HO3 := aside (TOwn.push HD2.out.1 hown); have HB6 := aside (HB5.out.trans hb6); clear hown hb6 hg6 hz6)
          | fail)
        refine ⟨⟨some ⟨tb, to, none⟩, k, c2, i2, G3, m + 1, c3, ts2.take k, L ++ [x2], rfl, rfl, rfl, by omega, aside (HSl2.out.take (Nat.le_of_lt k2)), aside (fun t ht => HD.out t (List.mem_of_mem_take ht)), hik, by omega, by omega, HO3, aside ?_, aside ?_, HB6⟩, by simp [nOf]; omega⟩
        · intro t ht
          rcases List.mem_append.1 ht with ht | ht
          · exact HLd.out t ht
          · rw [List.mem_singleton] at ht
            rw [ht]
            exact HD2.out
        · rw [← HP.out, HS.out, List.append_assoc]
          rfl
      · have e4 : ((i2 : Int) < (k : Int)) = False := by simp only [eq_iff_iff, iff_false]; omega
        rw [if_neg hik] at HS
        obtain ⟨i3, hi3e⟩ : ∃ i3, i3 = i2 - k := ⟨_, rfl⟩
        have g1 : (i2 : Int) - (k : Int) = (i3 : Int) := by omega
        have hi3 : i3 < n2 - k := by omega
        rw [← hi3e] at HS
        clear hi3e hik
        go_upto_region 15 with (first
          | (go_at_call 26; refine (HC1.out w3 hB3).mono ?_; rintro e w4 ⟨rfl, hb4⟩; have HB4 : Hid (Below w.heap.size w w4) := aside (hB3.trans (hb4.mono hB3.size)); have T4 : Hid (TotAt w4 wr.heap.size 0 zeroD) := aside (T3.out.below hb4 T3.out.lt); have HO4 : Hid (TOwn w4 w.heap.size (.slice G m cg) m L) := aside (own_below HO3a.out hb4); clear hb4)
          | (refine wpList_store_row rfl 25 (.tmp 10) (.tmp 52) rfl wr.heap.size (totR x1.1 x1.2) rfl rfl 25 (totR 0 zeroD) T4.out (totInfo HD1.out.1) (tot_same rfl HD1.out.1) (totR_one _ _) ?_)
          | fail)
        have T5' : TotAt (w4.setRow wr.heap.size (totR x1.1 x1.2)) wr.heap.size x1.1 x1.2 := T4.out.setRow
        have hB5' : Below w.heap.size w (w4.setRow wr.heap.size (totR x1.1 x1.2)) := below_setRow HB4.out _ HB.out.size _
        have hO5 : TOwn (w4.setRow wr.heap.size (totR x1.1 x1.2)) w.heap.size (.slice G m cg) m L := own_otherRow HO4.out HBlt.out _
        change Code.wp _ _ _ _ (w4.setRow wr.heap.size (totR x1.1 x1.2))
        generalize (w4.setRow wr.heap.size (totR x1.1 x1.2)) = w5 at T5' hB5' hO5 ⊢
        have T5 := aside T5'
        have HB5 := aside hB5'
        have HO5 := aside hO5
        clear T5' hB5' hO5 T4 HB4 HO4
        go_wp2_with (first
          | (refine wpList_load_row rfl 25 (.tmp 10) rfl wr.heap.size rfl 25 (totR x1.1 x1.2) (0, 0) _ T5.out Tryd.underlying25 rfl (totInfo HD1.out.1) ?_)
          | (refine wpList_one rfl (.tmp 61) rfl x1.1 x1.2 rfl HD1.out.1 ?_)
          | (at_builtin; refine wpList_push rfl (.tmp 60) (.tmp 62) 26 rfl w.heap.size (.agg (totR 0 zeroD)) 33 40 Tryd.underlying26 totInfo3 rfl (by decide) _ m _ rfl rfl (totR_size HD1.out.1) (tot_ones _ _) HO5.out (by omega) (by unfold maxLen; omega) HB5.out.size ?_; intro G3 c3 w6 hc3 hc3' hown hb6 hz6 hg6; have HO3 := aside (TOwn.push HD1.out.1 hown); have HB6 := aside (HB5.out.trans hb6); clear hown hb6 hg6 hz6)
          | fail)
        refine ⟨⟨some ⟨tb, to + k * 33, none⟩, n2 - k, c2 - k, i3, G3, m + 1, c3, ts2.drop k, L ++ [x1], rfl, rfl, rfl, by omega, aside (HSl2.out.drop k2), aside (fun t ht => HD.out t (List.mem_of_mem_drop ht)), hi3, by omega, by omega, HO3, aside ?_, aside ?_, HB6⟩, by simp [nOf]; omega⟩
        · intro t ht
          rcases List.mem_append.1 ht with ht | ht
          · exact HLd.out t ht
          · rw [List.mem_singleton] at ht
            rw [ht]
            exact HD1.out
        · rw [← HP.out, HS.out, List.append_assoc]
          rfl
    · have e3 : ((1 : Int) < (n2 : Int)) = False := by simp only [eq_iff_iff, iff_false]; omega
      have HE : Hid (L = path0 i ts) := aside (by rw [← HP.out, path0_one i2 ts2 (by omega), List.append_nil])
      have hm : m ≤ 1000000 := by omega
      clear h2
      go_wp2_with (first
        | (go_at_call 28; refine (revT_own L HLd.out G m cg w.heap.size wr hm HO.out).mono ?_; rintro e w5 ⟨rfl, hs5, hb5⟩; have HS5 := aside hs5; have HB5 := aside (HB.out.trans hb5); clear hs5 hb5)
        | fail)
      go_ret2
      refine ⟨⟨G, m, cg, rfl, ?_⟩, HB5.out⟩
      rw [← HE.out]
      exact HS5.out
end Go.Proofs.YtkpbhbafapdboaaDoor
