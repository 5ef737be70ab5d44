/- tx.Check where nothing is wrong; slices.Clone at ins: the walks. Conditions: named in each theorem. tx.ID of a payment with nothing wrong: the walk. Conditions: named in each theorem. -/
import Derived.Test.YtbpabjhcjffkmaaGreatDoorPayC
import Derived.Test.YtbpabjhcjffkmaaGreatDoorPayS
/- tx.Check where nothing is wrong; slices.Clone at ins: the walks. Conditions: named in each theorem. -/
namespace Go.Proofs.YtbpabjhcjffkmaaGreatDoor
open Go.RowKit Go.ChangeShapes Go.WideShapes Go.ChangeAt

/-- An in that may be sent, without its keys. -/
def InOk (x : RIn) : Prop := x.tx.length = 32 ∧ (∀ y ∈ x.tx, y < 256) ∧ 0 ≤ x.at_ ∧ x.at_ < 40 ∧ (x.kA = none ∧ x.kn = 0 ∧ x.kc = 0)
/-- An out that may be sent. -/
def OutOk (o : ROut) : Prop := moneyE o.amt = 0 ∧ lkQ (o.lk.map ROp.pl) = 0
theorem nodup_at {α : Type} {l : List α} (h : l.Nodup) (d : α) {k : Nat} (hk : k < l.length) : l.getD k d ∉ l.take k := by
 intro hm
 rw [List.getD_eq_getElem?_getD, List.getElem?_eq_getElem hk] at hm
 obtain ⟨j, hj, e⟩ := List.mem_iff_getElem.1 hm
 rw [List.length_take] at hj
 rw [List.getElem_take] at e
 exact List.pairwise_iff_getElem.1 h j k (by omega) hk (by omega) e
theorem map_getD {α β : Type} (f : α → β) {l : List α} (d : α) (d' : β) {k : Nat} (hk : k < l.length) : (l.map f).getD k d' = f (l.getD k d) := by
 rw [List.getD_eq_getElem?_getD, List.getElem?_map, List.getD_eq_getElem?_getD, List.getElem?_eq_getElem hk]
 rfl
set_option maxHeartbeats 20000000 in
set_option maxRecDepth 100000 in
theorem txcheck_any (ins : List RIn) (outs : List ROut) (A B : Option Addr) (n c m cc : Nat) (hn : n ≤ 40) (hm0 : 0 < m) (hm : m ≤ 4) (w : World) (h : NSl w w.heap.size A n ins) (hi : ∀ x ∈ ins, InOk x) (hd : (ins.map RIn.pl).Nodup) (ho : OSl w w.heap.size B m outs) (hO : ∀ o ∈ outs, OutOk o) :
  Calls Tryz.prog 73 #[.agg #[.slice A n c, .slice B m cc, .int .i64 0]] w (fun e w' => e = .returned .nilIface ∧ Below w.heap.size w w') := by
 have B1 : Hid (Below w.heap.size w (w.alloc (.cells #[.slice A n c, .slice B m cc, .int .i64 0] 32))) := aside ((Below.refl _ _).alloc (Nat.le_refl _) _)
 have D1 : Hid ((w.alloc (.cells #[.slice A n c, .slice B m cc, .int .i64 0] 32)).heap[w.heap.size]? = some (.cells #[.slice A n c, .slice B m cc, .int .i64 0] 32 (0, 0))) := aside (heap_alloc_new _ _)
 have hli := FSl.len encIn_len (by decide) h
 have hlo := ho.len
 have HLi := aside hli
 have HLo := aside hlo
 have HN := aside h
 have HI := aside hi
 have HD := aside hd
 have HOo := aside ho
 have HOk := aside hO
 clear h hi ho hO hli hlo hd
 go_enter Tryz.func73, Tryz.ntmps73
 go_upto_region 1 with fail
 change Code.wp _ _ _ _ (w.alloc (.cells #[.slice A n c, .slice B m cc, .int .i64 0] 32))
 generalize (w.alloc (.cells #[.slice A n c, .slice B m cc, .int .i64 0] 32)) = w1 at B1 D1 ⊢
 obtain ⟨B0, hB0⟩ : ∃ B0, B0 = w.heap.size := ⟨_, rfl⟩
 have EB := aside hB0
 simp only [← hB0] at D1 ⊢
 clear hB0
 have l1 : B0 < w1.heap.size := (Array.getElem?_eq_some_iff.1 D1.out).1
 have HX : Hid (∀ W : World, Below w1.heap.size w1 W → W.cell? ⟨B0, 0, none⟩ = some (.slice A n c) ∧ W.cell? ⟨B0, 1, none⟩ = some (.slice B m cc) ∧ W.cell? ⟨B0, 2, none⟩ = some (.int .i64 0)) := aside fun W hW => by
  have hx := (hW.block B0 l1).trans D1.out
  refine ⟨?_, ?_, ?_⟩
  ·rw [cell_of_row W B0 0 _ _ _ hx]; rfl
  ·rw [cell_of_row W B0 1 _ _ _ hx]; rfl
  ·rw [cell_of_row W B0 2 _ _ _ hx]; rfl
 obtain ⟨x0, x1, x2⟩ := HX.out w1 (Below.refl _ _)
 have a1 : ((40 : Int) < (n : Int)) = False := by simp only [eq_iff_iff, iff_false]; omega
 have a2 : ((40 : Int) < (m : Int)) = False := by simp only [eq_iff_iff, iff_false]; omega
 have a3 : ((m : Int) == 0) = false := by simp; omega
 go_upto_region 7 with (first
  | (go_at_call 110; refine (txtime_any w1).mono ?_; rintro e w3 ⟨rfl, hw3⟩; rw [hw3]; clear hw3 w3)
  | fail)
 have B2 : Hid (Below w1.heap.size w1 (w1.alloc (.map #[] 0))) := aside ((Below.refl _ _).alloc (Nat.le_refl _) _)
 have HM0 : Hid (Met (w1.alloc (.map #[] 0)) w1.heap.size ((ins.take 0).map RIn.pl)) := aside (met_made w1)
 obtain ⟨x0, -, -⟩ := HX.out _ B2.out
 clear x1 x2
 have hmm := @run_makeMap Tryz.prog
 go_upto_region 9 with fail
 clear hmm
 change Code.wp _ _ _ _ (w1.alloc (.map #[] 0))
 generalize (w1.alloc (.map #[] 0)) = w2 at B2 HM0 x0 ⊢
 obtain ⟨bm, hbm⟩ : ∃ bm, bm = w1.heap.size := ⟨_, rfl⟩
 have EM := aside hbm
 rw [← hbm] at HM0 ⊢
 clear hbm
 go_loopw [39] (fun v39 wr => ∃ k : Nat, k ≤ n ∧ v39 = .int .i64 k ∧ Hid (Met wr bm ((ins.take k).map RIn.pl)) ∧ Hid (Below w1.heap.size w1 wr)) (fun v39 _ => n - (Go.RowKit.intOf v39).toNat)
 case atStart => exact ⟨0, Nat.zero_le _, rfl, HM0, B2⟩
 case round =>
  clear HM0 B2 x0
  obtain ⟨k, hk, rfl, HM, HB⟩ := hrel
  by_cases hkn : k < n
  ·have k0 : (k : Int) < (n : Int) := by omega
   have hkl : k < ins.length := by have := HLi.out; omega
   have HBw : Hid (Below w.heap.size w wr) := aside (B1.out.trans (HB.out.mono B1.out.size))
   obtain ⟨b, of, hAe, hb1, hrg⟩ := NSl.at_ (FSl.below HN.out HBw.out) hkn
   obtain ⟨hk32, hby, hat0, hat1, hky⟩ := HI.out _ (gd_mem noIn hkl)
   have hnx : (ins.take (k + 1)).map RIn.pl = (ins.take k).map RIn.pl ++ [(ins.getD k noIn).pl] := by
    rw [take_getD noIn hkl, List.map_append]
    rfl
   have hnm : (ins.getD k noIn).pl ∉ (ins.take k).map RIn.pl := by
    have h9 := nodup_at HD.out ([], 0) (k := k) (by rw [List.length_map]; exact hkl)
    rw [map_getD RIn.pl noIn ([], 0) hkl, ← List.map_take] at h9
    exact h9
   have hps : ∀ p ∈ (ins.take k).map RIn.pl, p.1.length = 32 := fun p hp => by
    obtain ⟨r, hr, rfl⟩ := List.mem_map.1 hp
    exact (HI.out r (List.mem_of_mem_take hr)).1
   have hpl : ((ins.take k).map RIn.pl).length ≤ 1000 := by rw [List.length_map, List.length_take]; omega
   generalize ins.getD k noIn = r at *
   have HRg := aside hrg
   have HNx := aside hnx
   have HS1 : Hid ((Tryz.prog.info? 63).map (·.size) = some (encIn r).length) := aside (by rw [encIn_len]; kernel_rfl)
   have HS9 : Hid ((Tryz.prog.info? 63).map (·.size) = some (encIn r).toArray.size) := aside (by simp only [List.size_toArray, encIn_len]; kernel_rfl)
   have HS8 : Hid ((encIn noIn).toArray.size = (encIn r).toArray.size) := aside (by simp only [List.size_toArray, encIn_len])
   have HO1 : Hid ((encIn r).toArray.all (·.oneCell') = true) := aside (all_oneCell_toArray (encIn_one r))
   have DX : Hid ((wr.alloc (.cells (encIn noIn).toArray 63)).heap[wr.heap.size]? = some (.cells (encIn noIn).toArray 63 (0, 0))) := aside (heap_alloc_new _ _)
   subst hAe
   clear hrg hnx hb1 HBw
   go_upto_region 11 with (first
    | (refine wpList_load_mid rfl 63 (.tmp 41) rfl b (of + k * 34) rfl (encIn r) _ HRg.out Tryz.underlying63 rfl HS1.out ?_)
    | (refine wpList_store_row rfl 63 (.tmp 5) (.tmp 42) rfl wr.heap.size (encIn r).toArray rfl rfl 63 (encIn noIn).toArray DX.out HS9.out HS8.out HO1.out ?_)
    | fail)
   have HB2 : Hid (Below wr.heap.size wr ((wr.alloc (.cells (encIn noIn).toArray 63)).setRow wr.heap.size (encIn r).toArray)) := aside (below_setRow ((Below.refl _ _).alloc (Nat.le_refl _) _) _ (Nat.le_refl _) _)
   have DX2 : Hid (((wr.alloc (.cells (encIn noIn).toArray 63)).setRow wr.heap.size (encIn r).toArray).heap[wr.heap.size]? = some (.cells (encIn r).toArray 63 (0, 0))) := aside (setRow_heap _ _ _ _ _ _ DX.out)
   change Code.wp _ _ _ _ ((wr.alloc (.cells (encIn noIn).toArray 63)).setRow wr.heap.size (encIn r).toArray)
   generalize ((wr.alloc (.cells (encIn noIn).toArray 63)).setRow wr.heap.size (encIn r).toArray) = w3 at HB2 DX2 ⊢
   obtain ⟨b5, hb5⟩ : ∃ b5, b5 = wr.heap.size := ⟨_, rfl⟩
   rw [← hb5] at DX2 ⊢
   have HM3 : Hid (Met w3 bm ((ins.take k).map RIn.pl)) := aside (HM.out.same (HB2.out.block bm HM.out.lt))
   have HB3 : Hid (Below w1.heap.size w1 w3) := aside (HB.out.trans (HB2.out.mono HB.out.size))
   have HIn := aside (txin_any r hk32 hby hat0 hat1 hky _ hps hnm hpl bm w3 HM3.out)
   clear hb5 DX HS1 HS8 HO1 HRg HB2 HB HM hps hnm hpl hky hby
   go_wp2_with (first
    | (refine wpList_load_row rfl 63 (.tmp 5) rfl b5 rfl 63 (encIn r).toArray (0, 0) _ DX2.out Tryz.underlying63 rfl HS9.out ?_)
    | fail)
   refine HIn.out.mono ?_
   rintro e w4 ⟨rfl, hm4, hg4⟩
   have HM4 : Hid (Met w4 bm ((ins.take (k + 1)).map RIn.pl)) := aside (by rw [HNx.out]; exact hm4)
   have HB4 : Hid (Below w1.heap.size w1 w4) := aside (HB3.out.trans (grown_low hg4 (by rw [EM.out]; exact Nat.le_refl _) HB3.out.size))
   clear hm4 hg4 HM3 HB3 DX2 HS9 HIn
   go_wp2
   exact ⟨⟨k + 1, by omega, by go_num, HM4, HB4⟩, by simp [Go.RowKit.intOf]; omega⟩
  ·obtain rfl : n = k := by omega
   have i0 : ((n : Int) < (n : Int)) = False := by simp
   have x1 := (HX.out wr HB.out).2.1
   clear hkn HM
   go_upto_region 16 with fail
   go_loopw [53] (fun v53 wr => ∃ k : Nat, k ≤ m ∧ v53 = .int .i64 k ∧ Hid (Below w1.heap.size w1 wr)) (fun v53 _ => m - (Go.RowKit.intOf v53).toNat)
   case atStart => exact ⟨0, Nat.zero_le _, rfl, HB⟩
   case round =>
    clear HB x1
    obtain ⟨k, hk, rfl, HB⟩ := hrel
    by_cases hkm : k < m
    ·have k0 : (k : Int) < (m : Int) := by omega
     have hkl : k < outs.length := by have := HLo.out; omega
     have HBw : Hid (Below w.heap.size w wr) := aside (B1.out.trans (HB.out.mono B1.out.size))
     obtain ⟨b, of, hAe, hb1, p0, p1⟩ := (HOo.out.below HBw.out).at_ hkm
     obtain ⟨hmo, hlk⟩ := HOk.out _ (gd_mem noOut hkl)
     have hrl := HOo.out.lock _ (gd_mem noOut hkl)
     generalize outs.getD k noOut = r at *
     have hbz : b < wr.heap.size := by have := HBw.out.size; omega
     have B11 : Hid (Below wr.heap.size wr (wr.alloc (.cells #[.int .i64 r.amt, .slice r.lA r.ln r.lc] 27))) := aside ((Below.refl _ _).alloc (Nat.le_refl _) _)
     have X0 : Hid ((wr.alloc (.cells #[.int .i64 r.amt, .slice r.lA r.ln r.lc] 27)).heap[wr.heap.size]? = some (.cells #[.int .i64 r.amt, .slice r.lA r.ln r.lc] 27 (0, 0))) := aside (heap_alloc_new _ _)
     have HRl := aside hrl
     have HMo := aside hmo
     have HLk := aside hlk
     subst hAe
     clear hrl hmo hlk hb1 HBw
     go_upto_region 18 with fail
     change Code.wp _ _ _ _ (wr.alloc (.cells #[.int .i64 r.amt, .slice r.lA r.ln r.lc] 27))
     generalize (wr.alloc (.cells #[.int .i64 r.amt, .slice r.lA r.ln r.lc] 27)) = w3 at B11 X0 ⊢
     obtain ⟨bo, hbo⟩ : ∃ bo, bo = wr.heap.size := ⟨_, rfl⟩
     rw [← hbo] at X0 ⊢
     have HB3 : Hid (Below w1.heap.size w1 w3) := aside (HB.out.trans (B11.out.mono HB.out.size))
     have HBw3 : Hid (Below w.heap.size w w3) := aside (B1.out.trans (HB3.out.mono B1.out.size))
     have y0 : w3.cell? ⟨bo, 0, none⟩ = some (.int .i64 r.amt) := by rw [cell_of_row _ _ 0 _ _ _ X0.out]; rfl
     have y1 : w3.cell? ⟨bo, 1, none⟩ = some (.slice r.lA r.ln r.lc) := by rw [cell_of_row _ _ 1 _ _ _ X0.out]; rfl
     have HMn := aside (money_any r.amt w3)
     rw [HMo.out, show errP 0 = Value.nilIface from rfl] at HMn
     have HLc := aside (lkC_any r.lk r.lA r.ln r.lc w3 ((HRl.out.below HBw3.out).more HBw3.out.size))
     rw [HLk.out, show errP 0 = Value.nilIface from rfl] at HLc
     clear hbo X0 B11 p0 p1 hbz HB HBw3 HRl HMo HLk
     go_wp2_with (first
      | (go_at_call 57; refine HMn.out.mono ?_; rintro e w5 ⟨rfl, hw5⟩; rw [hw5]; clear hw5 w5)
      | fail)
     refine HLc.out.mono ?_
     rintro e w4 ⟨rfl, hb4⟩
     have HB4 : Hid (Below w1.heap.size w1 w4) := aside (HB3.out.trans (hb4.mono HB3.out.size))
     clear hb4 y0 y1 HMn HLc HB3
     go_wp2
     exact ⟨⟨k + 1, by omega, by go_num, HB4⟩, by simp [Go.RowKit.intOf]; omega⟩
    ·obtain rfl : m = k := by omega
     have i0 : ((m : Int) < (m : Int)) = False := by simp
     clear hkm
     go_wp2
     go_ret
     exact ⟨rfl, B1.out.trans (HB.out.mono B1.out.size)⟩
/-- Ins in a block of their own. -/
def NRow (w : World) (base : Nat) (A : Option Addr) (n : Nat) (ins : List RIn) : Prop := (A = none ∧ n = 0 ∧ ins = []) ∨ ∃ g tl, A = some ⟨g, 0, none⟩ ∧ base ≤ g ∧ ins.length = n ∧ w.heap[g]? = some (.cells (ins.flatMap encIn ++ tl).toArray 63 (0, 0))
theorem flat_in {ins : List RIn} {tl : List Value} {k j : Nat} {u : Value} (hk : k < ins.length) (h : (encIn (ins.getD k noIn))[j]? = some u) : (ins.flatMap encIn ++ tl)[k * 34 + j]? = some u := by
 have hj := (List.getElem?_eq_some_iff.1 h).1
 rw [encIn_len] at hj
 have e : ins.flatMap encIn = (ins.take k).flatMap encIn ++ (encIn (ins.getD k noIn) ++ (ins.drop (k + 1)).flatMap encIn) := by
  conv => lhs; rw [← List.take_append_drop k ins, drop_getD noIn hk]
  rw [List.flatMap_append, List.flatMap_cons]
 have hl : ((ins.take k).flatMap encIn).length = k * 34 := by
  have h9 : ∀ l : List RIn, (l.flatMap encIn).length = l.length * 34 := fun l => by
   induction l with
   | nil => rfl
   | cons a l ih => rw [List.flatMap_cons, List.length_append, ih, encIn_len, List.length_cons]; omega
  rw [h9, List.length_take]
  congr 1
  omega
 rw [e, List.append_assoc, List.getElem?_append_right (by rw [hl]; omega), hl, show k * 34 + j - k * 34 = j by omega, List.append_assoc, List.getElem?_append_left (by rw [encIn_len]; exact hj)]
 exact h
theorem NRow.nsl {w : World} {base : Nat} {A : Option Addr} {n : Nat} {ins : List RIn} (h : NRow w base A n ins) : NSl w w.heap.size A n ins := by
 rcases h with ⟨rfl, rfl, rfl⟩ | ⟨g, tl, rfl, _, hl, hg⟩
 ·exact FSl.nil_
 ·have h9 : (ins.flatMap encIn).length = n * 34 := by
   rw [← hl]
   clear hl hg
   induction ins with
   | nil => rfl
   | cons a l ih => rw [List.flatMap_cons, List.length_append, ih, encIn_len, List.length_cons]; omega
  refine ⟨h9, fun _ => ⟨g, 0, rfl, (Array.getElem?_eq_some_iff.1 hg).1, fun j u hu => ?_⟩⟩
  rw [Nat.zero_add, cell_of_row _ _ j _ _ _ hg, List.getElem?_toArray]
  rw [List.getElem?_append_left (List.getElem?_eq_some_iff.1 hu).1]
  exact hu
theorem infoIn : (Tryz.prog.info? 63).map (fun i => (i.zero, i.size, i.bytes)) = some (some (.agg (encIn noIn).toArray), 34, 64) := by kernel_rfl
set_option maxRecDepth 100000 in
theorem cloneIn_any (ins : List RIn) (A : Option Addr) (n c : Nat) (w : World) (h : NSl w w.heap.size A n ins) (hn : n ≤ 1000) :
  Calls Tryz.prog 74 #[.slice A n c] w (fun e w' => ∃ A' c', e = .returned (.slice A' n c') ∧ NRow w' w.heap.size A' n ins ∧ Below w.heap.size w w') := by
 have q22 : ∀ (w : World) (a : Option Addr) (n c n' c' : Nat), (binOp .eql 29 (.slice a n c) (.slice none n' c')).run Tryz.prog w = .ok (.bool a.isNone) w := fun w a n c n' c' => Lib.run_eql_slice_nil w _ _ a n c n' c' Tryz.underlying29
 have hln := FSl.len encIn_len (by decide) h
 cases A with
 | none =>
  have h0 : n = 0 := by
   rcases Nat.eq_zero_or_pos n with h0 | h0
   ·exact h0
   ·obtain ⟨_, _, e, _⟩ := NSl.at_ h h0
    cases e
  subst h0
  have hx : ins = [] := List.eq_nil_of_length_eq_zero hln
  subst hx
  clear h hln
  go_enter Tryz.func74, Tryz.ntmps74
  go_wp2_with fail
  go_ret
  exact ⟨none, 0, rfl, .inl ⟨rfl, rfl, rfl⟩, Below.refl _ _⟩
 | some ad =>
  have HSl : Hid (FSl encIn 34 (w.alloc (.cells #[] 63)) w.heap.size (some ad) n ins) := aside (FSl.below h ((Below.refl _ _).alloc (Nat.le_refl _) _))
  have HO : Hid ((w.alloc (.cells #[] 63)).ownsRow w.heap.size 63 34 (.slice (some ⟨w.heap.size, 0, none⟩) 0 0) 0 []) := aside (World.ownsRow_made (base := w.heap.size) w #[] 0 (Nat.le_refl _) (by decide) rfl)
  have H1 : Hid (∀ u ∈ ins.flatMap encIn, u.oneCell' = true) := aside (fun u hu => by
   obtain ⟨r, _, hr⟩ := List.mem_flatMap.1 hu
   exact encIn_one r u hr)
  have HLn := aside hln
  clear h hln
  go_enter Tryz.func74, Tryz.ntmps74
  go_wp2_with (first
   | (at_builtin; refine wpList_concat rfl (.tmp 5) (.tmp 6) 29 rfl w.heap.size (.agg (encIn noIn).toArray) 34 64 Tryz.underlying29 infoIn (by kernel_rfl) (by decide) _ 0 [] rfl HO.out w.heap.size (some ad) n c _ rfl HSl.out H1.out (by omega) (by unfold maxLen; omega) (by simp) ?_; intro G2 c2 w2 hc2 hc2' hown hb2 _; simp only [Nat.zero_add, List.nil_append] at hown ⊢; have HO2 := aside hown; have HB2 : Hid (Below w.heap.size w w2) := aside (((Below.refl _ _).alloc (Nat.le_refl _) _).trans hb2); clear hown hb2 hc2 hc2')
   | fail)
  go_ret
  refine ⟨G2, c2, rfl, ?_, HB2.out⟩
  have h9 := HO2.out
  rcases h9.2 with ⟨e, h0⟩ | ⟨g, cap, cur, e, hbg, hg, hnc, hcm, hs, ht⟩
  ·injection e with e1 e2 e3
   subst h0 e1
   exact .inl ⟨rfl, rfl, List.eq_nil_of_length_eq_zero HLn.out⟩
  ·injection e with e1 _ _
   refine .inr ⟨g, cur.toList.drop (n * 34), e1, hbg, HLn.out, ?_⟩
   rw [← ht, List.take_append_drop]
   simpa using hg
end Go.Proofs.YtbpabjhcjffkmaaGreatDoor

/- tx.ID of a payment with nothing wrong: the walk. Conditions: named in each theorem. -/
namespace Go.Proofs.YtbpabjhcjffkmaaGreatDoor
open Go.RowKit Go.ChangeShapes Go.WideShapes Go.ChangeAt

theorem results_cell_tmp {P : Program} {fn : Func} {p q : Tmp} {ty : TypeId} (h : fn.results = #[.cell p ty, .tmp q]) (tmps : Array Value) (w : World) (g : Nat) (t : TypeId) (cs : Array Value) (fr : Nat × Nat) (d : TypeDesc)
  (hp : tmps.getD p undef = .pointer (some ⟨g, 0, none⟩)) (hg : w.heap[g]? = some (.cells cs t fr))
  (hu : P.underlying ty = some d) (hd : (match d with | .struct _ | .array _ _ => true | _ => false) = true) (hi : (P.info? ty).map (·.size) = some cs.size) :
  (results fn tmps).run P w = .ok (.tuple #[.agg cs, tmps.getD q undef]) w := by
 have hp' : tmps[p]?.getD undef = .pointer (some ⟨g, 0, none⟩) := by simpa using hp
 simp [results, h, hp', asAddr, run_loadVar_row w g t ty cs fr d hg hu hd hi]
/-- A payment's ID. -/
def idL (ins : List (List Nat × Int)) (outs : List (Int × List POp)) : List Nat := shaL ([21] ++ txB ins outs)
theorem idL_len (ins : List (List Nat × Int)) (outs : List (Int × List POp)) : (idL ins outs).length = 32 := shaL_len _
theorem NRow.keep {w w' : World} {base : Nat} {A : Option Addr} {n : Nat} {ins : List RIn} (h : NRow w base A n ins) (hk : ∀ g, base ≤ g → g < w.heap.size → w'.heap[g]? = w.heap[g]?) : NRow w' base A n ins := by
 rcases h with h | ⟨g, tl, e, hb, hl, hg⟩
 ·exact .inl h
 ·exact .inr ⟨g, tl, e, hb, hl, (hk g hb (Array.getElem?_eq_some_iff.1 hg).1).trans hg⟩
theorem out_money {o : ROut} (h : OutOk o) : 0 ≤ o.amt ∧ o.amt ≤ 1125899906842624 ∧ LkOk (o.lk.map ROp.pl) := by
 obtain ⟨h1, h2⟩ := moneyE_zero h.1
 exact ⟨h1, h2, lk_ops h.2⟩
theorem set_same {l : List Value} {k : Nat} {u : Value} (h : l[k]? = some u) : l.set k u = l := by
 refine List.ext_getElem? fun j => ?_
 rw [List.getElem?_set]
 by_cases e : k = j
 ·subst e
  rw [if_pos rfl, h]
  have := (List.getElem?_eq_some_iff.1 h).1
  simp [this]
 ·rw [if_neg e]
set_option maxHeartbeats 20000000 in
set_option maxRecDepth 100000 in
theorem id_any (ins : List RIn) (outs : List ROut) (A B : Option Addr) (n c m cc : Nat) (hn : n ≤ 40) (hm0 : 0 < m) (hm : m ≤ 4) (w : World) (h : NSl w w.heap.size A n ins) (hi : ∀ x ∈ ins, InOk x) (hd : (ins.map RIn.pl).Nodup) (ho : OSl w w.heap.size B m outs) (hO : ∀ o ∈ outs, OutOk o) (hg : RoundsAt w) :
  Calls Tryz.prog 34 #[.agg #[.slice A n c, .slice B m cc, .int .i64 0]] w (fun e w' => e = .returned (.tuple #[digV (idL (ins.map RIn.pl) (outs.map ROut.pl)), .nilIface]) ∧ Below w.heap.size w w') := by
 have B1 : Hid (Below w.heap.size w ((w.alloc (.cells #[.slice A n c, .slice B m cc, .int .i64 0] 32)).alloc (.cells (rowY (List.replicate 32 0)) 23))) := aside (((Below.refl _ _).alloc (Nat.le_refl _) _).alloc (by simp) _)
 have D0 : Hid (((w.alloc (.cells #[.slice A n c, .slice B m cc, .int .i64 0] 32)).alloc (.cells (rowY (List.replicate 32 0)) 23)).heap[w.heap.size]? = some (.cells #[.slice A n c, .slice B m cc, .int .i64 0] 32 (0, 0))) := aside ((Below.heap_alloc _ _ _ (by simp)).trans (heap_alloc_new w _))
 have D1 : Hid (BlkY ((w.alloc (.cells #[.slice A n c, .slice B m cc, .int .i64 0] 32)).alloc (.cells (rowY (List.replicate 32 0)) 23)) (w.heap.size + 1) 23 (List.replicate 32 0)) := aside (by
  have h := BlkY.new (w.alloc (.cells #[.slice A n c, .slice B m cc, .int .i64 0] 32)) 23 (List.replicate 32 0)
  rwa [show (w.alloc (.cells #[.slice A n c, .slice B m cc, .int .i64 0] 32)).heap.size = w.heap.size + 1 by simp] at h)
 have hli := FSl.len encIn_len (by decide) h
 have hlo := ho.len
 have HLi := aside hli
 have HLo := aside hlo
 have HN := aside h
 have HI := aside hi
 have HD := aside hd
 have HOo := aside ho
 have HOk := aside hO
 have HG := aside hg
 have hln : (txB (ins.map RIn.pl) (outs.map ROut.pl)).length ≤ 110000 := txB_len (by rw [List.length_map, hli]; exact hn) (by rw [List.length_map, hlo]; exact hm)
  (fun x hx => by obtain ⟨r, hr, rfl⟩ := List.mem_map.1 hx; exact (hi r hr).1) (fun x hx => by obtain ⟨r, hr, rfl⟩ := List.mem_map.1 hx; exact (out_money (hO r hr)).2.2)
 have hsm : ∀ x ∈ txB (ins.map RIn.pl) (outs.map ROut.pl), x < 256 := txB_small (fun x hx => by obtain ⟨r, hr, rfl⟩ := List.mem_map.1 hx; exact (hi r hr).2.1) (fun x hx p hp => by
  obtain ⟨r, hr, rfl⟩ := List.mem_map.1 hx
  obtain ⟨q, hq, rfl⟩ := List.mem_map.1 hp
  exact (ho.lock r hr).byt q hq)
 have HLn := aside hln
 have HSm := aside hsm
 clear h hi ho hO hli hlo hd hg hln hsm
 go_enter Tryz.func34, Tryz.ntmps34
 go_upto_region 1 with fail
 change Code.wp _ _ _ _ ((w.alloc (.cells #[.slice A n c, .slice B m cc, .int .i64 0] 32)).alloc (.cells (rowY (List.replicate 32 0)) 23))
 generalize ((w.alloc (.cells #[.slice A n c, .slice B m cc, .int .i64 0] 32)).alloc (.cells (rowY (List.replicate 32 0)) 23)) = w1 at B1 D0 D1 ⊢
 obtain ⟨B0, hB0⟩ : ∃ B0, B0 = w.heap.size := ⟨_, rfl⟩
 have EB := aside hB0
 simp only [← hB0] at D0 D1 ⊢
 clear hB0
 have l0 : B0 < w1.heap.size := (Array.getElem?_eq_some_iff.1 D0.out).1
 have l1 := D1.out.lt
 have x0 : w1.cell? ⟨B0, 0, none⟩ = some (.slice A n c) := by rw [cell_of_row _ B0 0 _ _ _ D0.out]; rfl
 have x1 : w1.cell? ⟨B0, 1, none⟩ = some (.slice B m cc) := by rw [cell_of_row _ B0 1 _ _ _ D0.out]; rfl
 have x2 : w1.cell? ⟨B0, 2, none⟩ = some (.int .i64 0) := by rw [cell_of_row _ B0 2 _ _ _ D0.out]; rfl
 go_wp2_with fail
 refine (txcheck_any ins outs A B n c m cc hn hm0 hm w1 ((FSl.below HN.out B1.out).more B1.out.size) HI.out HD.out (HOo.out.step B1.out) HOk.out).mono ?_
 rintro e w2 ⟨rfl, hb2⟩
 have D02 := (hb2.block B0 l0).trans D0.out
 have x0 : w2.cell? ⟨B0, 0, none⟩ = some (.slice A n c) := by rw [cell_of_row _ B0 0 _ _ _ D02]; rfl
 have HD02 := aside D02
 have D12 : Hid (BlkY w2 (B0 + 1) 23 (List.replicate 32 0)) := aside (D1.out.below hb2 l1)
 have HB2 : Hid (Below w.heap.size w w2) := aside (B1.out.trans (hb2.mono B1.out.size))
 clear hb2 D02 D0 D1 x1 x2
 go_wp2_with fail
 refine (cloneIn_any ins A n c w2 ((FSl.below HN.out HB2.out).more HB2.out.size) (by omega)).mono ?_
 rintro e w3 ⟨A3, c3, rfl, hr3, hb3⟩
 have HR3 := aside hr3
 have D03 := (hb3.block B0 (Array.getElem?_eq_some_iff.1 HD02.out).1).trans HD02.out
 have HD03 := aside D03
 have D13 : Hid (BlkY w3 (B0 + 1) 23 (List.replicate 32 0)) := aside (D12.out.below hb3 D12.out.lt)
 have HB3 : Hid (Below w.heap.size w w3) := aside (HB2.out.trans (hb3.mono HB2.out.size))
 have HZ2 : Hid (B0 + 1 < w2.heap.size) := aside D12.out.lt
 have x0 : w3.cell? ⟨B0, 0, none⟩ = some (.slice A n c) := by rw [cell_of_row _ B0 0 _ _ _ D03]; rfl
 have f0 : w3.frozen? ⟨B0, 0, none⟩ = false := frozen_of_row _ _ _ _ _ D03
 clear hr3 hb3 D03 HD02 D12
 go_upto_region 5 with fail
 have D04 : Hid ((w3.setCell ⟨B0, 0, none⟩ (.slice A3 n c3)).heap[B0]? = some (.cells #[.slice A3 n c3, .slice B m cc, .int .i64 0] 32 (0, 0))) := aside (by
  have h9 := heap_setCell_same w3 B0 0 _ _ (.slice A3 n c3) HD03.out
  rw [h9]
  rfl)
 have D14 : Hid (BlkY (w3.setCell ⟨B0, 0, none⟩ (.slice A3 n c3)) (B0 + 1) 23 (List.replicate 32 0)) := aside (D13.out.other _ _ _ (by omega))
 have HR4 : Hid (NRow (w3.setCell ⟨B0, 0, none⟩ (.slice A3 n c3)) w2.heap.size A3 n ins) := aside (HR3.out.keep (fun g hg _ => Below.heap_setCell _ _ _ _ (by have := HZ2.out; show g ≠ B0; omega)))
 have HB4 : Hid (Below w.heap.size w (w3.setCell ⟨B0, 0, none⟩ (.slice A3 n c3))) := aside (HB3.out.setCell (p := ⟨B0, 0, none⟩) (by rw [EB.out]; exact Nat.le_refl _) _)
 change Code.wp _ _ _ _ (w3.setCell ⟨B0, 0, none⟩ (.slice A3 n c3))
 generalize (w3.setCell ⟨B0, 0, none⟩ (.slice A3 n c3)) = w4 at D04 D14 HR4 HB4 ⊢
 have x0 : w4.cell? ⟨B0, 0, none⟩ = some (.slice A3 n c3) := by rw [cell_of_row _ B0 0 _ _ _ D04.out]; rfl
 clear HR3 HD03 D13 HB3 f0
 go_upto_region 6 with fail
 go_loopw [19] (fun v19 wr => ∃ k : Nat, k ≤ n ∧ v19 = .int .i64 k ∧ Hid (wr.heap[B0]? = some (.cells #[.slice A3 n c3, .slice B m cc, .int .i64 0] 32 (0, 0))) ∧ Hid (BlkY wr (B0 + 1) 23 (List.replicate 32 0)) ∧ Hid (NRow wr w2.heap.size A3 n ins) ∧ Hid (Below w.heap.size w wr)) (fun v19 _ => n - (Go.RowKit.intOf v19).toNat)
 case atStart => exact ⟨0, Nat.zero_le _, rfl, D04, D14, HR4, HB4⟩
 case round =>
  clear D04 D14 HR4 HB4 x0
  obtain ⟨k, hk, rfl, D0, D1, HR, HB⟩ := hrel
  have x0 : wr.cell? ⟨B0, 0, none⟩ = some (.slice A3 n c3) := by rw [cell_of_row _ B0 0 _ _ _ D0.out]; rfl
  by_cases hkn : k < n
  ·have k0 : (k : Int) < (n : Int) := by omega
   obtain ⟨g, tl, rfl, hbg, hgl, hgh⟩ : ∃ g tl, A3 = some ⟨g, 0, none⟩ ∧ w2.heap.size ≤ g ∧ ins.length = n ∧ wr.heap[g]? = some (.cells (ins.flatMap encIn ++ tl).toArray 63 (0, 0)) := by
    rcases HR.out with ⟨_, h0, _⟩ | h9
    ·omega
    ·exact h9
   have hkl : k < ins.length := by omega
   have hky := (HI.out _ (gd_mem noIn hkl)).2.2.2.2
   have hcell := flat_in (tl := tl) hkl (encIn_key (ins.getD k noIn))
   rw [hky.1, hky.2.1, hky.2.2] at hcell
   have y0 : wr.cell? ⟨g, k * 34 + 33, none⟩ = some (.slice none 0 0) := by rw [cell_of_row _ _ _ _ _ _ hgh, List.getElem?_toArray]; exact hcell
   have f1 : wr.frozen? ⟨g, k * 34 + 33, none⟩ = false := frozen_of_row _ _ _ _ _ hgh
   have hne : g ≠ B0 := by have := HZ2.out; omega
   have hne1 : B0 + 1 ≠ g := by have := HZ2.out; omega
   have D05 : Hid ((wr.setCell ⟨g, k * 34 + 33, none⟩ (.slice none 0 0)).heap[B0]? = some (.cells #[.slice (some ⟨g, 0, none⟩) n c3, .slice B m cc, .int .i64 0] 32 (0, 0))) := aside ((Below.heap_setCell _ _ _ _ (show B0 ≠ g from fun e => hne e.symm)).trans D0.out)
   have D15 : Hid (BlkY (wr.setCell ⟨g, k * 34 + 33, none⟩ (.slice none 0 0)) (B0 + 1) 23 (List.replicate 32 0)) := aside (D1.out.other _ _ _ hne1)
   have HR5 : Hid (NRow (wr.setCell ⟨g, k * 34 + 33, none⟩ (.slice none 0 0)) w2.heap.size (some ⟨g, 0, none⟩) n ins) := aside (.inr ⟨g, tl, rfl, hbg, hgl, by
    rw [heap_setCell_same wr g _ _ _ _ hgh, List.setIfInBounds_toArray, set_same hcell]⟩)
   have HB5 : Hid (Below w.heap.size w (wr.setCell ⟨g, k * 34 + 33, none⟩ (.slice none 0 0))) := aside (HB.out.setCell (p := ⟨g, k * 34 + 33, none⟩) (by have h1 := HB2.out.size; show w.heap.size ≤ g; omega) _)
   clear hgh hcell hky hbg hgl hkl D0 D1 HR HB hne hne1
   go_wp2
   exact ⟨⟨k + 1, by omega, by go_num, D05, D15, HR5, HB5⟩, by simp [Go.RowKit.intOf]; omega⟩
  ·obtain rfl : n = k := by omega
   have i0 : ((n : Int) < (n : Int)) = False := by simp
   have B5 : Hid (Below wr.heap.size wr (wr.alloc (.cells #[.int .u8 21] 5))) := aside ((Below.refl _ _).alloc (Nat.le_refl _) _)
   have HV5 : Hid (BRow (wr.alloc (.cells #[.int .u8 21] 5)) wr.heap.size (.slice (some ⟨wr.heap.size, 0, none⟩) 1 1) [21]) := aside (BRow.one wr 21)
   have hx := (B5.out.block B0 (Array.getElem?_eq_some_iff.1 D0.out).1).trans D0.out
   have y0 : (wr.alloc (.cells #[.int .u8 21] 5)).cell? ⟨B0, 0, none⟩ = some (.slice A3 n c3) := by rw [cell_of_row _ B0 0 _ _ _ hx]; rfl
   have y1 : (wr.alloc (.cells #[.int .u8 21] 5)).cell? ⟨B0, 1, none⟩ = some (.slice B m cc) := by rw [cell_of_row _ B0 1 _ _ _ hx]; rfl
   have y2 : (wr.alloc (.cells #[.int .u8 21] 5)).cell? ⟨B0, 2, none⟩ = some (.int .i64 0) := by rw [cell_of_row _ B0 2 _ _ _ hx]; rfl
   have D15 : Hid (BlkY (wr.alloc (.cells #[.int .u8 21] 5)) (B0 + 1) 23 (List.replicate 32 0)) := aside (D1.out.below B5.out D1.out.lt)
   have HB5 : Hid (Below w.heap.size w (wr.alloc (.cells #[.int .u8 21] 5))) := aside (HB.out.trans (B5.out.mono HB.out.size))
   have HNs : Hid (NSl (wr.alloc (.cells #[.int .u8 21] 5)) (wr.alloc (.cells #[.int .u8 21] 5)).heap.size A3 n ins) := aside ((FSl.below HR.out.nsl B5.out).more B5.out.size)
   have HSe := aside (sent_any ins outs A3 B n c3 m cc hn hm _ HNs.out (fun x hx => by have := HI.out x hx; exact ⟨this.1, this.2.2.1, by have := this.2.2.2.1; omega⟩) (fun x hx => (HI.out x hx).2.2.2.2) (HOo.out.step HB5.out) (fun o ho => out_money (HOk.out o ho)))
   have HlB : Hid (B0 + 1 < wr.heap.size) := aside D1.out.lt
   clear hx hkn D0 D1 HR x0
   go_wp2_with fail
   refine HSe.out.mono ?_
   rintro e w6 ⟨v6, rfl, hv6, hb6⟩
   have HV6 := aside (HV5.out.below hb6)
   have HU6 := aside hv6
   have D16 : Hid (BlkY w6 (B0 + 1) 23 (List.replicate 32 0)) := aside (D15.out.below hb6 D15.out.lt)
   have HB6 : Hid (Below w.heap.size w w6) := aside (HB5.out.trans (hb6.mono HB5.out.size))
   have HB56 : Hid (Below wr.heap.size wr w6) := aside (B5.out.trans (hb6.mono B5.out.size))
   have hz6 := HB56.out.size
   have hl0 : ([21] : List Nat).length = 1 := rfl
   have hlx := HLn.out
   clear hv6 hb6 y0 y1 y2 HSe HNs D15 HB5 HV5 B5
   go_wp2_with (first
    | (at_builtin; refine wpList_bcat2 rfl (.tmp 28) (.tmp 30) rfl wr.heap.size rfl HV6.out rfl HU6.out (by omega) hz6 ?_; intro v7 w7 hv7 hb7 hk7)
    | fail)
   obtain ⟨A7, c7, e7, hy7⟩ := hv7.sl
   subst e7
   have D17 : Hid (BlkY w7 (B0 + 1) 23 (List.replicate 32 0)) := aside ((hb7.block (B0 + 1) HlB.out).trans D16.out)
   have HB7 : Hid (Below w.heap.size w w7) := aside (HB6.out.trans (hb7.mono HB.out.size))
   refine (sha_any ([21] ++ txB (ins.map RIn.pl) (outs.map ROut.pl)) A7 _ c7 w7 hy7 (by rw [List.length_append]; omega) (fun x hx => by
    rcases List.mem_append.1 hx with hx | hx
    ·obtain rfl := List.mem_singleton.1 hx
     omega
    ·exact HSm.out x hx) (HG.out.below HB7.out)).mono ?_
   rintro e w8 ⟨rfl, hb8⟩
   have D18 : Hid (BlkY w8 (B0 + 1) 23 (List.replicate 32 0)) := aside (D17.out.below hb8 D17.out.lt)
   have HB8 : Hid (Below w.heap.size w w8) := aside (HB7.out.trans (hb8.mono HB7.out.size))
   obtain ⟨X, hX⟩ : ∃ X, X = idL (ins.map RIn.pl) (outs.map ROut.pl) := ⟨_, rfl⟩
   have hXl : X.length = 32 := by rw [hX]; exact idL_len _ _
   rw [show shaL ([21] ++ txB (ins.map RIn.pl) (outs.map ROut.pl)) = X from hX.symm]
   have HXe := aside hX
   have HS9 : Hid ((Tryz.prog.info? 23).map (·.size) = some (rowY X).size) := aside (by rw [rowY_size, hXl]; kernel_rfl)
   have HS8 : Hid ((rowY (List.replicate 32 0)).size = (rowY X).size) := aside (by rw [rowY_size, rowY_size, hXl]; rfl)
   clear hb8 hv7 hb7 hk7 hy7 hX D17 D16 HB6 HB7 HV6 HU6
   go_wp2_with (first
    | (refine wpList_store_row rfl 23 (.tmp 2) (.tmp 32) rfl (B0 + 1) (rowY X) rfl rfl 23 (rowY (List.replicate 32 0)) D18.out HS9.out HS8.out (rowY_one _) ?_)
    | fail)
   refine bodyPost_ret (results_cell_tmp rfl _ _ (B0 + 1) 23 (rowY X) (0, 0) _ rfl (setRow_heap w8 (B0 + 1) _ _ _ _ D18.out) Tryz.underlying23 rfl HS9.out) rfl ?_
   exact ⟨by rw [← HXe.out] <;> rfl, below_setRow HB8.out _ (by rw [EB.out]; omega) _⟩
end Go.Proofs.YtbpabjhcjffkmaaGreatDoor
