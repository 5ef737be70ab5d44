/- The reference: Till. Conditions: named in each theorem. -/
import Derived.Test.YtgickjghfndaaaaDoorPickW
import Derived.Test.YtgickjghfndaaaaDoorPickD
import Derived.Deep.OwnRows
import Derived.Deep.CutRange
import Derived.Deep.AppendLies
import Derived.ChangeSame
namespace Go.Proofs.YtgickjghfndaaaaDoor
open Go.RowKit Go.ChangeShapes Go.WideShapes Go.ChangeAt

/-- Which of so many places are chosen. -/
def marks (n : Nat) (T : List Int) : List Bool := (rangeZ n).map (fun x => decide (x ∈ T))
theorem marks_len (n : Nat) (T : List Int) : (marks n T).length = n := by unfold marks; rw [List.length_map, rangeZ_len]
theorem range_at {n k : Nat} (h : k < n) : (rangeZ n)[k]? = some (k : Int) := by
  unfold rangeZ
  rw [List.getElem?_map, List.getElem?_range h]
  rfl
theorem marks_at {n k : Nat} (T : List Int) (h : k < n) : (marks n T)[k]? = some (decide ((k : Int) ∈ T)) := by
  unfold marks
  rw [List.getElem?_map, range_at h]
  rfl
theorem marks_nil (n : Nat) : marks n [] = List.replicate n false := by
  refine List.eq_replicate_iff.2 ⟨marks_len n [], fun b hb => ?_⟩
  unfold marks at hb
  obtain ⟨x, _, rfl⟩ := List.mem_map.1 hb
  simp
theorem marks_set {n k : Nat} (T : List Int) (h : k < n) : (marks n T).set k true = marks n (T ++ [(k : Int)]) := by
  refine List.ext_getElem? fun j => ?_
  by_cases hj : j < n
  · rw [marks_at _ hj, List.getElem?_set, marks_len]
    by_cases hkj : k = j
    · subst hkj
      rw [if_pos rfl, if_pos h]
      simp
    · rw [if_neg hkj, marks_at _ hj]
      have : ((j : Int) ∈ T ++ [(k : Int)]) ↔ ((j : Int) ∈ T) := by
        rw [List.mem_append]
        simp
        intro e
        omega
      simp only [this]
  · rw [List.getElem?_eq_none (by rw [List.length_set, marks_len]; omega), List.getElem?_eq_none (by rw [marks_len]; omega)]
theorem madeB (n : Nat) : madeCells #[Value.bool false] n = ((marks n []).map Value.bool).toArray := by
  rw [marks_nil]
  refine Array.ext (by simp [size_madeCells]) fun i h1 h2 => ?_
  simp [madeCells, Nat.mod_one]
theorem infoB : (Tryd.prog.info? 4).map (fun i => (i.zero, i.size, i.bytes)) = some (some (.bool false), 1, 1) := by kernel_rfl
/-- A row of marks, all at once. -/
def Mk (w : World) (g n : Nat) (T : List Int) : Prop := w.heap[g]? = some (.cells ((marks n T).map Value.bool).toArray 4 (0, 0))
theorem Mk.lt {w : World} {g n : Nat} {T : List Int} (h : Mk w g n T) : g < w.heap.size := (Array.getElem?_eq_some_iff.1 h).1
theorem Mk.cell {w : World} {g n : Nat} {T : List Int} (h : Mk w g n T) {k : Nat} (hk : k < n) : w.cell? ⟨g, k, none⟩ = some (.bool (decide ((k : Int) ∈ T))) := by
  unfold Mk at h
  have h2 : ((marks n T).map Value.bool)[k]? = some (.bool (decide ((k : Int) ∈ T))) := by rw [List.getElem?_map, marks_at T hk]; rfl
  simp only [World.cell?, h]
  simpa using h2
theorem Mk.fz {w : World} {g n : Nat} {T : List Int} (h : Mk w g n T) (o : Nat) : w.frozen? ⟨g, o, none⟩ = false := by
  unfold Mk at h
  simp [World.frozen?, h]
theorem Mk.set {w : World} {g n : Nat} {T : List Int} (h : Mk w g n T) {k : Nat} (hk : k < n) : Mk (w.setCell ⟨g, k, none⟩ (.bool true)) g n (T ++ [(k : Int)]) := by
  unfold Mk at *
  rw [heap_setCell_same w g k _ 4 _ h, ← marks_set T hk]
  simp only [List.setIfInBounds_toArray, List.map_set]
theorem Mk.below {w w' : World} {g n N : Nat} {T : List Int} (h : Mk w g n T) (hb : Below N w w') (hN : g < N) : Mk w' g n T := (hb.block g hN).trans h
/-- The marked ones, of the first so many. -/
def markL (T : List Int) (i : Nat) : List Int := (rangeZ i).filter (fun x => decide (x ∈ T))
theorem markL_yes {T : List Int} {i : Nat} (h : (i : Int) ∈ T) : markL T (i + 1) = markL T i ++ [(i : Int)] := by
  unfold markL
  rw [rangeZ_succ, List.filter_append, List.filter_cons_of_pos (by simpa using h)]
  rfl
theorem markL_no {T : List Int} {i : Nat} (h : (i : Int) ∉ T) : markL T (i + 1) = markL T i := by
  unfold markL
  rw [rangeZ_succ, List.filter_append, List.filter_cons_of_neg (by simpa using h)]
  simp
theorem markL_len (T : List Int) (i : Nat) : (markL T i).length ≤ i := by
  unfold markL
  have := List.length_filter_le (fun x => decide (x ∈ T)) (rangeZ i)
  rwa [rangeZ_len] at this
set_option maxHeartbeats 20000000 in
set_option maxRecDepth 100000 in
theorem rtill_any (ns : List Int) (A : Option Addr) (n c : Nat) (want : Int) (o : List Int) (O : Option Addr) (m c2 : Nat) (hn : n ≤ 1000) (hm : m ≤ 1000) (hns : ∀ x ∈ ns, 0 ≤ x ∧ x ≤ 1125899906842624) (hw : 0 ≤ want ∧ want ≤ 1125899906842624) (hok : ∀ x ∈ o, OkZ n x) (hd : o.Nodup) (w : World) (h : ISl w w.heap.size A n ns) (ho : ISl w w.heap.size O m o) :
    Calls Tryd.prog 8 #[.slice A n c, .int .i64 want, .slice O m c2] w (fun e w' => ∃ A' c' p, e = .returned (.slice A' p.length c') ∧ ISl w' w'.heap.size A' p.length p ∧ p = (takeT (atZ ns) want o).mergeSort (fun x y => decide (x ≤ y)) ∧ Below w.heap.size w w') := by
  have hlo := ISl.len ho
  have hln := ISl.len h
  have HLo := aside hlo
  have HLn := aside hln
  have H := aside h
  have HOo := aside ho
  have HNs := aside hns
  have HOk := aside hok
  have HD := aside hd
  have hmk0 := run_make_row' (P := Tryd.prog) 44 4 (.bool false) 1 Tryd.underlying44 infoB rfl .i64 .i64 n (by omega) (by omega)
  rw [madeB] at hmk0
  have hmk := hmk0
  clear hmk0
  have HM0 : Hid (Mk (w.alloc (.cells ((marks n []).map Value.bool).toArray 4)) w.heap.size n []) := aside (MapKept.heap_alloc w _).1
  have HB0 : Hid (Below w.heap.size w (w.alloc (.cells ((marks n []).map Value.bool).toArray 4))) := aside ((Below.refl _ _).alloc (Nat.le_refl _) _)
  have HZ0 : Hid (w.heap.size + 1 ≤ (w.alloc (.cells ((marks n []).map Value.bool).toArray 4)).heap.size) := aside (by simp)
  have HT : Hid (takeT (atZ ns) want o = o.take 0 ++ takeT (atZ ns) want (o.drop 0)) := aside (by simp)
  have hwb : -1125899906842624 ≤ want ∧ want ≤ 1125899906842624 := by omega
  clear h ho hlo hln hns hok hw hd
  go_enter Tryd.func8, Tryd.ntmps8
  go_wp2_with fail
  generalize (w.alloc (.cells ((marks n []).map Value.bool).toArray 4)) = w1 at HM0 HB0 HZ0 ⊢
  go_loopw [1, 8] (fun v1 v8 wr => ∃ (j : Nat) (wi : Int), j ≤ m ∧ v8 = .int .i64 j ∧ v1 = .int .i64 wi ∧ -1125899906842624 ≤ wi ∧ wi ≤ 1125899906842624 ∧ Hid (Mk wr w.heap.size n (o.take j)) ∧ Hid (Below w.heap.size w wr) ∧ Hid (takeT (atZ ns) want o = o.take j ++ takeT (atZ ns) wi (o.drop j)) ∧ Hid (w.heap.size + 1 ≤ wr.heap.size)) (fun _ v8 _ => m - (Go.RowKit.intOf v8).toNat)
  case atStart => exact ⟨0, want, Nat.zero_le _, rfl, rfl, hwb.1, hwb.2, HM0, HB0, HT, HZ0⟩
  case round =>
    clear HM0 HB0 HZ0 HT hwb hmk
    obtain ⟨j, wi, hj, rfl, rfl, hw1, hw2, HM, HB, HT, HZ⟩ := hrel
    obtain ⟨go, hgo⟩ : ∃ go, go = decide (j < m ∧ 0 < wi) := ⟨_, rfl⟩
    go_upto_region 3 with fail
    go_cut [21] from 14 to 21 (fun v21 wx => v21 = .bool go ∧ wx = wr)
    case first =>
      by_cases hjm : j < m
      · have j0 : (j : Int) < (m : Int) := by omega
        by_cases hwz : 0 < wi
        · have hg : go = true := by rw [hgo]; exact decide_eq_true ⟨hjm, hwz⟩
          go_wp2_with fail
          go_meet
          exact ⟨by rw [hg] <;> simp [hwz], rfl⟩
        · have hg : go = false := by rw [hgo]; exact decide_eq_false (fun hh => hwz hh.2)
          have hwz2 : wi ≤ 0 := by omega
          go_wp2_with fail
          go_meet
          exact ⟨by rw [hg] <;> simp [hwz2], rfl⟩
      · have j0 : ((j : Int) < (m : Int)) = False := by simp only [eq_iff_iff, iff_false]; omega
        have hg : go = false := by rw [hgo]; exact decide_eq_false (fun hh => hjm hh.1)
        go_wp2_with fail
        go_meet
        exact ⟨by rw [hg] <;> simp, rfl⟩
    case rest =>
    obtain ⟨rfl, rfl⟩ := hcut
    cases go with
    | true =>
      obtain ⟨hjm, hwz⟩ := of_decide_eq_true hgo.symm
      have j0 : (j : Int) < (m : Int) := by omega
      obtain ⟨b, of, hOe, hbl, cO⟩ := ISl.at_ (isl_below HOo.out HB.out) hjm
      have hx : nth o j ∈ o := nth_mem (by have := HLo.out; omega)
      have hxk := HOk.out _ hx
      obtain ⟨xi, hxi⟩ : ∃ k : Nat, nth o j = (k : Int) := ⟨(nth o j).toNat, by have := hxk.1; omega⟩
      rw [hxi] at cO hxk
      have hxn : xi < n := by have := hxk.2; omega
      have hxz : (xi : Int) < (n : Int) := by omega
      obtain ⟨b', of', hAe, hbl', cA⟩ := ISl.at_ (isl_below H.out HB.out) hxn
      have hv := HNs.out _ (nth_mem (zs := ns) (k := xi) (by have := HLn.out; omega))
      have hAt : atZ ns (nth o j) = nth ns xi := by rw [hxi]; unfold atZ; rw [Int.toNat_natCast]
      have HTn := aside (takeT_step HT.out (by have := HLo.out; omega) (by omega))
      rw [hAt] at HTn
      have hwr : IntKind.i64.wrap (wi - nth ns xi) = wi - nth ns xi := by rw [IntKind.wrap_i64]; omega
      have hvv : -1125899906842624 ≤ wi - nth ns xi ∧ wi - nth ns xi ≤ 1125899906842624 := by omega
      have HVV := aside hvv
      have hmc := HM.out.cell hxn
      have hmf := HM.out.fz xi
      have HMn : Hid (Mk (wc.setCell ⟨w.heap.size, xi, none⟩ (.bool true)) w.heap.size n (o.take (j + 1))) := aside (by
        have h := HM.out.set hxn
        rwa [← hxi, show o.take j ++ [nth o j] = o.take (j + 1) by rw [List.take_add_one, List.getElem?_eq_getElem (by have := HLo.out; omega), nth_get (by have := HLo.out; omega)]; rfl] at h)
      have HBn : Hid (Below w.heap.size w (wc.setCell ⟨w.heap.size, xi, none⟩ (.bool true))) := aside (HB.out.setCell (p := ⟨w.heap.size, xi, none⟩) (Nat.le_refl _) _)
      have HZn : Hid (w.heap.size + 1 ≤ (wc.setCell ⟨w.heap.size, xi, none⟩ (.bool true)).heap.size) := aside (by simpa using HZ.out)
      have cO2 : (wc.setCell ⟨w.heap.size, xi, none⟩ (.bool true)).cell? ⟨b, of + j, none⟩ = some (.int .i64 xi) := by
        obtain ⟨b2, of2, e2, _, c2'⟩ := ISl.at_ (isl_below HOo.out HBn.out) hjm
        rw [hOe] at e2
        injection e2 with e2
        injection e2 with e3 e4
        rw [e3, e4, ← hxi]
        exact c2'
      have cA2 : (wc.setCell ⟨w.heap.size, xi, none⟩ (.bool true)).cell? ⟨b', of' + xi, none⟩ = some (.int .i64 (nth ns xi)) := by
        obtain ⟨b2, of2, e2, _, c2'⟩ := ISl.at_ (isl_below H.out HBn.out) hxn
        rw [hAe] at e2
        injection e2 with e2
        injection e2 with e3 e4
        rw [e3, e4]
        exact c2'
      generalize nth ns xi = y at cA cA2 hwr HTn HVV hv
      subst hOe hAe
      clear hx hxk hxi hbl hbl' hv hAt hvv HT HM HB HZ hgo
      go_wp2_with fail
      exact ⟨⟨j + 1, wi - y, by omega, by go_num, rfl, HVV.out.1, HVV.out.2, HMn, HBn, HTn, HZn⟩, by simp [Go.RowKit.intOf]; omega⟩
    | false =>
      have hgo2 : ¬ (j < m ∧ 0 < wi) := of_decide_eq_false hgo.symm
      have HTe : Hid (takeT (atZ ns) want o = o.take j) := aside (by
        rw [HT.out]
        by_cases hwz : wi ≤ 0
        · rw [takeT_low _ hwz, List.append_nil]
        · rw [List.drop_eq_nil_of_le (by have := HLo.out; omega)]
          unfold takeT
          rw [List.append_nil])
      have HDj : Hid ((o.take j).Nodup) := aside (HD.out.sublist (List.take_sublist _ _))
      have HOj : Hid (∀ x ∈ o.take j, OkZ n x) := aside (fun x hx => HOk.out x (List.mem_of_mem_take hx))
      clear hgo hgo2 HT
      obtain ⟨T, hT⟩ : ∃ T, T = o.take j := ⟨_, rfl⟩
      rw [← hT] at HM HTe HDj HOj
      clear hT
      have hz1 := HZ.out
      have HO0 : Hid (OwnZ wc (w.heap.size + 1) (.slice none 0 0) (markL T 0).length (markL T 0)) := aside (ownZ_nil _ _)
      go_wp2_with fail
      go_loopw [9, 10] (fun v9 v10 wx => ∃ (i : Nat) (L : List Int) (A1 : Option Addr) (c1 : Nat), i ≤ n ∧ v10 = .int .i64 i ∧ v9 = .slice A1 L.length c1 ∧ L.length ≤ i ∧ w.heap.size + 1 ≤ wx.heap.size ∧ Hid (L = markL T i) ∧ Hid (OwnZ wx (w.heap.size + 1) (.slice A1 L.length c1) L.length L) ∧ Hid (Mk wx w.heap.size n T) ∧ Hid (Below w.heap.size w wx)) (fun _ v10 _ => n - (Go.RowKit.intOf v10).toNat)
      case atStart => exact ⟨0, [], none, 0, Nat.zero_le _, rfl, rfl, Nat.le_refl _, hz1, aside rfl, HO0, HM, HB⟩
      case round =>
        clear HM HB HZ hz1 HO0
        obtain ⟨i, L, A1, c1, hi, rfl, rfl, hll, hz1, HL, HO, HM, HB⟩ := hrel
        by_cases hin : i < n
        · have i0 : (i : Int) < (n : Int) := by omega
          have hmc := HM.out.cell hin
          by_cases hT : (i : Int) ∈ T
          · rw [decide_eq_true hT] at hmc
            have HL2 : Hid (L ++ [(i : Int)] = markL T (i + 1)) := aside (by rw [markL_yes hT, HL.out])
            have hll2 : (L ++ [(i : Int)]).length = L.length + 1 := by simp
            clear hT hin
            go_wp2_with (first
              | (at_builtin; refine wpList_push rfl (.tmp 49) (.tmp 51) 22 rfl (w.heap.size + 1) _ 1 8 Tryd.underlying22 infoZ rfl (by decide) (.slice A1 L.length c1) L.length _ rfl rfl rfl rfl HO.out (by omega) (by unfold maxLen; omega) hz1 ?_; intro A3 c3 w3 hc3 hc3' hown3 hb3 hz3' hg3)
              | fail)
            have HO3 : Hid (OwnZ w3 (w.heap.size + 1) (.slice A3 (L.length + 1) c3) (L.length + 1) (L ++ [(i : Int)])) := aside (by show w3.ownsRow _ _ _ _ _ _; rw [List.map_append]; exact hown3)
            have H3 := aside (HB.out.trans (hb3.mono (Nat.le_succ _)))
            have HM3 := aside (HM.out.below hb3 (Nat.lt_succ_self _))
            have hz3 := Nat.le_trans hz1 hb3.size
            clear hown3 hb3 hg3 hz3'
            exact ⟨⟨i + 1, L ++ [(i : Int)], A3, c3, by omega, by go_num, by rw [hll2], by omega, hz3, HL2, by rw [hll2]; exact HO3, HM3, H3⟩, by simp [Go.RowKit.intOf]; omega⟩
          · rw [decide_eq_false hT] at hmc
            have HL2 : Hid (L = markL T (i + 1)) := aside (by rw [markL_no hT, HL.out])
            clear hT hin
            go_wp2
            exact ⟨⟨i + 1, L, A1, c1, by omega, by go_num, rfl, by omega, hz1, HL2, HO, HM, HB⟩, by simp [Go.RowKit.intOf]; omega⟩
        · obtain rfl : n = i := by omega
          have i0 : ((n : Int) < (n : Int)) = False := by simp
          have HLe : Hid (L = (takeT (atZ ns) want o).mergeSort (fun x y => decide (x ≤ y))) := aside (by rw [HL.out, HTe.out]; exact filter_sorted HDj.out HOj.out)
          clear HL HM
          go_wp2
          go_ret
          exact ⟨A1, c1, L, rfl, ownZ_isl HO.out, HLe.out, HB.out⟩
end Go.Proofs.YtgickjghfndaaaaDoor
