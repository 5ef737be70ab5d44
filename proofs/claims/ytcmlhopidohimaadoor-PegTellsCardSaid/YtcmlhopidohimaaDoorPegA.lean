/- Copies of rows; one laid between: slices.Clone and slices.Insert at ints, piles, returns: the walks. Conditions: named in each theorem. -/
import Derived.Test.YtcmlhopidohimaaDoorRow
import Derived.Deep.RegionWith
import Derived.Deep.RegionLaw
namespace Go.Proofs.YtcmlhopidohimaaDoor
open Go.RowKit Go.ChangeShapes Go.WideShapes Go.ChangeAt

/-- A number's, a pile's, a return's cells. -/
def encI (z : Int) : List Value := [.int .i64 z]
def encP (p : Int × Int) : List Value := [.int .i64 p.1, .int .i64 p.2]
def encR (r : Int × Int × Bool) : List Value := [.int .i64 r.1, .int .i64 r.2.1, .bool r.2.2]
theorem encI_len (z : Int) : (encI z).length = 1 := rfl
theorem encP_len (p : Int × Int) : (encP p).length = 2 := rfl
theorem encR_len (r : Int × Int × Bool) : (encR r).length = 3 := rfl

theorem infoI : (Tryd.prog.info? 3).map (fun i => (i.zero, i.size, i.bytes)) = some (some (.int .i64 0), 1, 8) := by kernel_rfl
theorem sizeI : (Tryd.prog.info? 3).map (·.size) = some 1 := by kernel_rfl
abbrev OwnI (w : World) (base : Nat) (v : Value) (n : Nat) (xs : List Int) : Prop := w.ownsRow base 3 1 v n (xs.flatMap encI)
theorem oneI (xs : List Int) : ∀ u ∈ xs.flatMap encI, u.oneCell' = true := by
  intro u hu
  obtain ⟨x, -, hx⟩ := List.mem_flatMap.1 hu
  simp only [encI, List.mem_cons, List.not_mem_nil, or_false] at hx
  rcases hx with rfl <;> rfl
theorem ownI_split {w : World} {base n : Nat} {v : Value} {xs ys : List Int} (h : w.ownsRow base 3 1 v n (xs.flatMap encI ++ ys.flatMap encI)) : OwnI w base v n (xs ++ ys) := by
  unfold OwnI
  rw [List.flatMap_append]
  exact h
set_option maxRecDepth 100000 in
theorem cloneI_any (xs : List Int) (A : Option Addr) (n c : Nat) (w : World) (h : FSl encI 1 w w.heap.size A n xs) (hn : n ≤ 1000) :
    Calls Tryd.prog 41 #[.slice A n c] w (fun e w' => ∃ A' c', e = .returned (.slice A' n c') ∧ OwnI w' w.heap.size (.slice A' n c') n xs ∧ Below w.heap.size w w') := by
  have q22 : ∀ (w : World) (a : Option Addr) (n c n' c' : Nat), (binOp .eql 23 (.slice a n c) (.slice none n' c')).run Tryd.prog w = .ok (.bool a.isNone) w := fun w a n c n' c' => Lib.run_eql_slice_nil w _ _ a n c n' c' Tryd.underlying23
  have hln := FSl.len encI_len (by decide) h
  cases A with
  | none =>
    have h0 : n = 0 := by
      rcases Nat.eq_zero_or_pos n with h0 | h0
      · exact h0
      · obtain ⟨_, _, e, _⟩ := Sl.cells h h0
        cases e
    subst h0
    have hx : xs = [] := List.eq_nil_of_length_eq_zero hln
    subst hx
    clear h hln
    go_enter Tryd.func41, Tryd.ntmps41
    go_wp2_with fail
    go_ret
    exact ⟨none, 0, rfl, ⟨rfl, .inl ⟨rfl, rfl⟩⟩, Below.refl _ _⟩
  | some ad =>
    have HSl : Hid (FSl encI 1 (w.alloc (.cells #[] 3)) w.heap.size (some ad) n xs) := aside (FSl.below h ((Below.refl _ _).alloc (Nat.le_refl _) _))
    have HO : Hid ((w.alloc (.cells #[] 3)).ownsRow w.heap.size 3 1 (.slice (some ⟨w.heap.size, 0, none⟩) 0 0) 0 []) := aside (World.ownsRow_made (base := w.heap.size) w #[] 0 (Nat.le_refl _) (by decide) rfl)
    have H1 := aside (oneI xs)
    clear h hln
    go_enter Tryd.func41, Tryd.ntmps41
    go_wp2_with (first
      | (at_builtin; refine wpList_concat rfl (.tmp 5) (.tmp 6) 23 rfl w.heap.size (.int .i64 0) 1 8 Tryd.underlying23 infoI rfl (by decide) _ 0 [] rfl HO.out w.heap.size (some ad) n c _ rfl HSl.out H1.out (by omega) (by unfold maxLen; omega) (by simp) ?_; intro G2 c2 w2 hc2 hc2' hown hb2 _; simp only [Nat.zero_add, List.nil_append] at hown hc2; have HO2 := aside hown; have HB2 : Hid (Below w.heap.size w w2) := aside (((Below.refl _ _).alloc (Nat.le_refl _) _).trans hb2); clear hown hb2)
      | fail)
    go_ret
    exact ⟨G2, c2, rfl, HO2.out, HB2.out⟩

/-- One is laid between, where there is no place behind. -/
theorem overI (vb g : Nat) (w : World) (x : Int) (hv : w.heap[vb]? = some (.cells (encI x).toArray 3 (0, 0))) (hvb : vb ≠ g) {cur : List Value} (hg : w.heap[g]? = some (.cells cur.toArray 3 (0, 0))) (hc : cur.length ≠ 0) (o lb cb : Nat) :
    (callFunc 45 #[.slice (some ⟨vb, 0, none⟩) 1 1, .slice (some ⟨g, o, none⟩) lb cb]).run Tryd.prog w = .ok (.value (.bool false)) w := by
  have hz : ∀ w, (Go.sizeOf 3).run Tryd.prog w = .ok 1 w := fun w => by kernel_rfl
  rw [run_callFunc_extern Tryd.func45 (by kernel_rfl) (by kernel_rfl) (by kernel_rfl) (e := Extern.SlicesOverlaps.overlaps #[23, 23] #[4]) (by kernel_rfl),
    Lib.run_overlaps_apart w 23 4 3 Tryd.underlying23 1 hz ⟨vb, 0, none⟩ ⟨g, o, none⟩ 1 1 lb cb hvb 3 3 1 cur.length (by simp [World.shape?, hv, encI]) (by simp [World.shape?, hg]) hc (by simp [World.frozen?, hv]) (by simp [World.frozen?, hv])]
  rfl
set_option maxHeartbeats 2000000 in
set_option maxRecDepth 100000 in
theorem insertI_any (xs : List Int) (x : Int) (i n : Nat) (hi : i ≤ n) (A : Option Addr) (c base vb : Nat) (w : World) (hown : OwnI w base (.slice A n c) n xs) (hv : w.heap[vb]? = some (.cells (encI x).toArray 3 (0, 0))) (hvb : ∀ g o s, A = some ⟨g, o, s⟩ → vb ≠ g) (hn : n ≤ 1000) (hbase : base ≤ w.heap.size) :
    Calls Tryd.prog 33 #[.slice A n c, .int .i64 i, .slice (some ⟨vb, 0, none⟩) 1 1] w (fun e w' => ∃ A' c', e = .returned (.slice A' (n + 1) c') ∧ OwnI w' base (.slice A' (n + 1) c') (n + 1) (xs.take i ++ x :: xs.drop i) ∧ Below base w w' ∧ Grew w w' (.slice A n c) (.slice A' (n + 1) c')) := by
  have hln : xs.length = n := by
    have := hown.1
    rw [flat_len encI_len] at this
    omega
  have hvl := (Array.getElem?_eq_some_iff.1 hv).1
  have HV : Hid (FSl encI 1 w w.heap.size (some ⟨vb, 0, none⟩) 1 [x]) := aside (by
    refine ⟨by simp [encI_len], fun _ => ⟨vb, 0, rfl, hvl, fun j u hu => ?_⟩⟩
    have e : ([x] : List Int).flatMap encI = encI x := by simp
    rw [e] at hu
    rw [Nat.zero_add]
    simpa [World.cell?, hv] using hu)
  have e1 : ((1 : Int) == 0) = false := by decide
  by_cases hin : i = n
  · subst hin
    have HT : Hid (xs.take i ++ x :: xs.drop i = xs ++ [x]) := aside (by rw [← hln, List.take_length, List.drop_length])
    have HO := aside hown
    have H1 := aside (oneI [x])
    clear hown hv hvb hln hvl
    by_cases hci : c = i
    all_goals
      (first
        | (have hcp : (c = i) = True := eq_true hci
           clear hci)
        | (have hcp : (c = i) = False := eq_false hci
           clear hci))
      go_enter Tryd.func33, Tryd.ntmps33
      go_wp2_with (first
        | (at_builtin; refine wpList_concat rfl (.tmp 23) (.tmp 24) 23 rfl base (.int .i64 0) 1 8 Tryd.underlying23 infoI rfl (by decide) _ i _ rfl HO.out w.heap.size _ 1 1 _ rfl HV.out H1.out (by omega) (by unfold maxLen; omega) hbase ?_; intro G2 c2 w2 hc2 hc2' hown hb2 hg2; have HO2 : Hid (OwnI w2 base (.slice G2 (i + 1) c2) (i + 1) (xs ++ [x])) := aside (ownI_split hown); have HB2 := aside hb2; have HG2 : Hid (Grew w w2 (.slice A i c) (.slice G2 (i + 1) c2)) := aside hg2; clear hown hb2 hg2)
        | fail)
      go_ret
      exact ⟨G2, c2, rfl, by rw [HT.out]; exact HO2.out, HB2.out, HG2.out⟩
  · have hlt : i < n := by omega
    obtain ⟨g, cur, rfl, hbg, hg, hnc, hcm, hcl, hct⟩ := own_open hown (.inl (by omega))
    have hvg : vb ≠ g := hvb g 0 none rfl
    have hgl := (Array.getElem?_eq_some_iff.1 hg).1
    have e2 : ((i : Int) == (n : Int)) = false := by simp only [beq_eq_false_iff_ne, ne_eq]; omega
    have hsplit : xs.flatMap encI = (xs.take i).flatMap encI ++ (xs.drop i).flatMap encI := by rw [← List.flatMap_append, List.take_append_drop]
    have hla : ((xs.take i).flatMap encI).length = i * 1 := by rw [flat_len encI_len, List.length_take]; omega
    have hlb : ((xs.drop i).flatMap encI).length = (n - i) * 1 := by rw [flat_len encI_len, List.length_drop, hln]
    have hcells : ∀ (j : Nat) (u : Value), cur[j]? = some u → w.cell? ⟨g, j, none⟩ = some u := fun j u hu => by simpa [World.cell?, hg] using hu
    rw [hsplit] at hct
    have hob : ∀ (j : Nat) (u : Value), ((xs.drop i).flatMap encI)[j]? = some u → cur[i * 1 + j]? = some u := by
      intro j u hu
      have hj := (List.getElem?_eq_some_iff.1 hu).1
      have h := congrArg (·[i * 1 + j]?) hct
      simp only [List.getElem?_take] at h
      rw [if_pos (by omega), List.getElem?_append_right (by omega), hla, Nat.add_sub_cancel_left, hu] at h
      exact h
    have hoa : ∀ (j : Nat) (u : Value), ((xs.take i).flatMap encI)[j]? = some u → cur[j]? = some u := by
      intro j u hu
      have hj := (List.getElem?_eq_some_iff.1 hu).1
      have h := congrArg (·[j]?) hct
      simp only [List.getElem?_take] at h
      rw [if_pos (by omega), List.getElem?_append_left (by omega), hu] at h
      exact h
    have hres : xs.take i ++ x :: xs.drop i = xs.take i ++ [x] ++ xs.drop i := by simp
    have hflat : (xs.take i ++ x :: xs.drop i).flatMap encI = (xs.take i).flatMap encI ++ encI x ++ (xs.drop i).flatMap encI := by
      rw [hres, List.flatMap_append, List.flatMap_append]
      simp
    have hcb : c * 1 = cur.length := hcl.symm
    have HV2 := HV.out
    have hvc : ∀ (W : World), W.heap[vb]? = some (.cells (encI x).toArray 3 (0, 0)) → ∀ (j : Nat) (u : Value), (encI x)[j]? = some u → W.cell? ((⟨vb, 0, none⟩ : Addr).add j) = some u := by
      intro W hW j u hu
      rw [add_plain, Nat.zero_add]
      simpa [World.cell?, hW] using hu
    have hk1 : Nat.min 1 (n + 1 - i) = 1 := Nat.min_eq_left (by omega)
    have hxl : (encI x).length = 1 * 1 := by rw [encI_len]
    have hx1 : ∀ u ∈ encI x, u.oneCell' = true := by
      have h := oneI [x]
      simpa using h
    have hsrcB : ∀ (W : World), W.heap[g]? = some (.cells cur.toArray 3 (0, 0)) → ∀ (j : Nat) (u : Value), ((xs.drop i).flatMap encI)[j]? = some u → W.cell? ((⟨g, i, none⟩ : Addr).add j) = some u := by
      intro W hW j u hu
      rw [add_plain]
      have h := hob j u hu
      rw [Nat.mul_one] at h
      simpa [World.cell?, hW] using h
    by_cases hroom : n + 1 ≤ c
    · have hsh : (splice (splice cur (i + 1) ((xs.drop i).flatMap encI)) (i) (encI x)).take ((n + 1) * 1) = (xs.take i).flatMap encI ++ encI x ++ (xs.drop i).flatMap encI := by
        have h := shift_one (cur := cur) (x := encI x) (i := i) (n := n) (s := 1) hct hla hlb (encI_len x) hi (by rw [hcl]; exact Nat.mul_le_mul_right _ hroom)
        simp only [Nat.mul_one] at h ⊢
        exact h
      have HSh := aside hsh
      have HFl := aside hflat
      have hcn : c ≤ 9223372036854775807 := by unfold maxLen at hcm; omega
      have n1 : ¬ c = i := by omega
      have n2 : ¬ c = i + 1 := by omega
      have HOv : ∀ o lb cb, (callFunc 45 #[.slice (some ⟨vb, 0, none⟩) 1 1, .slice (some ⟨g, o, none⟩) lb cb]).run Tryd.prog w = .ok (.value (.bool false)) w := fun o lb cb => overI vb g w x hv hvg hg (by rw [hcl]; omega) o lb cb
      have hk2 : Nat.min (n + 1 - i) (n - i) = n - i := Nat.min_eq_right (by omega)
      have hf1 : i + 1 + ((xs.drop i).flatMap encI).length ≤ cur.length := by rw [hlb]; omega
      have hl1 : (splice cur (i + 1) ((xs.drop i).flatMap encI)).length = cur.length := length_splice _ _ _ hf1
      have hf2 : i + (encI x).length ≤ (splice cur (i + 1) ((xs.drop i).flatMap encI)).length := by rw [hl1, hxl]; omega
      have HC1 : Hid (∀ (o : Oper) (ops : Array Oper) (a : Act) (K : Act → World → Prop) (Q : Exit → Act → World → Prop) (E : Prop) (d s : Operand), o.guard = none → o.op = .call { callee := .builtin .copy, args := #[d, s], argTypes := #[23, 23] } →
          a.eval d = .slice (some ⟨g, i + 1, none⟩) (n - i) (c - (i + 1)) → a.eval s = .slice (some ⟨g, i, none⟩) (n + 1 - i) (c - i) →
          K (a.put o.dst (goInt ((n - i : Nat) : Int))) (w.drew.setRow g (splice cur (i + 1) ((xs.drop i).flatMap encI)).toArray) → if Region.wanted o (yielded ops a.tmps) = true then Oper.wp Tryd.prog o a w.drew K Q else E) :=
        aside (fun o ops a K Q E d s h1 h2 h3 h4 h5 => step_copy_sz h1 d s 23 23 h2 3 1 Tryd.underlying23 sizeI g (i + 1) (n - i) (c - (i + 1)) ⟨g, i, none⟩ (n + 1 - i) (c - i) h3 h4 cur 3 hg ((xs.drop i).flatMap encI) (n - i) hk2 hlb (hsrcB w.drew hg) hf1 (oneI (xs.drop i)) h5)
      have hg1 : (w.drew.setRow g (splice cur (i + 1) ((xs.drop i).flatMap encI)).toArray).heap[g]? = some (.cells (splice cur (i + 1) ((xs.drop i).flatMap encI)).toArray 3 (0, 0)) := setRow_heap w.drew g _ _ _ _ hg
      have hv1 : (w.drew.setRow g (splice cur (i + 1) ((xs.drop i).flatMap encI)).toArray).heap[vb]? = some (.cells (encI x).toArray 3 (0, 0)) := (setRow_other w.drew g vb _ hvg).trans hv
      have hg2 := setRow_heap _ g _ (splice (splice cur (i + 1) ((xs.drop i).flatMap encI)) (i) (encI x)).toArray _ _ hg1
      have HB : Hid (Below base w ((w.drew.setRow g (splice cur (i + 1) ((xs.drop i).flatMap encI)).toArray).setRow g (splice (splice cur (i + 1) ((xs.drop i).flatMap encI)) (i) (encI x)).toArray)) := aside (below_setRow (below_setRow (below_drawn (Below.refl _ _) 1) hbg _) hbg _)
      have HGr : Hid (Grew w ((w.drew.setRow g (splice cur (i + 1) ((xs.drop i).flatMap encI)).toArray).setRow g (splice (splice cur (i + 1) ((xs.drop i).flatMap encI)) (i) (encI x)).toArray) (.slice (some ⟨g, 0, none⟩) n c) (.slice (some ⟨g, 0, none⟩) (n + 1) c)) :=
        aside ⟨grown_trans (w1 := w.drew.setRow g _) ⟨rfl, rfl, rfl, by simp [World.setRow], fun k _ hk => setRow_other w.drew g k _ (fun e => hk (by rw [e]; rfl))⟩ (grown_row g _), .inl rfl⟩
      have HOw : Hid (OwnI ((w.drew.setRow g (splice cur (i + 1) ((xs.drop i).flatMap encI)).toArray).setRow g (splice (splice cur (i + 1) ((xs.drop i).flatMap encI)) (i) (encI x)).toArray) base (.slice (some ⟨g, 0, none⟩) (n + 1) c) (n + 1) (xs.take i ++ x :: xs.drop i)) :=
        aside (own_shut hbg hg2 hroom hcm (by rw [length_splice _ _ _ hf2, hl1, hcl]) (hsh.trans hflat.symm))
      have HC2 : Hid (∀ (o : Oper) (ops : Array Oper) (rest : List Oper) (a : Act) (Q : Exit → Act → World → Prop) (d s : Operand), o.guard = none → o.op = .call { callee := .builtin .copy, args := #[d, s], argTypes := #[23, 23] } →
          a.eval d = .slice (some ⟨g, i, none⟩) (n + 1 - i) (c - i) → a.eval s = .slice (some ⟨vb, 0, none⟩) 1 1 →
          wpList Tryd.prog ops Q rest (a.put o.dst (goInt 1)) ((w.drew.setRow g (splice cur (i + 1) ((xs.drop i).flatMap encI)).toArray).setRow g (splice (splice cur (i + 1) ((xs.drop i).flatMap encI)) (i) (encI x)).toArray) →
          wpList Tryd.prog ops Q (o :: rest) a (w.drew.setRow g (splice cur (i + 1) ((xs.drop i).flatMap encI)).toArray)) :=
        aside (fun o ops rest a Q d s h1 h2 h3 h4 h5 => wpList_copy_sz h1 d s 23 23 h2 3 1 Tryd.underlying23 sizeI g (i) (n + 1 - i) (c - i) ⟨vb, 0, none⟩ 1 1 h3 h4 _ 3 hg1 (encI x) 1 hk1 hxl (hvc _ hv1) hf2 hx1 h5)
      generalize splice (splice cur (i + 1) ((xs.drop i).flatMap encI)) (i) (encI x) = R2 at HB HGr HOw HC2
      generalize splice cur (i + 1) ((xs.drop i).flatMap encI) = R1 at HC1 HB HGr HOw HC2
      clear hown hv hvb hsplit hcells hob hoa hres hflat hsh hln hvl hgl hla hlb hct hcl hin hcb HV2 hvc hk1 hxl hx1 hsrcB hk2 hf1 hl1 hf2 hg1 hv1 hg2 hg
      go_enter Tryd.func33, Tryd.ntmps33
      go_wp2_with (simp only [HOv])
      have hw1 : IntKind.i64.wrap ((i : Int) + 1) = (i : Int) + 1 := by rw [IntKind.wrap_i64]; omega
      have hb1 : (0 : Int) ≤ (i : Int) + 1 := by omega
      have hin : i ≤ n := by omega
      have htn : ((i : Int) + 1).toNat = i + 1 := by omega
      have hb3 : (i : Int) ≤ (n : Int) + 1 := by omega
      go_region_law (refine HC1.out _ _ _ _ _ _ (.tmp 73) (.tmp 76) rfl rfl (by simp [Act.eval, Act.put]) (by simp [Act.eval, Act.put]) ?_)
      go_wp2_with (refine HC2.out _ _ _ _ _ (.tmp 80) (.tmp 81) rfl rfl (by simp [Act.eval]) (by simp [Act.eval]) ?_)
      go_ret
      exact ⟨_, _, rfl, HOw.out, HB.out, HGr.out⟩
    · obtain ⟨i0, hi0, hz0, hzs, hzb⟩ := info_parts infoI
      have hz3 : (c : Int) < (n : Int) + 1 := by omega
      have hkk : (n : Int) + 1 - (i : Int) = ((n + 1 - i : Nat) : Int) := by omega
      have hik : i + (n + 1 - i) = n + 1 := by omega
      have hold : (Builtin.firstCells i0.size i (.slice (some ⟨g, 0, none⟩) i c)).run Tryd.prog w.drew = .ok ((xs.take i).flatMap encI).toArray w.drew := by
        rw [hzs]
        exact run_firstCells_some w.drew 1 i ⟨g, 0, none⟩ i c ((xs.take i).flatMap encI) hla (fun j v hj => by
          rw [Addr.add_lit, Nat.zero_add]
          exact hcells j v (hoa j v hj))
      have hrz : ∀ ty, (Builtin.append_ #[23, 3] ty #[.slice (some ⟨g, 0, none⟩) i c, .int .i64 ((n : Int) + 1 - (i : Int))]).run Tryd.prog w =
          .ok (.slice (some ⟨w.heap.size, 0, none⟩) (n + 1) (grownCap w (n + 1) c 3)) (w.drew.alloc (.cells (((xs.take i).flatMap encI).toArray ++ Builtin.zeroCells ((.int .i64 0) : Value).cells (n + 1 - i) ++ Builtin.zeroCells ((.int .i64 0) : Value).cells (grownCap w (n + 1) c 3 - (n + 1))) 3)) := fun ty => by
        have h := Lib.run_append_grow_zeros w 23 3 ty 3 i0 _ .i64 .i64 Tryd.underlying23 Tryd.underlying3 hi0 hz0 (some ⟨g, 0, none⟩) i c ((xs.take i).flatMap encI) hold (n + 1 - i) (by omega) (by omega) (by omega) (by omega) (by rw [hzb]; omega) (by rw [hzb, hik]; exact growslice_fits (by omega) (by omega))
        rw [hik] at h
        rw [hkk]
        exact h
      have hGn : n + 1 ≤ grownCap w (n + 1) c 3 := grownCap_ge w _ _ _
      have hGm : grownCap w (n + 1) c 3 ≤ maxLen := grownCap_le_maxLen w (n + 1) c 3 (by unfold maxLen; omega)
      have hzl : ∀ q, (Builtin.zeroCells ((.int .i64 0) : Value).cells q).size = q * 1 := fun q => by simp [Builtin.zeroCells, Value.cells]
      obtain ⟨cur2, hcur2⟩ : ∃ l : List Value, l = (xs.take i).flatMap encI ++ (Builtin.zeroCells ((.int .i64 0) : Value).cells (n + 1 - i)).toList ++ (Builtin.zeroCells ((.int .i64 0) : Value).cells (grownCap w (n + 1) c 3 - (n + 1))).toList := ⟨_, rfl⟩
      have hrow : ((xs.take i).flatMap encI).toArray ++ Builtin.zeroCells ((.int .i64 0) : Value).cells (n + 1 - i) ++ Builtin.zeroCells ((.int .i64 0) : Value).cells (grownCap w (n + 1) c 3 - (n + 1)) = cur2.toArray := by
        rw [hcur2]
        apply Array.ext'
        simp
      have hc2l : cur2.length = grownCap w (n + 1) c 3 * 1 := by
        rw [hcur2]
        simp only [List.length_append, Array.length_toList, hzl, hla]
        generalize grownCap w (n + 1) c 3 = G at hGn
        omega
      have hc2t : cur2.take (i * 1) = (xs.take i).flatMap encI := by rw [hcur2, List.append_assoc, List.take_left' hla]
      rw [hrow] at hrz
      generalize grownCap w (n + 1) c 3 = G at hrz hGn hGm hc2l
      clear hcur2 hrow hzl hold
      have hG63 : G ≤ 9223372036854775807 := by unfold maxLen at hGm; omega
      have hf1 : i + (encI x).length ≤ cur2.length := by rw [hc2l, hxl]; omega
      have hl1 : (splice cur2 (i) (encI x)).length = cur2.length := length_splice _ _ _ hf1
      have hf2 : i + 1 + ((xs.drop i).flatMap encI).length ≤ (splice cur2 (i) (encI x)).length := by rw [hl1, hlb, hc2l]; omega
      have hsh : (splice (splice cur2 (i) (encI x)) (i + 1) ((xs.drop i).flatMap encI)).take ((n + 1) * 1) = (xs.take i).flatMap encI ++ encI x ++ (xs.drop i).flatMap encI := by
        have h := grow_one (cur := cur2) (x := encI x) (i := i) (n := n) (s := 1) hc2t hlb (encI_len x) hi (by rw [hc2l]; exact Nat.mul_le_mul_right _ hGn)
        simp only [Nat.mul_one] at h ⊢
        exact h
      obtain ⟨N, hN⟩ : ∃ N, N = w.heap.size := ⟨_, rfl⟩
      have hgN : g ≠ N := by omega
      have hvN : vb ≠ N := by omega
      have hgd : (w.alloc (.cells cur2.toArray 3)).drew.heap[N]? = some (.cells cur2.toArray 3 (0, 0)) := by rw [hN]; exact heap_alloc_new w _
      have hg1 : ((w.alloc (.cells cur2.toArray 3)).drew.setRow N (splice cur2 (i) (encI x)).toArray).heap[N]? = some (.cells (splice cur2 (i) (encI x)).toArray 3 (0, 0)) := setRow_heap _ N _ _ _ _ hgd
      have hvd : (w.alloc (.cells cur2.toArray 3)).drew.heap[vb]? = some (.cells (encI x).toArray 3 (0, 0)) := (Below.heap_alloc w _ vb hvl).trans hv
      have hsd : ((w.alloc (.cells cur2.toArray 3)).drew.setRow N (splice cur2 (i) (encI x)).toArray).heap[g]? = some (.cells cur.toArray 3 (0, 0)) := (setRow_other _ N g _ hgN).trans ((Below.heap_alloc w _ g hgl).trans hg)
      have hk2 : Nat.min (n - i) (n - i) = n - i := Nat.min_self _
      have HC1 : Hid (∀ (o : Oper) (ops : Array Oper) (rest : List Oper) (a : Act) (Q : Exit → Act → World → Prop) (d s : Operand), o.guard = none → o.op = .call { callee := .builtin .copy, args := #[d, s], argTypes := #[23, 23] } →
          a.eval d = .slice (some ⟨N, i, none⟩) (n + 1 - i) (G - i) → a.eval s = .slice (some ⟨vb, 0, none⟩) 1 1 →
          wpList Tryd.prog ops Q rest (a.put o.dst (goInt 1)) ((w.alloc (.cells cur2.toArray 3)).drew.setRow N (splice cur2 (i) (encI x)).toArray) →
          wpList Tryd.prog ops Q (o :: rest) a (w.alloc (.cells cur2.toArray 3)).drew) :=
        aside (fun o ops rest a Q d s h1 h2 h3 h4 h5 => wpList_copy_sz h1 d s 23 23 h2 3 1 Tryd.underlying23 sizeI N (i) (n + 1 - i) (G - i) ⟨vb, 0, none⟩ 1 1 h3 h4 cur2 3 hgd (encI x) 1 hk1 hxl (hvc _ hvd) hf1 hx1 h5)
      have HC2 : Hid (∀ (o : Oper) (ops : Array Oper) (a : Act) (K : Act → World → Prop) (Q : Exit → Act → World → Prop) (E : Prop) (d s : Operand), o.guard = none → o.op = .call { callee := .builtin .copy, args := #[d, s], argTypes := #[23, 23] } →
          a.eval d = .slice (some ⟨N, i + 1, none⟩) (n - i) (G - (i + 1)) → a.eval s = .slice (some ⟨g, i, none⟩) (n - i) (c - i) →
          K (a.put o.dst (goInt ((n - i : Nat) : Int))) (((w.alloc (.cells cur2.toArray 3)).drew.setRow N (splice cur2 (i) (encI x)).toArray).drew.setRow N (splice (splice cur2 (i) (encI x)) (i + 1) ((xs.drop i).flatMap encI)).toArray) →
          if Region.wanted o (yielded ops a.tmps) = true then Oper.wp Tryd.prog o a ((w.alloc (.cells cur2.toArray 3)).drew.setRow N (splice cur2 (i) (encI x)).toArray).drew K Q else E) :=
        aside (fun o ops a K Q E d s h1 h2 h3 h4 h5 => step_copy_sz h1 d s 23 23 h2 3 1 Tryd.underlying23 sizeI N (i + 1) (n - i) (G - (i + 1)) ⟨g, i, none⟩ (n - i) (c - i) h3 h4 _ 3 hg1 ((xs.drop i).flatMap encI) (n - i) hk2 hlb (hsrcB _ hsd) hf2 (oneI (xs.drop i)) h5)
      have hg2 := setRow_heap (((w.alloc (.cells cur2.toArray 3)).drew.setRow N (splice cur2 (i) (encI x)).toArray).drew) N _ (splice (splice cur2 (i) (encI x)) (i + 1) ((xs.drop i).flatMap encI)).toArray _ _ hg1
      have hbN : base ≤ N := by omega
      have HB : Hid (Below base w (((w.alloc (.cells cur2.toArray 3)).drew.setRow N (splice cur2 (i) (encI x)).toArray).drew.setRow N (splice (splice cur2 (i) (encI x)) (i + 1) ((xs.drop i).flatMap encI)).toArray)) :=
        aside (below_setRow (below_drawn (below_setRow (below_drawn ((Below.refl _ _).alloc hbase _) 1) hbN _) 1) hbN _)
      have HGr : Hid (Grew w (((w.alloc (.cells cur2.toArray 3)).drew.setRow N (splice cur2 (i) (encI x)).toArray).drew.setRow N (splice (splice cur2 (i) (encI x)) (i + 1) ((xs.drop i).flatMap encI)).toArray) (.slice (some ⟨g, 0, none⟩) n c) (.slice (some ⟨N, 0, none⟩) (n + 1) G)) :=
        aside ⟨⟨rfl, rfl, rfl, by simp [World.setRow], fun k hk _ => (setRow_other _ N k _ (by omega)).trans ((setRow_other _ N k _ (by omega)).trans (Below.heap_alloc w _ k hk))⟩, .inr ⟨N, rfl, by omega⟩⟩
      have HOw : Hid (OwnI (((w.alloc (.cells cur2.toArray 3)).drew.setRow N (splice cur2 (i) (encI x)).toArray).drew.setRow N (splice (splice cur2 (i) (encI x)) (i + 1) ((xs.drop i).flatMap encI)).toArray) base (.slice (some ⟨N, 0, none⟩) (n + 1) G) (n + 1) (xs.take i ++ x :: xs.drop i)) :=
        aside (own_shut hbN hg2 hGn hGm (by rw [length_splice _ _ _ hf2, hl1, hc2l]) (hsh.trans hflat.symm))
      generalize splice (splice cur2 (i) (encI x)) (i + 1) ((xs.drop i).flatMap encI) = R2 at HB HGr HOw HC2
      generalize splice cur2 (i) (encI x) = R1 at HC1 HB HGr HOw HC2
      rw [← hN] at hrz
      clear hown hv hvb hsplit hcells hob hoa hres hflat hsh hln hvl hgl hla hlb hct hcl hin hcb HV2 hvc hk1 hxl hx1 hsrcB hf1 hl1 hf2 hg1 hg2 hg hgd hvd hsd hc2l hc2t hik hi0 hz0 hzs hzb hroom hkk HV hk2 hN hbN
      have hGi : ¬ G = i := by omega
      have hGi1 : ¬ G = i + 1 := by omega
      have hci : ¬ c = i := by omega
      have hw1 : IntKind.i64.wrap ((i : Int) + 1) = (i : Int) + 1 := by rw [IntKind.wrap_i64]; omega
      have hb1 : (0 : Int) ≤ (i : Int) + 1 := by omega
      have hin : i ≤ n := by omega
      have htn : ((i : Int) + 1).toNat = i + 1 := by omega
      have hb3 : (i : Int) ≤ (n : Int) := by omega
      go_enter Tryd.func33, Tryd.ntmps33
      go_wp2_with (first
        | (at_builtin; refine Lib.wpList_append_run _ rfl (.tmp 34) (.tmp 39) _ _ rfl _ _ rfl rfl _ _ (hrz _) ?_)
        | (refine HC1.out _ _ _ _ _ (.tmp 43) (.tmp 44) rfl rfl (by simp [Act.eval]) (by simp [Act.eval]) ?_))
      go_region_law (refine HC2.out _ _ _ _ _ _ (.tmp 50) (.tmp 53) rfl rfl (by simp [Act.eval, Act.put]) (by simp [Act.eval, Act.put]) ?_)
      go_wp2_with fail
      go_ret
      exact ⟨_, _, rfl, HOw.out, HB.out, HGr.out⟩

theorem infoP : (Tryd.prog.info? 46).map (fun i => (i.zero, i.size, i.bytes)) = some (some (.agg #[.int .i64 0, .int .i64 0]), 2, 16) := by kernel_rfl
theorem sizeP : (Tryd.prog.info? 46).map (·.size) = some 2 := by kernel_rfl
abbrev OwnP (w : World) (base : Nat) (v : Value) (n : Nat) (xs : List (Int × Int)) : Prop := w.ownsRow base 46 2 v n (xs.flatMap encP)
theorem oneP (xs : List (Int × Int)) : ∀ u ∈ xs.flatMap encP, u.oneCell' = true := by
  intro u hu
  obtain ⟨x, -, hx⟩ := List.mem_flatMap.1 hu
  simp only [encP, List.mem_cons, List.not_mem_nil, or_false] at hx
  rcases hx with rfl | rfl <;> rfl
theorem ownP_split {w : World} {base n : Nat} {v : Value} {xs ys : List (Int × Int)} (h : w.ownsRow base 46 2 v n (xs.flatMap encP ++ ys.flatMap encP)) : OwnP w base v n (xs ++ ys) := by
  unfold OwnP
  rw [List.flatMap_append]
  exact h
set_option maxRecDepth 100000 in
theorem cloneP_any (xs : List (Int × Int)) (A : Option Addr) (n c : Nat) (w : World) (h : FSl encP 2 w w.heap.size A n xs) (hn : n ≤ 1000) :
    Calls Tryd.prog 40 #[.slice A n c] w (fun e w' => ∃ A' c', e = .returned (.slice A' n c') ∧ OwnP w' w.heap.size (.slice A' n c') n xs ∧ Below w.heap.size w w') := by
  have q22 : ∀ (w : World) (a : Option Addr) (n c n' c' : Nat), (binOp .eql 22 (.slice a n c) (.slice none n' c')).run Tryd.prog w = .ok (.bool a.isNone) w := fun w a n c n' c' => Lib.run_eql_slice_nil w _ _ a n c n' c' Tryd.underlying22
  have hln := FSl.len encP_len (by decide) h
  cases A with
  | none =>
    have h0 : n = 0 := by
      rcases Nat.eq_zero_or_pos n with h0 | h0
      · exact h0
      · obtain ⟨_, _, e, _⟩ := Sl.cells h h0
        cases e
    subst h0
    have hx : xs = [] := List.eq_nil_of_length_eq_zero hln
    subst hx
    clear h hln
    go_enter Tryd.func40, Tryd.ntmps40
    go_wp2_with fail
    go_ret
    exact ⟨none, 0, rfl, ⟨rfl, .inl ⟨rfl, rfl⟩⟩, Below.refl _ _⟩
  | some ad =>
    have HSl : Hid (FSl encP 2 (w.alloc (.cells #[] 46)) w.heap.size (some ad) n xs) := aside (FSl.below h ((Below.refl _ _).alloc (Nat.le_refl _) _))
    have HO : Hid ((w.alloc (.cells #[] 46)).ownsRow w.heap.size 46 2 (.slice (some ⟨w.heap.size, 0, none⟩) 0 0) 0 []) := aside (World.ownsRow_made (base := w.heap.size) w #[] 0 (Nat.le_refl _) (by decide) rfl)
    have H1 := aside (oneP xs)
    clear h hln
    go_enter Tryd.func40, Tryd.ntmps40
    go_wp2_with (first
      | (at_builtin; refine wpList_concat rfl (.tmp 5) (.tmp 6) 22 rfl w.heap.size (.agg #[.int .i64 0, .int .i64 0]) 2 16 Tryd.underlying22 infoP rfl (by decide) _ 0 [] rfl HO.out w.heap.size (some ad) n c _ rfl HSl.out H1.out (by omega) (by unfold maxLen; omega) (by simp) ?_; intro G2 c2 w2 hc2 hc2' hown hb2 _; simp only [Nat.zero_add, List.nil_append] at hown hc2; have HO2 := aside hown; have HB2 : Hid (Below w.heap.size w w2) := aside (((Below.refl _ _).alloc (Nat.le_refl _) _).trans hb2); clear hown hb2)
      | fail)
    go_ret
    exact ⟨G2, c2, rfl, HO2.out, HB2.out⟩

/-- One is laid between, where there is no place behind. -/
theorem overP (vb g : Nat) (w : World) (x : (Int × Int)) (hv : w.heap[vb]? = some (.cells (encP x).toArray 46 (0, 0))) (hvb : vb ≠ g) {cur : List Value} (hg : w.heap[g]? = some (.cells cur.toArray 46 (0, 0))) (hc : cur.length ≠ 0) (o lb cb : Nat) :
    (callFunc 62 #[.slice (some ⟨vb, 0, none⟩) 1 1, .slice (some ⟨g, o, none⟩) lb cb]).run Tryd.prog w = .ok (.value (.bool false)) w := by
  have hz : ∀ w, (Go.sizeOf 46).run Tryd.prog w = .ok 2 w := fun w => by kernel_rfl
  rw [run_callFunc_extern Tryd.func62 (by kernel_rfl) (by kernel_rfl) (by kernel_rfl) (e := Extern.SlicesOverlaps.overlaps #[22, 22] #[4]) (by kernel_rfl),
    Lib.run_overlaps_apart w 22 4 46 Tryd.underlying22 2 hz ⟨vb, 0, none⟩ ⟨g, o, none⟩ 1 1 lb cb hvb 46 46 2 cur.length (by simp [World.shape?, hv, encP]) (by simp [World.shape?, hg]) hc (by simp [World.frozen?, hv]) (by simp [World.frozen?, hv])]
  rfl
set_option maxHeartbeats 2000000 in
set_option maxRecDepth 100000 in
theorem insertP_any (xs : List (Int × Int)) (x : (Int × Int)) (i n : Nat) (hi : i ≤ n) (A : Option Addr) (c base vb : Nat) (w : World) (hown : OwnP w base (.slice A n c) n xs) (hv : w.heap[vb]? = some (.cells (encP x).toArray 46 (0, 0))) (hvb : ∀ g o s, A = some ⟨g, o, s⟩ → vb ≠ g) (hn : n ≤ 1000) (hbase : base ≤ w.heap.size) :
    Calls Tryd.prog 47 #[.slice A n c, .int .i64 i, .slice (some ⟨vb, 0, none⟩) 1 1] w (fun e w' => ∃ A' c', e = .returned (.slice A' (n + 1) c') ∧ OwnP w' base (.slice A' (n + 1) c') (n + 1) (xs.take i ++ x :: xs.drop i) ∧ Below base w w' ∧ Grew w w' (.slice A n c) (.slice A' (n + 1) c')) := by
  have hln : xs.length = n := by
    have := hown.1
    rw [flat_len encP_len] at this
    omega
  have hvl := (Array.getElem?_eq_some_iff.1 hv).1
  have HV : Hid (FSl encP 2 w w.heap.size (some ⟨vb, 0, none⟩) 1 [x]) := aside (by
    refine ⟨by simp [encP_len], fun _ => ⟨vb, 0, rfl, hvl, fun j u hu => ?_⟩⟩
    have e : ([x] : List (Int × Int)).flatMap encP = encP x := by simp
    rw [e] at hu
    rw [Nat.zero_add]
    simpa [World.cell?, hv] using hu)
  have e1 : ((1 : Int) == 0) = false := by decide
  by_cases hin : i = n
  · subst hin
    have HT : Hid (xs.take i ++ x :: xs.drop i = xs ++ [x]) := aside (by rw [← hln, List.take_length, List.drop_length])
    have HO := aside hown
    have H1 := aside (oneP [x])
    clear hown hv hvb hln hvl
    by_cases hci : c = i
    all_goals
      (first
        | (have hcp : (c = i) = True := eq_true hci
           clear hci)
        | (have hcp : (c = i) = False := eq_false hci
           clear hci))
      go_enter Tryd.func47, Tryd.ntmps47
      go_wp2_with (first
        | (at_builtin; refine wpList_concat rfl (.tmp 23) (.tmp 24) 22 rfl base (.agg #[.int .i64 0, .int .i64 0]) 2 16 Tryd.underlying22 infoP rfl (by decide) _ i _ rfl HO.out w.heap.size _ 1 1 _ rfl HV.out H1.out (by omega) (by unfold maxLen; omega) hbase ?_; intro G2 c2 w2 hc2 hc2' hown hb2 hg2; have HO2 : Hid (OwnP w2 base (.slice G2 (i + 1) c2) (i + 1) (xs ++ [x])) := aside (ownP_split hown); have HB2 := aside hb2; have HG2 : Hid (Grew w w2 (.slice A i c) (.slice G2 (i + 1) c2)) := aside hg2; clear hown hb2 hg2)
        | fail)
      go_ret
      exact ⟨G2, c2, rfl, by rw [HT.out]; exact HO2.out, HB2.out, HG2.out⟩
  · have hlt : i < n := by omega
    obtain ⟨g, cur, rfl, hbg, hg, hnc, hcm, hcl, hct⟩ := own_open hown (.inl (by omega))
    have hvg : vb ≠ g := hvb g 0 none rfl
    have hgl := (Array.getElem?_eq_some_iff.1 hg).1
    have e2 : ((i : Int) == (n : Int)) = false := by simp only [beq_eq_false_iff_ne, ne_eq]; omega
    have hsplit : xs.flatMap encP = (xs.take i).flatMap encP ++ (xs.drop i).flatMap encP := by rw [← List.flatMap_append, List.take_append_drop]
    have hla : ((xs.take i).flatMap encP).length = i * 2 := by rw [flat_len encP_len, List.length_take]; omega
    have hlb : ((xs.drop i).flatMap encP).length = (n - i) * 2 := by rw [flat_len encP_len, List.length_drop, hln]
    have hcells : ∀ (j : Nat) (u : Value), cur[j]? = some u → w.cell? ⟨g, j, none⟩ = some u := fun j u hu => by simpa [World.cell?, hg] using hu
    rw [hsplit] at hct
    have hob : ∀ (j : Nat) (u : Value), ((xs.drop i).flatMap encP)[j]? = some u → cur[i * 2 + j]? = some u := by
      intro j u hu
      have hj := (List.getElem?_eq_some_iff.1 hu).1
      have h := congrArg (·[i * 2 + j]?) hct
      simp only [List.getElem?_take] at h
      rw [if_pos (by omega), List.getElem?_append_right (by omega), hla, Nat.add_sub_cancel_left, hu] at h
      exact h
    have hoa : ∀ (j : Nat) (u : Value), ((xs.take i).flatMap encP)[j]? = some u → cur[j]? = some u := by
      intro j u hu
      have hj := (List.getElem?_eq_some_iff.1 hu).1
      have h := congrArg (·[j]?) hct
      simp only [List.getElem?_take] at h
      rw [if_pos (by omega), List.getElem?_append_left (by omega), hu] at h
      exact h
    have hres : xs.take i ++ x :: xs.drop i = xs.take i ++ [x] ++ xs.drop i := by simp
    have hflat : (xs.take i ++ x :: xs.drop i).flatMap encP = (xs.take i).flatMap encP ++ encP x ++ (xs.drop i).flatMap encP := by
      rw [hres, List.flatMap_append, List.flatMap_append]
      simp
    have hcb : c * 2 = cur.length := hcl.symm
    have HV2 := HV.out
    have hvc : ∀ (W : World), W.heap[vb]? = some (.cells (encP x).toArray 46 (0, 0)) → ∀ (j : Nat) (u : Value), (encP x)[j]? = some u → W.cell? ((⟨vb, 0, none⟩ : Addr).add j) = some u := by
      intro W hW j u hu
      rw [add_plain, Nat.zero_add]
      simpa [World.cell?, hW] using hu
    have hk1 : Nat.min 1 (n + 1 - i) = 1 := Nat.min_eq_left (by omega)
    have hxl : (encP x).length = 1 * 2 := by rw [encP_len]
    have hx1 : ∀ u ∈ encP x, u.oneCell' = true := by
      have h := oneP [x]
      simpa using h
    have hsrcB : ∀ (W : World), W.heap[g]? = some (.cells cur.toArray 46 (0, 0)) → ∀ (j : Nat) (u : Value), ((xs.drop i).flatMap encP)[j]? = some u → W.cell? ((⟨g, i * 2, none⟩ : Addr).add j) = some u := by
      intro W hW j u hu
      rw [add_plain]
      have h := hob j u hu
      skip
      simpa [World.cell?, hW] using h
    by_cases hroom : n + 1 ≤ c
    · have hsh : (splice (splice cur ((i + 1) * 2) ((xs.drop i).flatMap encP)) (i * 2) (encP x)).take ((n + 1) * 2) = (xs.take i).flatMap encP ++ encP x ++ (xs.drop i).flatMap encP := by
        have h := shift_one (cur := cur) (x := encP x) (i := i) (n := n) (s := 2) hct hla hlb (encP_len x) hi (by rw [hcl]; exact Nat.mul_le_mul_right _ hroom)
        skip
        exact h
      have HSh := aside hsh
      have HFl := aside hflat
      have hcn : c ≤ 9223372036854775807 := by unfold maxLen at hcm; omega
      have n1 : ¬ c = i := by omega
      have n2 : ¬ c = i + 1 := by omega
      have HOv : ∀ o lb cb, (callFunc 62 #[.slice (some ⟨vb, 0, none⟩) 1 1, .slice (some ⟨g, o, none⟩) lb cb]).run Tryd.prog w = .ok (.value (.bool false)) w := fun o lb cb => overP vb g w x hv hvg hg (by rw [hcl]; omega) o lb cb
      have hk2 : Nat.min (n + 1 - i) (n - i) = n - i := Nat.min_eq_right (by omega)
      have hf1 : (i + 1) * 2 + ((xs.drop i).flatMap encP).length ≤ cur.length := by rw [hlb]; omega
      have hl1 : (splice cur ((i + 1) * 2) ((xs.drop i).flatMap encP)).length = cur.length := length_splice _ _ _ hf1
      have hf2 : i * 2 + (encP x).length ≤ (splice cur ((i + 1) * 2) ((xs.drop i).flatMap encP)).length := by rw [hl1, hxl]; omega
      have HC1 : Hid (∀ (o : Oper) (ops : Array Oper) (a : Act) (K : Act → World → Prop) (Q : Exit → Act → World → Prop) (E : Prop) (d s : Operand), o.guard = none → o.op = .call { callee := .builtin .copy, args := #[d, s], argTypes := #[22, 22] } →
          a.eval d = .slice (some ⟨g, (i + 1) * 2, none⟩) (n - i) (c - (i + 1)) → a.eval s = .slice (some ⟨g, i * 2, none⟩) (n + 1 - i) (c - i) →
          K (a.put o.dst (goInt ((n - i : Nat) : Int))) (w.drew.setRow g (splice cur ((i + 1) * 2) ((xs.drop i).flatMap encP)).toArray) → if Region.wanted o (yielded ops a.tmps) = true then Oper.wp Tryd.prog o a w.drew K Q else E) :=
        aside (fun o ops a K Q E d s h1 h2 h3 h4 h5 => step_copy_sz h1 d s 22 22 h2 46 2 Tryd.underlying22 sizeP g ((i + 1) * 2) (n - i) (c - (i + 1)) ⟨g, i * 2, none⟩ (n + 1 - i) (c - i) h3 h4 cur 46 hg ((xs.drop i).flatMap encP) (n - i) hk2 hlb (hsrcB w.drew hg) hf1 (oneP (xs.drop i)) h5)
      have hg1 : (w.drew.setRow g (splice cur ((i + 1) * 2) ((xs.drop i).flatMap encP)).toArray).heap[g]? = some (.cells (splice cur ((i + 1) * 2) ((xs.drop i).flatMap encP)).toArray 46 (0, 0)) := setRow_heap w.drew g _ _ _ _ hg
      have hv1 : (w.drew.setRow g (splice cur ((i + 1) * 2) ((xs.drop i).flatMap encP)).toArray).heap[vb]? = some (.cells (encP x).toArray 46 (0, 0)) := (setRow_other w.drew g vb _ hvg).trans hv
      have hg2 := setRow_heap _ g _ (splice (splice cur ((i + 1) * 2) ((xs.drop i).flatMap encP)) (i * 2) (encP x)).toArray _ _ hg1
      have HB : Hid (Below base w ((w.drew.setRow g (splice cur ((i + 1) * 2) ((xs.drop i).flatMap encP)).toArray).setRow g (splice (splice cur ((i + 1) * 2) ((xs.drop i).flatMap encP)) (i * 2) (encP x)).toArray)) := aside (below_setRow (below_setRow (below_drawn (Below.refl _ _) 1) hbg _) hbg _)
      have HGr : Hid (Grew w ((w.drew.setRow g (splice cur ((i + 1) * 2) ((xs.drop i).flatMap encP)).toArray).setRow g (splice (splice cur ((i + 1) * 2) ((xs.drop i).flatMap encP)) (i * 2) (encP x)).toArray) (.slice (some ⟨g, 0, none⟩) n c) (.slice (some ⟨g, 0, none⟩) (n + 1) c)) :=
        aside ⟨grown_trans (w1 := w.drew.setRow g _) ⟨rfl, rfl, rfl, by simp [World.setRow], fun k _ hk => setRow_other w.drew g k _ (fun e => hk (by rw [e]; rfl))⟩ (grown_row g _), .inl rfl⟩
      have HOw : Hid (OwnP ((w.drew.setRow g (splice cur ((i + 1) * 2) ((xs.drop i).flatMap encP)).toArray).setRow g (splice (splice cur ((i + 1) * 2) ((xs.drop i).flatMap encP)) (i * 2) (encP x)).toArray) base (.slice (some ⟨g, 0, none⟩) (n + 1) c) (n + 1) (xs.take i ++ x :: xs.drop i)) :=
        aside (own_shut hbg hg2 hroom hcm (by rw [length_splice _ _ _ hf2, hl1, hcl]) (hsh.trans hflat.symm))
      have HC2 : Hid (∀ (o : Oper) (ops : Array Oper) (rest : List Oper) (a : Act) (Q : Exit → Act → World → Prop) (d s : Operand), o.guard = none → o.op = .call { callee := .builtin .copy, args := #[d, s], argTypes := #[22, 22] } →
          a.eval d = .slice (some ⟨g, i * 2, none⟩) (n + 1 - i) (c - i) → a.eval s = .slice (some ⟨vb, 0, none⟩) 1 1 →
          wpList Tryd.prog ops Q rest (a.put o.dst (goInt 1)) ((w.drew.setRow g (splice cur ((i + 1) * 2) ((xs.drop i).flatMap encP)).toArray).setRow g (splice (splice cur ((i + 1) * 2) ((xs.drop i).flatMap encP)) (i * 2) (encP x)).toArray) →
          wpList Tryd.prog ops Q (o :: rest) a (w.drew.setRow g (splice cur ((i + 1) * 2) ((xs.drop i).flatMap encP)).toArray)) :=
        aside (fun o ops rest a Q d s h1 h2 h3 h4 h5 => wpList_copy_sz h1 d s 22 22 h2 46 2 Tryd.underlying22 sizeP g (i * 2) (n + 1 - i) (c - i) ⟨vb, 0, none⟩ 1 1 h3 h4 _ 46 hg1 (encP x) 1 hk1 hxl (hvc _ hv1) hf2 hx1 h5)
      generalize splice (splice cur ((i + 1) * 2) ((xs.drop i).flatMap encP)) (i * 2) (encP x) = R2 at HB HGr HOw HC2
      generalize splice cur ((i + 1) * 2) ((xs.drop i).flatMap encP) = R1 at HC1 HB HGr HOw HC2
      clear hown hv hvb hsplit hcells hob hoa hres hflat hsh hln hvl hgl hla hlb hct hcl hin hcb HV2 hvc hk1 hxl hx1 hsrcB hk2 hf1 hl1 hf2 hg1 hv1 hg2 hg
      go_enter Tryd.func47, Tryd.ntmps47
      go_wp2_with (simp only [HOv])
      have hw1 : IntKind.i64.wrap ((i : Int) + 1) = (i : Int) + 1 := by rw [IntKind.wrap_i64]; omega
      have hb1 : (0 : Int) ≤ (i : Int) + 1 := by omega
      have hin : i ≤ n := by omega
      have htn : ((i : Int) + 1).toNat = i + 1 := by omega
      have hb3 : (i : Int) ≤ (n : Int) + 1 := by omega
      go_region_law (refine HC1.out _ _ _ _ _ _ (.tmp 73) (.tmp 76) rfl rfl (by simp [Act.eval, Act.put]) (by simp [Act.eval, Act.put]) ?_)
      go_wp2_with (refine HC2.out _ _ _ _ _ (.tmp 80) (.tmp 81) rfl rfl (by simp [Act.eval]) (by simp [Act.eval]) ?_)
      go_ret
      exact ⟨_, _, rfl, HOw.out, HB.out, HGr.out⟩
    · obtain ⟨i0, hi0, hz0, hzs, hzb⟩ := info_parts infoP
      have hz3 : (c : Int) < (n : Int) + 1 := by omega
      have hkk : (n : Int) + 1 - (i : Int) = ((n + 1 - i : Nat) : Int) := by omega
      have hik : i + (n + 1 - i) = n + 1 := by omega
      have hold : (Builtin.firstCells i0.size i (.slice (some ⟨g, 0, none⟩) i c)).run Tryd.prog w.drew = .ok ((xs.take i).flatMap encP).toArray w.drew := by
        rw [hzs]
        exact run_firstCells_some w.drew 2 i ⟨g, 0, none⟩ i c ((xs.take i).flatMap encP) hla (fun j v hj => by
          rw [Addr.add_lit, Nat.zero_add]
          exact hcells j v (hoa j v hj))
      have hrz : ∀ ty, (Builtin.append_ #[22, 3] ty #[.slice (some ⟨g, 0, none⟩) i c, .int .i64 ((n : Int) + 1 - (i : Int))]).run Tryd.prog w =
          .ok (.slice (some ⟨w.heap.size, 0, none⟩) (n + 1) (grownCap w (n + 1) c 46)) (w.drew.alloc (.cells (((xs.take i).flatMap encP).toArray ++ Builtin.zeroCells ((.agg #[.int .i64 0, .int .i64 0]) : Value).cells (n + 1 - i) ++ Builtin.zeroCells ((.agg #[.int .i64 0, .int .i64 0]) : Value).cells (grownCap w (n + 1) c 46 - (n + 1))) 46)) := fun ty => by
        have h := Lib.run_append_grow_zeros w 22 3 ty 46 i0 _ .i64 .i64 Tryd.underlying22 Tryd.underlying3 hi0 hz0 (some ⟨g, 0, none⟩) i c ((xs.take i).flatMap encP) hold (n + 1 - i) (by omega) (by omega) (by omega) (by omega) (by rw [hzb]; omega) (by rw [hzb, hik]; exact growslice_fits (by omega) (by omega))
        rw [hik] at h
        rw [hkk]
        exact h
      have hGn : n + 1 ≤ grownCap w (n + 1) c 46 := grownCap_ge w _ _ _
      have hGm : grownCap w (n + 1) c 46 ≤ maxLen := grownCap_le_maxLen w (n + 1) c 46 (by unfold maxLen; omega)
      have hzl : ∀ q, (Builtin.zeroCells ((.agg #[.int .i64 0, .int .i64 0]) : Value).cells q).size = q * 2 := fun q => by simp [Builtin.zeroCells, Value.cells]
      obtain ⟨cur2, hcur2⟩ : ∃ l : List Value, l = (xs.take i).flatMap encP ++ (Builtin.zeroCells ((.agg #[.int .i64 0, .int .i64 0]) : Value).cells (n + 1 - i)).toList ++ (Builtin.zeroCells ((.agg #[.int .i64 0, .int .i64 0]) : Value).cells (grownCap w (n + 1) c 46 - (n + 1))).toList := ⟨_, rfl⟩
      have hrow : ((xs.take i).flatMap encP).toArray ++ Builtin.zeroCells ((.agg #[.int .i64 0, .int .i64 0]) : Value).cells (n + 1 - i) ++ Builtin.zeroCells ((.agg #[.int .i64 0, .int .i64 0]) : Value).cells (grownCap w (n + 1) c 46 - (n + 1)) = cur2.toArray := by
        rw [hcur2]
        apply Array.ext'
        simp
      have hc2l : cur2.length = grownCap w (n + 1) c 46 * 2 := by
        rw [hcur2]
        simp only [List.length_append, Array.length_toList, hzl, hla]
        generalize grownCap w (n + 1) c 46 = G at hGn
        omega
      have hc2t : cur2.take (i * 2) = (xs.take i).flatMap encP := by rw [hcur2, List.append_assoc, List.take_left' hla]
      rw [hrow] at hrz
      generalize grownCap w (n + 1) c 46 = G at hrz hGn hGm hc2l
      clear hcur2 hrow hzl hold
      have hG63 : G ≤ 9223372036854775807 := by unfold maxLen at hGm; omega
      have hf1 : i * 2 + (encP x).length ≤ cur2.length := by rw [hc2l, hxl]; omega
      have hl1 : (splice cur2 (i * 2) (encP x)).length = cur2.length := length_splice _ _ _ hf1
      have hf2 : (i + 1) * 2 + ((xs.drop i).flatMap encP).length ≤ (splice cur2 (i * 2) (encP x)).length := by rw [hl1, hlb, hc2l]; omega
      have hsh : (splice (splice cur2 (i * 2) (encP x)) ((i + 1) * 2) ((xs.drop i).flatMap encP)).take ((n + 1) * 2) = (xs.take i).flatMap encP ++ encP x ++ (xs.drop i).flatMap encP := by
        have h := grow_one (cur := cur2) (x := encP x) (i := i) (n := n) (s := 2) hc2t hlb (encP_len x) hi (by rw [hc2l]; exact Nat.mul_le_mul_right _ hGn)
        skip
        exact h
      obtain ⟨N, hN⟩ : ∃ N, N = w.heap.size := ⟨_, rfl⟩
      have hgN : g ≠ N := by omega
      have hvN : vb ≠ N := by omega
      have hgd : (w.alloc (.cells cur2.toArray 46)).drew.heap[N]? = some (.cells cur2.toArray 46 (0, 0)) := by rw [hN]; exact heap_alloc_new w _
      have hg1 : ((w.alloc (.cells cur2.toArray 46)).drew.setRow N (splice cur2 (i * 2) (encP x)).toArray).heap[N]? = some (.cells (splice cur2 (i * 2) (encP x)).toArray 46 (0, 0)) := setRow_heap _ N _ _ _ _ hgd
      have hvd : (w.alloc (.cells cur2.toArray 46)).drew.heap[vb]? = some (.cells (encP x).toArray 46 (0, 0)) := (Below.heap_alloc w _ vb hvl).trans hv
      have hsd : ((w.alloc (.cells cur2.toArray 46)).drew.setRow N (splice cur2 (i * 2) (encP x)).toArray).heap[g]? = some (.cells cur.toArray 46 (0, 0)) := (setRow_other _ N g _ hgN).trans ((Below.heap_alloc w _ g hgl).trans hg)
      have hk2 : Nat.min (n - i) (n - i) = n - i := Nat.min_self _
      have HC1 : Hid (∀ (o : Oper) (ops : Array Oper) (rest : List Oper) (a : Act) (Q : Exit → Act → World → Prop) (d s : Operand), o.guard = none → o.op = .call { callee := .builtin .copy, args := #[d, s], argTypes := #[22, 22] } →
          a.eval d = .slice (some ⟨N, i * 2, none⟩) (n + 1 - i) (G - i) → a.eval s = .slice (some ⟨vb, 0, none⟩) 1 1 →
          wpList Tryd.prog ops Q rest (a.put o.dst (goInt 1)) ((w.alloc (.cells cur2.toArray 46)).drew.setRow N (splice cur2 (i * 2) (encP x)).toArray) →
          wpList Tryd.prog ops Q (o :: rest) a (w.alloc (.cells cur2.toArray 46)).drew) :=
        aside (fun o ops rest a Q d s h1 h2 h3 h4 h5 => wpList_copy_sz h1 d s 22 22 h2 46 2 Tryd.underlying22 sizeP N (i * 2) (n + 1 - i) (G - i) ⟨vb, 0, none⟩ 1 1 h3 h4 cur2 46 hgd (encP x) 1 hk1 hxl (hvc _ hvd) hf1 hx1 h5)
      have HC2 : Hid (∀ (o : Oper) (ops : Array Oper) (a : Act) (K : Act → World → Prop) (Q : Exit → Act → World → Prop) (E : Prop) (d s : Operand), o.guard = none → o.op = .call { callee := .builtin .copy, args := #[d, s], argTypes := #[22, 22] } →
          a.eval d = .slice (some ⟨N, (i + 1) * 2, none⟩) (n - i) (G - (i + 1)) → a.eval s = .slice (some ⟨g, i * 2, none⟩) (n - i) (c - i) →
          K (a.put o.dst (goInt ((n - i : Nat) : Int))) (((w.alloc (.cells cur2.toArray 46)).drew.setRow N (splice cur2 (i * 2) (encP x)).toArray).drew.setRow N (splice (splice cur2 (i * 2) (encP x)) ((i + 1) * 2) ((xs.drop i).flatMap encP)).toArray) →
          if Region.wanted o (yielded ops a.tmps) = true then Oper.wp Tryd.prog o a ((w.alloc (.cells cur2.toArray 46)).drew.setRow N (splice cur2 (i * 2) (encP x)).toArray).drew K Q else E) :=
        aside (fun o ops a K Q E d s h1 h2 h3 h4 h5 => step_copy_sz h1 d s 22 22 h2 46 2 Tryd.underlying22 sizeP N ((i + 1) * 2) (n - i) (G - (i + 1)) ⟨g, i * 2, none⟩ (n - i) (c - i) h3 h4 _ 46 hg1 ((xs.drop i).flatMap encP) (n - i) hk2 hlb (hsrcB _ hsd) hf2 (oneP (xs.drop i)) h5)
      have hg2 := setRow_heap (((w.alloc (.cells cur2.toArray 46)).drew.setRow N (splice cur2 (i * 2) (encP x)).toArray).drew) N _ (splice (splice cur2 (i * 2) (encP x)) ((i + 1) * 2) ((xs.drop i).flatMap encP)).toArray _ _ hg1
      have hbN : base ≤ N := by omega
      have HB : Hid (Below base w (((w.alloc (.cells cur2.toArray 46)).drew.setRow N (splice cur2 (i * 2) (encP x)).toArray).drew.setRow N (splice (splice cur2 (i * 2) (encP x)) ((i + 1) * 2) ((xs.drop i).flatMap encP)).toArray)) :=
        aside (below_setRow (below_drawn (below_setRow (below_drawn ((Below.refl _ _).alloc hbase _) 1) hbN _) 1) hbN _)
      have HGr : Hid (Grew w (((w.alloc (.cells cur2.toArray 46)).drew.setRow N (splice cur2 (i * 2) (encP x)).toArray).drew.setRow N (splice (splice cur2 (i * 2) (encP x)) ((i + 1) * 2) ((xs.drop i).flatMap encP)).toArray) (.slice (some ⟨g, 0, none⟩) n c) (.slice (some ⟨N, 0, none⟩) (n + 1) G)) :=
        aside ⟨⟨rfl, rfl, rfl, by simp [World.setRow], fun k hk _ => (setRow_other _ N k _ (by omega)).trans ((setRow_other _ N k _ (by omega)).trans (Below.heap_alloc w _ k hk))⟩, .inr ⟨N, rfl, by omega⟩⟩
      have HOw : Hid (OwnP (((w.alloc (.cells cur2.toArray 46)).drew.setRow N (splice cur2 (i * 2) (encP x)).toArray).drew.setRow N (splice (splice cur2 (i * 2) (encP x)) ((i + 1) * 2) ((xs.drop i).flatMap encP)).toArray) base (.slice (some ⟨N, 0, none⟩) (n + 1) G) (n + 1) (xs.take i ++ x :: xs.drop i)) :=
        aside (own_shut hbN hg2 hGn hGm (by rw [length_splice _ _ _ hf2, hl1, hc2l]) (hsh.trans hflat.symm))
      generalize splice (splice cur2 (i * 2) (encP x)) ((i + 1) * 2) ((xs.drop i).flatMap encP) = R2 at HB HGr HOw HC2
      generalize splice cur2 (i * 2) (encP x) = R1 at HC1 HB HGr HOw HC2
      rw [← hN] at hrz
      clear hown hv hvb hsplit hcells hob hoa hres hflat hsh hln hvl hgl hla hlb hct hcl hin hcb HV2 hvc hk1 hxl hx1 hsrcB hf1 hl1 hf2 hg1 hg2 hg hgd hvd hsd hc2l hc2t hik hi0 hz0 hzs hzb hroom hkk HV hk2 hN hbN
      have hGi : ¬ G = i := by omega
      have hGi1 : ¬ G = i + 1 := by omega
      have hci : ¬ c = i := by omega
      have hw1 : IntKind.i64.wrap ((i : Int) + 1) = (i : Int) + 1 := by rw [IntKind.wrap_i64]; omega
      have hb1 : (0 : Int) ≤ (i : Int) + 1 := by omega
      have hin : i ≤ n := by omega
      have htn : ((i : Int) + 1).toNat = i + 1 := by omega
      have hb3 : (i : Int) ≤ (n : Int) := by omega
      go_enter Tryd.func47, Tryd.ntmps47
      go_wp2_with (first
        | (at_builtin; refine Lib.wpList_append_run _ rfl (.tmp 34) (.tmp 39) _ _ rfl _ _ rfl rfl _ _ (hrz _) ?_)
        | (refine HC1.out _ _ _ _ _ (.tmp 43) (.tmp 44) rfl rfl (by simp [Act.eval]) (by simp [Act.eval]) ?_))
      go_region_law (refine HC2.out _ _ _ _ _ _ (.tmp 50) (.tmp 53) rfl rfl (by simp [Act.eval, Act.put]) (by simp [Act.eval, Act.put]) ?_)
      go_wp2_with fail
      go_ret
      exact ⟨_, _, rfl, HOw.out, HB.out, HGr.out⟩

theorem infoR : (Tryd.prog.info? 49).map (fun i => (i.zero, i.size, i.bytes)) = some (some (.agg #[.int .i64 0, .int .i64 0, .bool false]), 3, 24) := by kernel_rfl
theorem sizeR : (Tryd.prog.info? 49).map (·.size) = some 3 := by kernel_rfl
abbrev OwnR (w : World) (base : Nat) (v : Value) (n : Nat) (xs : List (Int × Int × Bool)) : Prop := w.ownsRow base 49 3 v n (xs.flatMap encR)
theorem oneR (xs : List (Int × Int × Bool)) : ∀ u ∈ xs.flatMap encR, u.oneCell' = true := by
  intro u hu
  obtain ⟨x, -, hx⟩ := List.mem_flatMap.1 hu
  simp only [encR, List.mem_cons, List.not_mem_nil, or_false] at hx
  rcases hx with rfl | rfl | rfl <;> rfl
theorem ownR_split {w : World} {base n : Nat} {v : Value} {xs ys : List (Int × Int × Bool)} (h : w.ownsRow base 49 3 v n (xs.flatMap encR ++ ys.flatMap encR)) : OwnR w base v n (xs ++ ys) := by
  unfold OwnR
  rw [List.flatMap_append]
  exact h
set_option maxRecDepth 100000 in
theorem cloneR_any (xs : List (Int × Int × Bool)) (A : Option Addr) (n c : Nat) (w : World) (h : FSl encR 3 w w.heap.size A n xs) (hn : n ≤ 1000) :
    Calls Tryd.prog 42 #[.slice A n c] w (fun e w' => ∃ A' c', e = .returned (.slice A' n c') ∧ OwnR w' w.heap.size (.slice A' n c') n xs ∧ Below w.heap.size w w') := by
  have q22 : ∀ (w : World) (a : Option Addr) (n c n' c' : Nat), (binOp .eql 24 (.slice a n c) (.slice none n' c')).run Tryd.prog w = .ok (.bool a.isNone) w := fun w a n c n' c' => Lib.run_eql_slice_nil w _ _ a n c n' c' Tryd.underlying24
  have hln := FSl.len encR_len (by decide) h
  cases A with
  | none =>
    have h0 : n = 0 := by
      rcases Nat.eq_zero_or_pos n with h0 | h0
      · exact h0
      · obtain ⟨_, _, e, _⟩ := Sl.cells h h0
        cases e
    subst h0
    have hx : xs = [] := List.eq_nil_of_length_eq_zero hln
    subst hx
    clear h hln
    go_enter Tryd.func42, Tryd.ntmps42
    go_wp2_with fail
    go_ret
    exact ⟨none, 0, rfl, ⟨rfl, .inl ⟨rfl, rfl⟩⟩, Below.refl _ _⟩
  | some ad =>
    have HSl : Hid (FSl encR 3 (w.alloc (.cells #[] 49)) w.heap.size (some ad) n xs) := aside (FSl.below h ((Below.refl _ _).alloc (Nat.le_refl _) _))
    have HO : Hid ((w.alloc (.cells #[] 49)).ownsRow w.heap.size 49 3 (.slice (some ⟨w.heap.size, 0, none⟩) 0 0) 0 []) := aside (World.ownsRow_made (base := w.heap.size) w #[] 0 (Nat.le_refl _) (by decide) rfl)
    have H1 := aside (oneR xs)
    clear h hln
    go_enter Tryd.func42, Tryd.ntmps42
    go_wp2_with (first
      | (at_builtin; refine wpList_concat rfl (.tmp 5) (.tmp 6) 24 rfl w.heap.size (.agg #[.int .i64 0, .int .i64 0, .bool false]) 3 24 Tryd.underlying24 infoR rfl (by decide) _ 0 [] rfl HO.out w.heap.size (some ad) n c _ rfl HSl.out H1.out (by omega) (by unfold maxLen; omega) (by simp) ?_; intro G2 c2 w2 hc2 hc2' hown hb2 _; simp only [Nat.zero_add, List.nil_append] at hown hc2; have HO2 := aside hown; have HB2 : Hid (Below w.heap.size w w2) := aside (((Below.refl _ _).alloc (Nat.le_refl _) _).trans hb2); clear hown hb2)
      | fail)
    go_ret
    exact ⟨G2, c2, rfl, HO2.out, HB2.out⟩

/-- One is laid between, where there is no place behind. -/
theorem overR (vb g : Nat) (w : World) (x : (Int × Int × Bool)) (hv : w.heap[vb]? = some (.cells (encR x).toArray 49 (0, 0))) (hvb : vb ≠ g) {cur : List Value} (hg : w.heap[g]? = some (.cells cur.toArray 49 (0, 0))) (hc : cur.length ≠ 0) (o lb cb : Nat) :
    (callFunc 52 #[.slice (some ⟨vb, 0, none⟩) 1 1, .slice (some ⟨g, o, none⟩) lb cb]).run Tryd.prog w = .ok (.value (.bool false)) w := by
  have hz : ∀ w, (Go.sizeOf 49).run Tryd.prog w = .ok 3 w := fun w => by kernel_rfl
  rw [run_callFunc_extern Tryd.func52 (by kernel_rfl) (by kernel_rfl) (by kernel_rfl) (e := Extern.SlicesOverlaps.overlaps #[24, 24] #[4]) (by kernel_rfl),
    Lib.run_overlaps_apart w 24 4 49 Tryd.underlying24 3 hz ⟨vb, 0, none⟩ ⟨g, o, none⟩ 1 1 lb cb hvb 49 49 3 cur.length (by simp [World.shape?, hv, encR]) (by simp [World.shape?, hg]) hc (by simp [World.frozen?, hv]) (by simp [World.frozen?, hv])]
  rfl
set_option maxHeartbeats 2000000 in
set_option maxRecDepth 100000 in
theorem insertR_any (xs : List (Int × Int × Bool)) (x : (Int × Int × Bool)) (i n : Nat) (hi : i ≤ n) (A : Option Addr) (c base vb : Nat) (w : World) (hown : OwnR w base (.slice A n c) n xs) (hv : w.heap[vb]? = some (.cells (encR x).toArray 49 (0, 0))) (hvb : ∀ g o s, A = some ⟨g, o, s⟩ → vb ≠ g) (hn : n ≤ 1000) (hbase : base ≤ w.heap.size) :
    Calls Tryd.prog 37 #[.slice A n c, .int .i64 i, .slice (some ⟨vb, 0, none⟩) 1 1] w (fun e w' => ∃ A' c', e = .returned (.slice A' (n + 1) c') ∧ OwnR w' base (.slice A' (n + 1) c') (n + 1) (xs.take i ++ x :: xs.drop i) ∧ Below base w w' ∧ Grew w w' (.slice A n c) (.slice A' (n + 1) c')) := by
  have hln : xs.length = n := by
    have := hown.1
    rw [flat_len encR_len] at this
    omega
  have hvl := (Array.getElem?_eq_some_iff.1 hv).1
  have HV : Hid (FSl encR 3 w w.heap.size (some ⟨vb, 0, none⟩) 1 [x]) := aside (by
    refine ⟨by simp [encR_len], fun _ => ⟨vb, 0, rfl, hvl, fun j u hu => ?_⟩⟩
    have e : ([x] : List (Int × Int × Bool)).flatMap encR = encR x := by simp
    rw [e] at hu
    rw [Nat.zero_add]
    simpa [World.cell?, hv] using hu)
  have e1 : ((1 : Int) == 0) = false := by decide
  by_cases hin : i = n
  · subst hin
    have HT : Hid (xs.take i ++ x :: xs.drop i = xs ++ [x]) := aside (by rw [← hln, List.take_length, List.drop_length])
    have HO := aside hown
    have H1 := aside (oneR [x])
    clear hown hv hvb hln hvl
    by_cases hci : c = i
    all_goals
      (first
        | (have hcp : (c = i) = True := eq_true hci
           clear hci)
        | (have hcp : (c = i) = False := eq_false hci
           clear hci))
      go_enter Tryd.func37, Tryd.ntmps37
      go_wp2_with (first
        | (at_builtin; refine wpList_concat rfl (.tmp 23) (.tmp 24) 24 rfl base (.agg #[.int .i64 0, .int .i64 0, .bool false]) 3 24 Tryd.underlying24 infoR rfl (by decide) _ i _ rfl HO.out w.heap.size _ 1 1 _ rfl HV.out H1.out (by omega) (by unfold maxLen; omega) hbase ?_; intro G2 c2 w2 hc2 hc2' hown hb2 hg2; have HO2 : Hid (OwnR w2 base (.slice G2 (i + 1) c2) (i + 1) (xs ++ [x])) := aside (ownR_split hown); have HB2 := aside hb2; have HG2 : Hid (Grew w w2 (.slice A i c) (.slice G2 (i + 1) c2)) := aside hg2; clear hown hb2 hg2)
        | fail)
      go_ret
      exact ⟨G2, c2, rfl, by rw [HT.out]; exact HO2.out, HB2.out, HG2.out⟩
  · have hlt : i < n := by omega
    obtain ⟨g, cur, rfl, hbg, hg, hnc, hcm, hcl, hct⟩ := own_open hown (.inl (by omega))
    have hvg : vb ≠ g := hvb g 0 none rfl
    have hgl := (Array.getElem?_eq_some_iff.1 hg).1
    have e2 : ((i : Int) == (n : Int)) = false := by simp only [beq_eq_false_iff_ne, ne_eq]; omega
    have hsplit : xs.flatMap encR = (xs.take i).flatMap encR ++ (xs.drop i).flatMap encR := by rw [← List.flatMap_append, List.take_append_drop]
    have hla : ((xs.take i).flatMap encR).length = i * 3 := by rw [flat_len encR_len, List.length_take]; omega
    have hlb : ((xs.drop i).flatMap encR).length = (n - i) * 3 := by rw [flat_len encR_len, List.length_drop, hln]
    have hcells : ∀ (j : Nat) (u : Value), cur[j]? = some u → w.cell? ⟨g, j, none⟩ = some u := fun j u hu => by simpa [World.cell?, hg] using hu
    rw [hsplit] at hct
    have hob : ∀ (j : Nat) (u : Value), ((xs.drop i).flatMap encR)[j]? = some u → cur[i * 3 + j]? = some u := by
      intro j u hu
      have hj := (List.getElem?_eq_some_iff.1 hu).1
      have h := congrArg (·[i * 3 + j]?) hct
      simp only [List.getElem?_take] at h
      rw [if_pos (by omega), List.getElem?_append_right (by omega), hla, Nat.add_sub_cancel_left, hu] at h
      exact h
    have hoa : ∀ (j : Nat) (u : Value), ((xs.take i).flatMap encR)[j]? = some u → cur[j]? = some u := by
      intro j u hu
      have hj := (List.getElem?_eq_some_iff.1 hu).1
      have h := congrArg (·[j]?) hct
      simp only [List.getElem?_take] at h
      rw [if_pos (by omega), List.getElem?_append_left (by omega), hu] at h
      exact h
    have hres : xs.take i ++ x :: xs.drop i = xs.take i ++ [x] ++ xs.drop i := by simp
    have hflat : (xs.take i ++ x :: xs.drop i).flatMap encR = (xs.take i).flatMap encR ++ encR x ++ (xs.drop i).flatMap encR := by
      rw [hres, List.flatMap_append, List.flatMap_append]
      simp
    have hcb : c * 3 = cur.length := hcl.symm
    have HV2 := HV.out
    have hvc : ∀ (W : World), W.heap[vb]? = some (.cells (encR x).toArray 49 (0, 0)) → ∀ (j : Nat) (u : Value), (encR x)[j]? = some u → W.cell? ((⟨vb, 0, none⟩ : Addr).add j) = some u := by
      intro W hW j u hu
      rw [add_plain, Nat.zero_add]
      simpa [World.cell?, hW] using hu
    have hk1 : Nat.min 1 (n + 1 - i) = 1 := Nat.min_eq_left (by omega)
    have hxl : (encR x).length = 1 * 3 := by rw [encR_len]
    have hx1 : ∀ u ∈ encR x, u.oneCell' = true := by
      have h := oneR [x]
      simpa using h
    have hsrcB : ∀ (W : World), W.heap[g]? = some (.cells cur.toArray 49 (0, 0)) → ∀ (j : Nat) (u : Value), ((xs.drop i).flatMap encR)[j]? = some u → W.cell? ((⟨g, i * 3, none⟩ : Addr).add j) = some u := by
      intro W hW j u hu
      rw [add_plain]
      have h := hob j u hu
      skip
      simpa [World.cell?, hW] using h
    by_cases hroom : n + 1 ≤ c
    · have hsh : (splice (splice cur ((i + 1) * 3) ((xs.drop i).flatMap encR)) (i * 3) (encR x)).take ((n + 1) * 3) = (xs.take i).flatMap encR ++ encR x ++ (xs.drop i).flatMap encR := by
        have h := shift_one (cur := cur) (x := encR x) (i := i) (n := n) (s := 3) hct hla hlb (encR_len x) hi (by rw [hcl]; exact Nat.mul_le_mul_right _ hroom)
        skip
        exact h
      have HSh := aside hsh
      have HFl := aside hflat
      have hcn : c ≤ 9223372036854775807 := by unfold maxLen at hcm; omega
      have n1 : ¬ c = i := by omega
      have n2 : ¬ c = i + 1 := by omega
      have HOv : ∀ o lb cb, (callFunc 52 #[.slice (some ⟨vb, 0, none⟩) 1 1, .slice (some ⟨g, o, none⟩) lb cb]).run Tryd.prog w = .ok (.value (.bool false)) w := fun o lb cb => overR vb g w x hv hvg hg (by rw [hcl]; omega) o lb cb
      have hk2 : Nat.min (n + 1 - i) (n - i) = n - i := Nat.min_eq_right (by omega)
      have hf1 : (i + 1) * 3 + ((xs.drop i).flatMap encR).length ≤ cur.length := by rw [hlb]; omega
      have hl1 : (splice cur ((i + 1) * 3) ((xs.drop i).flatMap encR)).length = cur.length := length_splice _ _ _ hf1
      have hf2 : i * 3 + (encR x).length ≤ (splice cur ((i + 1) * 3) ((xs.drop i).flatMap encR)).length := by rw [hl1, hxl]; omega
      have HC1 : Hid (∀ (o : Oper) (ops : Array Oper) (a : Act) (K : Act → World → Prop) (Q : Exit → Act → World → Prop) (E : Prop) (d s : Operand), o.guard = none → o.op = .call { callee := .builtin .copy, args := #[d, s], argTypes := #[24, 24] } →
          a.eval d = .slice (some ⟨g, (i + 1) * 3, none⟩) (n - i) (c - (i + 1)) → a.eval s = .slice (some ⟨g, i * 3, none⟩) (n + 1 - i) (c - i) →
          K (a.put o.dst (goInt ((n - i : Nat) : Int))) (w.drew.setRow g (splice cur ((i + 1) * 3) ((xs.drop i).flatMap encR)).toArray) → if Region.wanted o (yielded ops a.tmps) = true then Oper.wp Tryd.prog o a w.drew K Q else E) :=
        aside (fun o ops a K Q E d s h1 h2 h3 h4 h5 => step_copy_sz h1 d s 24 24 h2 49 3 Tryd.underlying24 sizeR g ((i + 1) * 3) (n - i) (c - (i + 1)) ⟨g, i * 3, none⟩ (n + 1 - i) (c - i) h3 h4 cur 49 hg ((xs.drop i).flatMap encR) (n - i) hk2 hlb (hsrcB w.drew hg) hf1 (oneR (xs.drop i)) h5)
      have hg1 : (w.drew.setRow g (splice cur ((i + 1) * 3) ((xs.drop i).flatMap encR)).toArray).heap[g]? = some (.cells (splice cur ((i + 1) * 3) ((xs.drop i).flatMap encR)).toArray 49 (0, 0)) := setRow_heap w.drew g _ _ _ _ hg
      have hv1 : (w.drew.setRow g (splice cur ((i + 1) * 3) ((xs.drop i).flatMap encR)).toArray).heap[vb]? = some (.cells (encR x).toArray 49 (0, 0)) := (setRow_other w.drew g vb _ hvg).trans hv
      have hg2 := setRow_heap _ g _ (splice (splice cur ((i + 1) * 3) ((xs.drop i).flatMap encR)) (i * 3) (encR x)).toArray _ _ hg1
      have HB : Hid (Below base w ((w.drew.setRow g (splice cur ((i + 1) * 3) ((xs.drop i).flatMap encR)).toArray).setRow g (splice (splice cur ((i + 1) * 3) ((xs.drop i).flatMap encR)) (i * 3) (encR x)).toArray)) := aside (below_setRow (below_setRow (below_drawn (Below.refl _ _) 1) hbg _) hbg _)
      have HGr : Hid (Grew w ((w.drew.setRow g (splice cur ((i + 1) * 3) ((xs.drop i).flatMap encR)).toArray).setRow g (splice (splice cur ((i + 1) * 3) ((xs.drop i).flatMap encR)) (i * 3) (encR x)).toArray) (.slice (some ⟨g, 0, none⟩) n c) (.slice (some ⟨g, 0, none⟩) (n + 1) c)) :=
        aside ⟨grown_trans (w1 := w.drew.setRow g _) ⟨rfl, rfl, rfl, by simp [World.setRow], fun k _ hk => setRow_other w.drew g k _ (fun e => hk (by rw [e]; rfl))⟩ (grown_row g _), .inl rfl⟩
      have HOw : Hid (OwnR ((w.drew.setRow g (splice cur ((i + 1) * 3) ((xs.drop i).flatMap encR)).toArray).setRow g (splice (splice cur ((i + 1) * 3) ((xs.drop i).flatMap encR)) (i * 3) (encR x)).toArray) base (.slice (some ⟨g, 0, none⟩) (n + 1) c) (n + 1) (xs.take i ++ x :: xs.drop i)) :=
        aside (own_shut hbg hg2 hroom hcm (by rw [length_splice _ _ _ hf2, hl1, hcl]) (hsh.trans hflat.symm))
      have HC2 : Hid (∀ (o : Oper) (ops : Array Oper) (rest : List Oper) (a : Act) (Q : Exit → Act → World → Prop) (d s : Operand), o.guard = none → o.op = .call { callee := .builtin .copy, args := #[d, s], argTypes := #[24, 24] } →
          a.eval d = .slice (some ⟨g, i * 3, none⟩) (n + 1 - i) (c - i) → a.eval s = .slice (some ⟨vb, 0, none⟩) 1 1 →
          wpList Tryd.prog ops Q rest (a.put o.dst (goInt 1)) ((w.drew.setRow g (splice cur ((i + 1) * 3) ((xs.drop i).flatMap encR)).toArray).setRow g (splice (splice cur ((i + 1) * 3) ((xs.drop i).flatMap encR)) (i * 3) (encR x)).toArray) →
          wpList Tryd.prog ops Q (o :: rest) a (w.drew.setRow g (splice cur ((i + 1) * 3) ((xs.drop i).flatMap encR)).toArray)) :=
        aside (fun o ops rest a Q d s h1 h2 h3 h4 h5 => wpList_copy_sz h1 d s 24 24 h2 49 3 Tryd.underlying24 sizeR g (i * 3) (n + 1 - i) (c - i) ⟨vb, 0, none⟩ 1 1 h3 h4 _ 49 hg1 (encR x) 1 hk1 hxl (hvc _ hv1) hf2 hx1 h5)
      generalize splice (splice cur ((i + 1) * 3) ((xs.drop i).flatMap encR)) (i * 3) (encR x) = R2 at HB HGr HOw HC2
      generalize splice cur ((i + 1) * 3) ((xs.drop i).flatMap encR) = R1 at HC1 HB HGr HOw HC2
      clear hown hv hvb hsplit hcells hob hoa hres hflat hsh hln hvl hgl hla hlb hct hcl hin hcb HV2 hvc hk1 hxl hx1 hsrcB hk2 hf1 hl1 hf2 hg1 hv1 hg2 hg
      go_enter Tryd.func37, Tryd.ntmps37
      go_wp2_with (simp only [HOv])
      have hw1 : IntKind.i64.wrap ((i : Int) + 1) = (i : Int) + 1 := by rw [IntKind.wrap_i64]; omega
      have hb1 : (0 : Int) ≤ (i : Int) + 1 := by omega
      have hin : i ≤ n := by omega
      have htn : ((i : Int) + 1).toNat = i + 1 := by omega
      have hb3 : (i : Int) ≤ (n : Int) + 1 := by omega
      go_region_law (refine HC1.out _ _ _ _ _ _ (.tmp 73) (.tmp 76) rfl rfl (by simp [Act.eval, Act.put]) (by simp [Act.eval, Act.put]) ?_)
      go_wp2_with (refine HC2.out _ _ _ _ _ (.tmp 80) (.tmp 81) rfl rfl (by simp [Act.eval]) (by simp [Act.eval]) ?_)
      go_ret
      exact ⟨_, _, rfl, HOw.out, HB.out, HGr.out⟩
    · obtain ⟨i0, hi0, hz0, hzs, hzb⟩ := info_parts infoR
      have hz3 : (c : Int) < (n : Int) + 1 := by omega
      have hkk : (n : Int) + 1 - (i : Int) = ((n + 1 - i : Nat) : Int) := by omega
      have hik : i + (n + 1 - i) = n + 1 := by omega
      have hold : (Builtin.firstCells i0.size i (.slice (some ⟨g, 0, none⟩) i c)).run Tryd.prog w.drew = .ok ((xs.take i).flatMap encR).toArray w.drew := by
        rw [hzs]
        exact run_firstCells_some w.drew 3 i ⟨g, 0, none⟩ i c ((xs.take i).flatMap encR) hla (fun j v hj => by
          rw [Addr.add_lit, Nat.zero_add]
          exact hcells j v (hoa j v hj))
      have hrz : ∀ ty, (Builtin.append_ #[24, 3] ty #[.slice (some ⟨g, 0, none⟩) i c, .int .i64 ((n : Int) + 1 - (i : Int))]).run Tryd.prog w =
          .ok (.slice (some ⟨w.heap.size, 0, none⟩) (n + 1) (grownCap w (n + 1) c 49)) (w.drew.alloc (.cells (((xs.take i).flatMap encR).toArray ++ Builtin.zeroCells ((.agg #[.int .i64 0, .int .i64 0, .bool false]) : Value).cells (n + 1 - i) ++ Builtin.zeroCells ((.agg #[.int .i64 0, .int .i64 0, .bool false]) : Value).cells (grownCap w (n + 1) c 49 - (n + 1))) 49)) := fun ty => by
        have h := Lib.run_append_grow_zeros w 24 3 ty 49 i0 _ .i64 .i64 Tryd.underlying24 Tryd.underlying3 hi0 hz0 (some ⟨g, 0, none⟩) i c ((xs.take i).flatMap encR) hold (n + 1 - i) (by omega) (by omega) (by omega) (by omega) (by rw [hzb]; omega) (by rw [hzb, hik]; exact growslice_fits (by omega) (by omega))
        rw [hik] at h
        rw [hkk]
        exact h
      have hGn : n + 1 ≤ grownCap w (n + 1) c 49 := grownCap_ge w _ _ _
      have hGm : grownCap w (n + 1) c 49 ≤ maxLen := grownCap_le_maxLen w (n + 1) c 49 (by unfold maxLen; omega)
      have hzl : ∀ q, (Builtin.zeroCells ((.agg #[.int .i64 0, .int .i64 0, .bool false]) : Value).cells q).size = q * 3 := fun q => by simp [Builtin.zeroCells, Value.cells]
      obtain ⟨cur2, hcur2⟩ : ∃ l : List Value, l = (xs.take i).flatMap encR ++ (Builtin.zeroCells ((.agg #[.int .i64 0, .int .i64 0, .bool false]) : Value).cells (n + 1 - i)).toList ++ (Builtin.zeroCells ((.agg #[.int .i64 0, .int .i64 0, .bool false]) : Value).cells (grownCap w (n + 1) c 49 - (n + 1))).toList := ⟨_, rfl⟩
      have hrow : ((xs.take i).flatMap encR).toArray ++ Builtin.zeroCells ((.agg #[.int .i64 0, .int .i64 0, .bool false]) : Value).cells (n + 1 - i) ++ Builtin.zeroCells ((.agg #[.int .i64 0, .int .i64 0, .bool false]) : Value).cells (grownCap w (n + 1) c 49 - (n + 1)) = cur2.toArray := by
        rw [hcur2]
        apply Array.ext'
        simp
      have hc2l : cur2.length = grownCap w (n + 1) c 49 * 3 := by
        rw [hcur2]
        simp only [List.length_append, Array.length_toList, hzl, hla]
        generalize grownCap w (n + 1) c 49 = G at hGn
        omega
      have hc2t : cur2.take (i * 3) = (xs.take i).flatMap encR := by rw [hcur2, List.append_assoc, List.take_left' hla]
      rw [hrow] at hrz
      generalize grownCap w (n + 1) c 49 = G at hrz hGn hGm hc2l
      clear hcur2 hrow hzl hold
      have hG63 : G ≤ 9223372036854775807 := by unfold maxLen at hGm; omega
      have hf1 : i * 3 + (encR x).length ≤ cur2.length := by rw [hc2l, hxl]; omega
      have hl1 : (splice cur2 (i * 3) (encR x)).length = cur2.length := length_splice _ _ _ hf1
      have hf2 : (i + 1) * 3 + ((xs.drop i).flatMap encR).length ≤ (splice cur2 (i * 3) (encR x)).length := by rw [hl1, hlb, hc2l]; omega
      have hsh : (splice (splice cur2 (i * 3) (encR x)) ((i + 1) * 3) ((xs.drop i).flatMap encR)).take ((n + 1) * 3) = (xs.take i).flatMap encR ++ encR x ++ (xs.drop i).flatMap encR := by
        have h := grow_one (cur := cur2) (x := encR x) (i := i) (n := n) (s := 3) hc2t hlb (encR_len x) hi (by rw [hc2l]; exact Nat.mul_le_mul_right _ hGn)
        skip
        exact h
      obtain ⟨N, hN⟩ : ∃ N, N = w.heap.size := ⟨_, rfl⟩
      have hgN : g ≠ N := by omega
      have hvN : vb ≠ N := by omega
      have hgd : (w.alloc (.cells cur2.toArray 49)).drew.heap[N]? = some (.cells cur2.toArray 49 (0, 0)) := by rw [hN]; exact heap_alloc_new w _
      have hg1 : ((w.alloc (.cells cur2.toArray 49)).drew.setRow N (splice cur2 (i * 3) (encR x)).toArray).heap[N]? = some (.cells (splice cur2 (i * 3) (encR x)).toArray 49 (0, 0)) := setRow_heap _ N _ _ _ _ hgd
      have hvd : (w.alloc (.cells cur2.toArray 49)).drew.heap[vb]? = some (.cells (encR x).toArray 49 (0, 0)) := (Below.heap_alloc w _ vb hvl).trans hv
      have hsd : ((w.alloc (.cells cur2.toArray 49)).drew.setRow N (splice cur2 (i * 3) (encR x)).toArray).heap[g]? = some (.cells cur.toArray 49 (0, 0)) := (setRow_other _ N g _ hgN).trans ((Below.heap_alloc w _ g hgl).trans hg)
      have hk2 : Nat.min (n - i) (n - i) = n - i := Nat.min_self _
      have HC1 : Hid (∀ (o : Oper) (ops : Array Oper) (rest : List Oper) (a : Act) (Q : Exit → Act → World → Prop) (d s : Operand), o.guard = none → o.op = .call { callee := .builtin .copy, args := #[d, s], argTypes := #[24, 24] } →
          a.eval d = .slice (some ⟨N, i * 3, none⟩) (n + 1 - i) (G - i) → a.eval s = .slice (some ⟨vb, 0, none⟩) 1 1 →
          wpList Tryd.prog ops Q rest (a.put o.dst (goInt 1)) ((w.alloc (.cells cur2.toArray 49)).drew.setRow N (splice cur2 (i * 3) (encR x)).toArray) →
          wpList Tryd.prog ops Q (o :: rest) a (w.alloc (.cells cur2.toArray 49)).drew) :=
        aside (fun o ops rest a Q d s h1 h2 h3 h4 h5 => wpList_copy_sz h1 d s 24 24 h2 49 3 Tryd.underlying24 sizeR N (i * 3) (n + 1 - i) (G - i) ⟨vb, 0, none⟩ 1 1 h3 h4 cur2 49 hgd (encR x) 1 hk1 hxl (hvc _ hvd) hf1 hx1 h5)
      have HC2 : Hid (∀ (o : Oper) (ops : Array Oper) (a : Act) (K : Act → World → Prop) (Q : Exit → Act → World → Prop) (E : Prop) (d s : Operand), o.guard = none → o.op = .call { callee := .builtin .copy, args := #[d, s], argTypes := #[24, 24] } →
          a.eval d = .slice (some ⟨N, (i + 1) * 3, none⟩) (n - i) (G - (i + 1)) → a.eval s = .slice (some ⟨g, i * 3, none⟩) (n - i) (c - i) →
          K (a.put o.dst (goInt ((n - i : Nat) : Int))) (((w.alloc (.cells cur2.toArray 49)).drew.setRow N (splice cur2 (i * 3) (encR x)).toArray).drew.setRow N (splice (splice cur2 (i * 3) (encR x)) ((i + 1) * 3) ((xs.drop i).flatMap encR)).toArray) →
          if Region.wanted o (yielded ops a.tmps) = true then Oper.wp Tryd.prog o a ((w.alloc (.cells cur2.toArray 49)).drew.setRow N (splice cur2 (i * 3) (encR x)).toArray).drew K Q else E) :=
        aside (fun o ops a K Q E d s h1 h2 h3 h4 h5 => step_copy_sz h1 d s 24 24 h2 49 3 Tryd.underlying24 sizeR N ((i + 1) * 3) (n - i) (G - (i + 1)) ⟨g, i * 3, none⟩ (n - i) (c - i) h3 h4 _ 49 hg1 ((xs.drop i).flatMap encR) (n - i) hk2 hlb (hsrcB _ hsd) hf2 (oneR (xs.drop i)) h5)
      have hg2 := setRow_heap (((w.alloc (.cells cur2.toArray 49)).drew.setRow N (splice cur2 (i * 3) (encR x)).toArray).drew) N _ (splice (splice cur2 (i * 3) (encR x)) ((i + 1) * 3) ((xs.drop i).flatMap encR)).toArray _ _ hg1
      have hbN : base ≤ N := by omega
      have HB : Hid (Below base w (((w.alloc (.cells cur2.toArray 49)).drew.setRow N (splice cur2 (i * 3) (encR x)).toArray).drew.setRow N (splice (splice cur2 (i * 3) (encR x)) ((i + 1) * 3) ((xs.drop i).flatMap encR)).toArray)) :=
        aside (below_setRow (below_drawn (below_setRow (below_drawn ((Below.refl _ _).alloc hbase _) 1) hbN _) 1) hbN _)
      have HGr : Hid (Grew w (((w.alloc (.cells cur2.toArray 49)).drew.setRow N (splice cur2 (i * 3) (encR x)).toArray).drew.setRow N (splice (splice cur2 (i * 3) (encR x)) ((i + 1) * 3) ((xs.drop i).flatMap encR)).toArray) (.slice (some ⟨g, 0, none⟩) n c) (.slice (some ⟨N, 0, none⟩) (n + 1) G)) :=
        aside ⟨⟨rfl, rfl, rfl, by simp [World.setRow], fun k hk _ => (setRow_other _ N k _ (by omega)).trans ((setRow_other _ N k _ (by omega)).trans (Below.heap_alloc w _ k hk))⟩, .inr ⟨N, rfl, by omega⟩⟩
      have HOw : Hid (OwnR (((w.alloc (.cells cur2.toArray 49)).drew.setRow N (splice cur2 (i * 3) (encR x)).toArray).drew.setRow N (splice (splice cur2 (i * 3) (encR x)) ((i + 1) * 3) ((xs.drop i).flatMap encR)).toArray) base (.slice (some ⟨N, 0, none⟩) (n + 1) G) (n + 1) (xs.take i ++ x :: xs.drop i)) :=
        aside (own_shut hbN hg2 hGn hGm (by rw [length_splice _ _ _ hf2, hl1, hc2l]) (hsh.trans hflat.symm))
      generalize splice (splice cur2 (i * 3) (encR x)) ((i + 1) * 3) ((xs.drop i).flatMap encR) = R2 at HB HGr HOw HC2
      generalize splice cur2 (i * 3) (encR x) = R1 at HC1 HB HGr HOw HC2
      rw [← hN] at hrz
      clear hown hv hvb hsplit hcells hob hoa hres hflat hsh hln hvl hgl hla hlb hct hcl hin hcb HV2 hvc hk1 hxl hx1 hsrcB hf1 hl1 hf2 hg1 hg2 hg hgd hvd hsd hc2l hc2t hik hi0 hz0 hzs hzb hroom hkk HV hk2 hN hbN
      have hGi : ¬ G = i := by omega
      have hGi1 : ¬ G = i + 1 := by omega
      have hci : ¬ c = i := by omega
      have hw1 : IntKind.i64.wrap ((i : Int) + 1) = (i : Int) + 1 := by rw [IntKind.wrap_i64]; omega
      have hb1 : (0 : Int) ≤ (i : Int) + 1 := by omega
      have hin : i ≤ n := by omega
      have htn : ((i : Int) + 1).toNat = i + 1 := by omega
      have hb3 : (i : Int) ≤ (n : Int) := by omega
      go_enter Tryd.func37, Tryd.ntmps37
      go_wp2_with (first
        | (at_builtin; refine Lib.wpList_append_run _ rfl (.tmp 34) (.tmp 39) _ _ rfl _ _ rfl rfl _ _ (hrz _) ?_)
        | (refine HC1.out _ _ _ _ _ (.tmp 43) (.tmp 44) rfl rfl (by simp [Act.eval]) (by simp [Act.eval]) ?_))
      go_region_law (refine HC2.out _ _ _ _ _ _ (.tmp 50) (.tmp 53) rfl rfl (by simp [Act.eval, Act.put]) (by simp [Act.eval, Act.put]) ?_)
      go_wp2_with fail
      go_ret
      exact ⟨_, _, rfl, HOw.out, HB.out, HGr.out⟩

end Go.Proofs.YtcmlhopidohimaaDoor
