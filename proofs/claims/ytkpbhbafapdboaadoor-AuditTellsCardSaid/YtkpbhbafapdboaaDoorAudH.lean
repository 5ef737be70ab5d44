/- A leaf and its path fold to a root: audit.Fold: the walk. Conditions: named in each theorem. -/
import Derived.Test.YtkpbhbafapdboaaDoorAudG
namespace Go.Proofs.YtkpbhbafapdboaaDoor
open Go.RowKit Go.ChangeShapes Go.WideShapes Go.ChangeAt

/-- A digest of a full length. -/
def fit (d : List Nat) : List Nat := (d ++ zeroD).take 32
theorem fit_len (d : List Nat) : (fit d).length = 32 := by simp [fit, zeroD]
theorem fit_eq {d : List Nat} (h : d.length = 32) : fit d = d := by
  unfold fit
  rw [List.take_append_of_le_length (by omega), List.take_of_length_le (by omega)]
def totE (t : Tot) : List Value := totL t.1 (fit t.2)
theorem totE_len (t : Tot) : (totE t).length = 33 := totL_len (fit_len _)
theorem totE_eq {t : Tot} (h : t.2.length = 32) : totE t = totL t.1 t.2 := by unfold totE; rw [fit_eq h]
abbrev TSl (w : World) (B : Nat) (A : Option Addr) (n : Nat) (ts : List Tot) : Prop := FSl totE 33 w B A n ts
theorem TSl.at_ {w : World} {B n : Nat} {A : Option Addr} {ts : List Tot} (h : TSl w B A n ts) (hd : ∀ t ∈ ts, Dig t.2) {k : Nat} (hk : k < n) :
    ∃ b off, A = some ⟨b, off, none⟩ ∧ b < B ∧ w.rangeAt b (off + k * 33) (totL (ts.getD k noTot).1 (ts.getD k noTot).2) ∧ Dig (ts.getD k noTot).2 := by
  obtain ⟨b, off, e, hb, hc⟩ := FSl.at_ totE_len (by decide) noTot h hk
  have hl := FSl.len totE_len (by decide) h
  have hdk := hd _ (getD_mem (ls := ts) (k := k) noTot (by omega))
  refine ⟨b, off, e, hb, fun j v hv => ?_, hdk⟩
  exact hc j v (by rw [totE_eq hdk.1]; exact hv)
theorem TotAt.range {w : World} {g : Nat} {s : Int} {d : List Nat} (h : TotAt w g s d) : w.rangeAt g 0 (totL s d) := by
  intro j v hv
  rw [cell_of_row w g (0 + j) _ _ _ h, Nat.zero_add]
  unfold totR
  rw [List.getElem?_toArray]
  exact hv
theorem totLI {s : Int} {d : List Nat} (h : d.length = 32) : (Tryd.prog.info? 25).map (·.size) = some (totL s d).length := by rw [totL_len h]; kernel_rfl
theorem TotAt.setRow {w : World} {g : Nat} {s s' : Int} {d d' : List Nat} (h : TotAt w g s d) : TotAt (w.setRow g (totR s' d')) g s' d' := setRow_heap w g _ _ _ _ h
theorem TotAt.otherRow {w : World} {g k : Nat} {s : Int} {d : List Nat} (h : TotAt w g s d) (cs : Array Value) (hk : g ≠ k) : TotAt (w.setRow k cs) g s d := (setRow_other w k g cs hk).trans h

/-- What a path makes of a total. -/
def foldP : Tot → List Bool → List Tot → Tot × Int
  | t, b :: bs, p :: ps => if (if b then nodeR t p else nodeR p t).2 = 0 then foldP (if b then nodeR t p else nodeR p t).1 bs ps else (noTot, (if b then nodeR t p else nodeR p t).2)
  | t, _, _ => (t, 0)
/-- What is told of a leaf and its path. -/
def foldR (t : Tot) (i n : Int) (path : List Tot) : Tot × Int :=
  if n < 1 ∨ 256 < n ∨ i < 0 ∨ n ≤ i then (noTot, 2)
  else if path.length ≠ (way i.toNat n.toNat).length then (noTot, 3)
  else if ¬ Mny t.1 then (noTot, 2)
  else foldP t (way i.toNat n.toNat).reverse path
theorem foldP_step {t : Tot} {W : List Bool} {path : List Tot} {k : Nat} (hk : k < path.length) (hw : k < W.length) (b : Bool) (hb : b = W.getD k false) (p : Tot) (hp : p = path.getD k noTot) :
    foldP t (W.drop k) (path.drop k) = if (if b then nodeR t p else nodeR p t).2 = 0 then foldP (if b then nodeR t p else nodeR p t).1 (W.drop (k + 1)) (path.drop (k + 1)) else (noTot, (if b then nodeR t p else nodeR p t).2) := by
  have h1 : W.drop k = b :: W.drop (k + 1) := by rw [hb, List.drop_eq_getElem_cons hw, List.getD_eq_getElem?_getD, List.getElem?_eq_getElem hw]; rfl
  have h2 : path.drop k = p :: path.drop (k + 1) := by rw [hp, List.drop_eq_getElem_cons hk, List.getD_eq_getElem?_getD, List.getElem?_eq_getElem hk]; rfl
  rw [h1, h2]
  rfl
theorem BSl.at_ {w : World} {B n : Nat} {A : Option Addr} {bs : List Bool} (h : BSl w B A n bs) {k : Nat} (hk : k < n) : ∃ b off, A = some ⟨b, off, none⟩ ∧ b < B ∧ w.cell? ⟨b, off + k, none⟩ = some (.bool (bs.getD k false)) := by
  obtain ⟨b, off, e, hb, hc⟩ := FSl.at_ bV_len (by decide) false h hk
  refine ⟨b, off, e, hb, ?_⟩
  have := hc 0 _ rfl
  simpa using this
theorem BSl.len1 {w : World} {B n : Nat} {A : Option Addr} {bs : List Bool} (h : BSl w B A n bs) : bs.length = n := FSl.len bV_len (by decide) h
theorem BSl.step {w w' : World} {A : Option Addr} {n : Nat} {bs : List Bool} (h : BSl w w.heap.size A n bs) (hb : Below w.heap.size w w') : BSl w' w'.heap.size A n bs := (Sl.below h hb).more hb.size
theorem BSl.other {w : World} {B N n : Nat} {A : Option Addr} {bs : List Bool} (h : BSl w B A n bs) (hf : Far (N + 1) A) (cs : Array Value) : BSl (w.setRow N cs) B A n bs :=
  ⟨Sl.len h, fun hn => by
    obtain ⟨b, off, e, hb, hc⟩ := Sl.cells h hn
    refine ⟨b, off, e, hb, fun j u hu => ?_⟩
    have hbN : N + 1 ≤ b := hf _ _ _ e
    exact (World.cell?_of_block (setRow_other w N b cs (by omega))).trans (hc j u hu)⟩

theorem wayL_len : ∀ (f i n : Nat), (wayL f i n).length ≤ f
  | 0, _, _ => Nat.le_refl 0
  | f + 1, i, n => by
    unfold wayL
    split
    · simp
    · have := wayL_len f (if i < halfN n then i else i - halfN n) (if i < halfN n then halfN n else n - halfN n)
      simp only [List.length_cons]
      omega

set_option maxHeartbeats 4000000 in
set_option maxRecDepth 100000 in
theorem fold_loop (t : Tot) (ht : Dig t.2) (hm : Mny t.1) (i n : Nat) (h1 : 1 ≤ n) (hn : n ≤ 256) (hi : i < n) (path : List Tot) (hp : ∀ x ∈ path, Dig x.2) (A : Option Addr) (m c : Nat) (hlen : path.length = (way i n).length) (w : World) (h : TSl w w.heap.size A m path) (hg : RoundsAt w) :
    Calls Tryd.prog 8 #[tV t, .int .i64 i, .int .i64 n, .slice A m c] w (fun e w' => e = .returned (tellV (foldP t (way i n).reverse path)) ∧ Below w.heap.size w w') := by
  have HT := aside ht
  have HM := aside hm
  have HP := aside hp
  have HG := aside hg
  have HSl := aside h
  have hml := FSl.len totE_len (by decide) h
  have HL := aside hlen
  have e1 : ((n : Int) < 1) = False := by simp only [eq_iff_iff, iff_false]; omega
  have e2 : ((256 : Int) < (n : Int)) = False := by simp only [eq_iff_iff, iff_false]; omega
  have e3 : ((i : Int) < 0) = False := by simp only [eq_iff_iff, iff_false]; omega
  have e4 : ((n : Int) ≤ (i : Int)) = False := by simp only [eq_iff_iff, iff_false]; omega
  have hsd := sides_any i n h1 hn hi
  obtain ⟨W, hW⟩ : ∃ W, W = (way i n).reverse := ⟨_, rfl⟩
  have hwl : W.length = path.length := by rw [hW, List.length_reverse, hlen]
  have hwm : W.length ≤ 256 := by rw [hW, List.length_reverse]; exact wayL_len 256 i n
  simp only [← hW] at hsd ⊢
  have HSd := aside hsd
  clear hsd hW hlen HL
  clear ht hm hp hg h h1 hn hi
  go_enter Tryd.func8, Tryd.ntmps8
  go_upto_region 1 with fail
  change Code.wp _ _ _ _ ((w.alloc (.cells (totR t.1 t.2) 25)).alloc (.cells (totR 0 zeroD) 25))
  have T0 : Hid (TotAt ((w.alloc (.cells (totR t.1 t.2) 25)).alloc (.cells (totR 0 zeroD) 25)) w.heap.size t.1 t.2) := aside ((TotAt.new w _ _).alloc _)
  have T1 : Hid (TotAt ((w.alloc (.cells (totR t.1 t.2) 25)).alloc (.cells (totR 0 zeroD) 25)) (w.heap.size + 1) 0 zeroD) := aside (by
    have h := TotAt.new (w.alloc (.cells (totR t.1 t.2) 25)) 0 zeroD
    rwa [show (w.alloc (.cells (totR t.1 t.2) 25)).heap.size = w.heap.size + 1 by simp] at h)
  have B1 : Hid (Below w.heap.size w ((w.alloc (.cells (totR t.1 t.2) 25)).alloc (.cells (totR 0 zeroD) 25))) := aside (((Below.refl _ _).alloc (Nat.le_refl _) _).alloc (by simp) _)
  have Z1 : Hid (((w.alloc (.cells (totR t.1 t.2) 25)).alloc (.cells (totR 0 zeroD) 25)).heap.size = w.heap.size + 1 + 1) := aside (by simp)
  generalize ((w.alloc (.cells (totR t.1 t.2) 25)).alloc (.cells (totR 0 zeroD) 25)) = w1 at T0 T1 B1 Z1 ⊢
  obtain ⟨N, hN⟩ : ∃ N, N = w.heap.size := ⟨_, rfl⟩
  have EN := aside hN
  simp only [← hN] at T0 T1 Z1 ⊢
  clear hN
  have d0 := T0.out.sum
  go_upto_region 4 with (first
    | (go_at_call 23; refine (HSd.out _).mono ?_; rintro e w2 ⟨A2, m2, c2, rfl, hs2, hb2, hf2⟩; have HF2 := aside hf2; have HS2 := aside hs2; have HB2 := aside hb2; have hml2 := BSl.len1 hs2; clear hs2 hb2 hf2)
    | fail)
  obtain rfl : m2 = m := by omega
  have hmb : m2 ≤ 256 := by omega
  have d0' : w2.cell? ⟨N, 0, none⟩ = some (.int .i64 t.1) := (HB2.out.cell (p := ⟨N, 0, none⟩) (show N < w1.heap.size by rw [Z1.out]; omega)).trans d0
  have T0a : Hid (TotAt w2 N t.1 t.2) := aside (T0.out.below HB2.out T0.out.lt)
  have T1a : Hid (TotAt w2 (N + 1) 0 zeroD) := aside (T1.out.below HB2.out T1.out.lt)
  have HBw : Hid (Below w.heap.size w w2) := aside (B1.out.trans (HB2.out.mono B1.out.size))
  have HF2a : Hid (Far (N + 1 + 1) A2) := aside (by rw [← Z1.out]; exact HF2.out)
  clear T0 T1 HB2 HF2 d0 hwl hwm
  go_upto_region 10 with (first
    | (go_at_call 24; refine (check_ok t.1 HM.out _).mono ?_; rintro e w' ⟨rfl, hw'⟩; rw [hw']; clear hw' w')
    | fail)
  clear d0'
  go_loopw [54] (fun x54 wr => ∃ (k : Nat) (u : Tot), k ≤ m2 ∧ x54 = .int .i64 k ∧ Hid (Dig u.2) ∧ Hid (TotAt wr N u.1 u.2) ∧ Hid (TotAt wr (N + 1) 0 zeroD) ∧ Hid (foldP t W path = foldP u (W.drop k) (path.drop k)) ∧ Hid (BSl wr wr.heap.size A2 m2 W) ∧ Hid (Below w.heap.size w wr)) (fun x54 _ => m2 - (Go.RowKit.intOf x54).toNat)
  case atStart => exact ⟨0, t, by omega, rfl, HT, T0a, T1a, aside rfl, HS2, HBw⟩
  case round =>
    clear T0a T1a HS2 HBw
    obtain ⟨k, u, hk, rfl, HDu, T0, T1, HFo, HS, HB⟩ := hrel
    by_cases k1 : k < m2
    rotate_left
    · obtain rfl : k = m2 := by omega
      have e5 : ((k : Int) < (k : Int)) = False := by simp
      have HE : Hid (foldP t W path = (u, 0)) := aside (by
        rw [HFo.out, List.drop_of_length_le (Nat.le_of_eq hml2), List.drop_of_length_le (Nat.le_of_eq hml)]
        rfl)
      clear k1 hk
      go_wp2_with (first
        | (refine wpList_load_row rfl 25 (.tmp 4) rfl N rfl 25 (totR u.1 u.2) (0, 0) _ T0.out Tryd.underlying25 rfl (totInfo HDu.out.1) ?_)
        | (refine wpList_store_row rfl 25 (.tmp 8) (.tmp 79) rfl (N + 1) (totR u.1 u.2) rfl rfl 25 (totR 0 zeroD) T1.out (totInfo HDu.out.1) (tot_same rfl HDu.out.1) (totR_one _ _) ?_)
        | fail)
      refine bodyPost_ret (results_cell_tmp rfl _ _ (N + 1) 25 (totR u.1 u.2) (0, 0) _ rfl (setRow_heap wr (N + 1) _ _ _ _ T1.out) Tryd.underlying25 rfl (totInfo HDu.out.1)) rfl ?_
      refine ⟨?_, below_setRow HB.out _ (by rw [EN.out]; omega) _⟩
      rw [HE.out]
      rfl
    have k1' : (k : Int) < (m2 : Int) := by omega
    obtain ⟨pb, po, hA, hpb, hpr, hpd⟩ := TSl.at_ HSl.out HP.out k1
    have HPr : Hid (wr.rangeAt pb (po + k * 33) (totL (path.getD k noTot).1 (path.getD k noTot).2)) := aside (fun j v hv => (HB.out.cell (p := ⟨pb, po + k * 33 + j, none⟩) hpb).trans (hpr j v hv))
    obtain ⟨p, hp⟩ : ∃ p, p = path.getD k noTot := ⟨_, rfl⟩
    obtain ⟨b, hb⟩ : ∃ b, b = W.getD k false := ⟨_, rfl⟩
    have HStep := aside (foldP_step (t := u) (W := W) (path := path) (k := k) (by omega) (by omega) b hb p hp)
    rw [← hp] at HPr hpd
    have HPd := aside hpd
    clear hp hpr hpd
    obtain ⟨sb, so, hA2, hsb, hsc⟩ := BSl.at_ HS.out k1
    rw [← hb] at hsc
    have HSc := aside hsc
    have HA := aside hA
    subst hA2
    clear hb hsc
    subst hA
    have R0 := TotAt.new wr 0 zeroD
    have hk0 : (0 : Int) ≤ (k : Int) := by omega
    go_upto_region 12 with (first
      | (refine wpList_load_mid rfl 25 (.tmp 57) rfl pb (po + k * 33) rfl (totL p.1 p.2) _ HPr.out Tryd.underlying25 rfl (totLI HPd.out.1) ?_)
      | (refine wpList_store_row rfl 25 (.tmp 13) (.tmp 58) rfl wr.heap.size (totR p.1 p.2) rfl rfl 25 (totR 0 zeroD) R0 (totInfo HPd.out.1) (tot_same rfl HPd.out.1) (totR_one _ _) ?_)
      | fail)
    have TP' : TotAt ((wr.alloc (.cells (totR 0 zeroD) 25)).setRow wr.heap.size (totR p.1 p.2)) wr.heap.size p.1 p.2 := R0.setRow
    have TU' : TotAt ((wr.alloc (.cells (totR 0 zeroD) 25)).setRow wr.heap.size (totR p.1 p.2)) N u.1 u.2 := (T0.out.alloc _).otherRow _ (Nat.ne_of_lt T0.out.lt)
    have TZ' : TotAt ((wr.alloc (.cells (totR 0 zeroD) 25)).setRow wr.heap.size (totR p.1 p.2)) (N + 1) 0 zeroD := (T1.out.alloc _).otherRow _ (Nat.ne_of_lt T1.out.lt)
    have hB3 : Below wr.heap.size wr ((wr.alloc (.cells (totR 0 zeroD) 25)).setRow wr.heap.size (totR p.1 p.2)) := below_setRow (below_more (Below.refl _ _) _) _ (Nat.le_refl _) _
    change Code.wp _ _ _ _ ((wr.alloc (.cells (totR 0 zeroD) 25)).setRow wr.heap.size (totR p.1 p.2))
    generalize ((wr.alloc (.cells (totR 0 zeroD) 25)).setRow wr.heap.size (totR p.1 p.2)) = w3 at TP' TU' TZ' hB3 ⊢
    have TP := aside TP'
    have TU := aside TU'
    have TZ := aside TZ'
    have HB3 := aside hB3
    clear TP' TU' TZ' R0
    obtain ⟨M0, hM0⟩ : ∃ M0, M0 = wr.heap.size := ⟨_, rfl⟩
    have EM := aside hM0
    simp only [← hM0] at TP ⊢
    clear hM0 hB3
    have T4' : TotAt (((w3.alloc (.cells (totR 0 zeroD) 25)).alloc (.cells (totR 0 zeroD) 25)).drew) w3.heap.size 0 zeroD := (TotAt.new w3 0 zeroD).alloc _
    have T5' : TotAt (((w3.alloc (.cells (totR 0 zeroD) 25)).alloc (.cells (totR 0 zeroD) 25)).drew) (w3.heap.size + 1) 0 zeroD := (by have h := TotAt.new (w3.alloc (.cells (totR 0 zeroD) 25)) 0 zeroD; rwa [show (w3.alloc (.cells (totR 0 zeroD) 25)).heap.size = w3.heap.size + 1 by simp] at h)
    obtain ⟨M3, hM3⟩ : ∃ M3, M3 = w3.heap.size := ⟨_, rfl⟩
    have ltP : M0 < M3 := by rw [hM3]; exact TP.out.lt
    have ltU : N < M3 := by rw [hM3]; exact TU.out.lt
    have hD3 : Below M3 w3 w3.drew := by rw [hM3]; exact below_drawn (Below.refl _ _) 1
    have hD4 : ∀ o, Below M3 w3 (w3.alloc o).drew := fun o => by rw [hM3]; exact below_drawn (below_more (Below.refl _ _) _) 1
    have hD5 : ∀ o o', Below M3 w3 ((w3.alloc o).alloc o').drew := fun o o' => by rw [hM3]; exact below_drawn (below_more (below_more (Below.refl _ _) _) _) 1
    have hB4 : Below M3 w3 (((w3.alloc (.cells (totR 0 zeroD) 25)).alloc (.cells (totR 0 zeroD) 25)).drew) := hD5 _ _
    have EM3 := aside hM3
    have hM3' : M3 ≤ w3.heap.size := Nat.le_of_eq hM3
    clear hM3
    refine wp_region_noPanic ?_
    refine wp_region_held_drew (S := (fun w' => Below M3 w3 w')) (by kernel_rfl) hD3 (fun hS => ?_)
    refine wpAnyH_take (i := 0) (v := _) rfl (by kernel_rfl) (by kernel_rfl) (by kernel_rfl) (fun _ _ _ h => h) (yieldsIf_load_mid (by rfl) _ _ rfl M0 0 rfl (totL p.1 p.2) _ (fun X hX => (TP.out.below hX ltP).range) Tryd.underlying25 rfl (totLI HPd.out.1)) hS ?_
    (repeat (first | simp only [List.getElem_toArray] | simp only [List.getElem_cons_succ] | simp only [List.getElem_cons_zero] | simp only [Act.put] | simp only [List.setIfInBounds_toArray] | simp only [List.set_cons_succ] | simp only [List.set_cons_zero]))
    refine wpAnyH_take (i := 1) (v := _) rfl (by kernel_rfl) (by kernel_rfl) (by kernel_rfl) (fun _ _ _ h => h) (yieldsIf_load_mid (by rfl) _ _ rfl N 0 rfl (totL u.1 u.2) _ (fun X hX => (TU.out.below hX ltU).range) Tryd.underlying25 rfl (totLI HDu.out.1)) hS ?_
    (repeat (first | simp only [List.getElem_toArray] | simp only [List.getElem_cons_succ] | simp only [List.getElem_cons_zero] | simp only [Act.put] | simp only [List.setIfInBounds_toArray] | simp only [List.set_cons_succ] | simp only [List.set_cons_zero]))
    refine wpAnyH_ready (rs := [2, 3]) (by kernel_rfl) (by simp) ?_
    refine AllReadyH.cons rfl (fun K hK => ?_) (AllReadyH.cons rfl (fun K hK => ?_) (AllReadyH.nil))
    · skip
      go_simp
      refine (fun hS' => hK.out _ _ hS' (fun hS => ?_)) (hD4 _)
      clear hK K
      (repeat (first | simp only [List.getElem_toArray] | simp only [List.getElem_cons_succ] | simp only [List.getElem_cons_zero] | simp only [Act.put] | simp only [List.setIfInBounds_toArray] | simp only [List.set_cons_succ] | simp only [List.set_cons_zero]))
      refine wpAnyH_ready (rs := [3]) (by kernel_rfl) (by simp) ?_
      refine AllReadyH.cons rfl (fun K hK => ?_) (AllReadyH.nil)
      go_simp
      refine (fun hS' => hK.out _ _ hS' (fun hS => ?_)) (hD5 _ _)
      clear hK K
      (repeat (first | simp only [List.getElem_toArray] | simp only [List.getElem_cons_succ] | simp only [List.getElem_cons_zero] | simp only [Act.put] | simp only [List.setIfInBounds_toArray] | simp only [List.set_cons_succ] | simp only [List.set_cons_zero]))
      clear hS
      change wpAnyH _ _ _ _ _ _ _ _ (((w3.alloc (.cells (totR 0 zeroD) 25)).alloc (.cells (totR 0 zeroD) 25)).drew)
      generalize ((w3.alloc (.cells (totR 0 zeroD) 25)).alloc (.cells (totR 0 zeroD) 25)).drew = w4 at T4' T5' hB4 ⊢
      have h14 : TotAt w4 (w3.heap.size) 0 zeroD := T4'
      have h15 : TotAt w4 (w3.heap.size + 1) 0 zeroD := T5'
      clear T4' T5'
      obtain ⟨a14, ha14⟩ : ∃ a14, a14 = w3.heap.size := ⟨_, rfl⟩
      obtain ⟨a15, ha15⟩ : ∃ a15, a15 = w3.heap.size + 1 := ⟨_, rfl⟩
      have hle14 : M3 ≤ a14 := by omega
      have hle15 : M3 ≤ a15 := by omega
      have hne : a14 ≠ a15 := by omega
      rw [← ha15] at h15 ⊢
      rw [← ha14] at h14 ⊢
      clear ha14 ha15
      refine wpAnyH_ready (rs := [4]) (by kernel_rfl) (by simp) ?_
      refine AllReadyH.cons rfl (fun K hK => ?_) (AllReadyH.nil)
      rw [if_pos (by rfl)]
      refine wp_store_row 25 (.tmp 14) (.tmp 59) rfl a14 (totR p.1 p.2) rfl rfl 25 (totR 0 zeroD) h14 (totInfo HPd.out.1) (tot_same rfl HPd.out.1) (totR_one _ _) ?_
      refine (fun hS' => hK.out _ _ hS' (fun hS => ?_)) (below_setRow hB4 _ hle14 _)
      clear hK K
      (repeat (first | simp only [List.getElem_toArray] | simp only [List.getElem_cons_succ] | simp only [List.getElem_cons_zero] | simp only [Act.put] | simp only [List.setIfInBounds_toArray] | simp only [List.set_cons_succ] | simp only [List.set_cons_zero]))
      refine wpAnyH_ready (rs := [5]) (by kernel_rfl) (by simp) ?_
      refine AllReadyH.cons rfl (fun K hK => ?_) (AllReadyH.nil)
      rw [if_pos (by rfl)]
      refine wp_store_row 25 (.tmp 15) (.tmp 60) rfl a15 (totR u.1 u.2) rfl rfl 25 (totR 0 zeroD) (h15.otherRow _ (Ne.symm hne)) (totInfo HDu.out.1) (tot_same rfl HDu.out.1) (totR_one _ _) ?_
      refine (fun hS' => hK.out _ _ hS' (fun hS => ?_)) (below_setRow (below_setRow hB4 _ hle14 _) _ hle15 _)
      clear hK K
      (repeat (first | simp only [List.getElem_toArray] | simp only [List.getElem_cons_succ] | simp only [List.getElem_cons_zero] | simp only [Act.put] | simp only [List.setIfInBounds_toArray] | simp only [List.set_cons_succ] | simp only [List.set_cons_zero]))
      refine wpAnyH_done (by kernel_rfl) ?_ _
      refine NoPanic.normal ?_
      (repeat (first | simp only [List.getElem_toArray] | simp only [List.getElem_cons_succ] | simp only [List.getElem_cons_zero] | simp only [Act.put] | simp only [List.setIfInBounds_toArray] | simp only [List.set_cons_succ] | simp only [List.set_cons_zero]))
      have hTL : TotAt ((w4.setRow a14 (totR p.1 p.2)).setRow a15 (totR u.1 u.2)) a14 p.1 p.2 := h14.setRow.otherRow _ hne
      have hTR : TotAt ((w4.setRow a14 (totR p.1 p.2)).setRow a15 (totR u.1 u.2)) a15 u.1 u.2 := (h15.otherRow _ (Ne.symm hne)).setRow
      have hB5 : Below M3 w3 ((w4.setRow a14 (totR p.1 p.2)).setRow a15 (totR u.1 u.2)) := below_setRow (below_setRow hB4 _ hle14 _) _ hle15 _
      clear hS h14 h15 hB4
      generalize ((w4.setRow a14 (totR p.1 p.2)).setRow a15 (totR u.1 u.2)) = w5 at hTL hTR hB5 ⊢
      have TL := aside hTL
      have TR := aside hTR
      have HB5 := aside hB5
      clear hTL hTR hB5
      have hsc5 : w5.cell? ⟨sb, so + k, none⟩ = some (.bool b) := (HB5.out.cell (p := ⟨sb, so + k, none⟩) (Nat.lt_of_lt_of_le hsb (by rw [EM3.out]; exact HB3.out.size))).trans ((HB3.out.cell (p := ⟨sb, so + k, none⟩) hsb).trans HSc.out)
      cases b
      case false =>
        have hBx0 : Below wr.heap.size wr w5 := HB3.out.trans (HB5.out.mono (by rw [EM3.out]; exact HB3.out.size))
        have HGx : Hid (RoundsAt w5) := aside (HG.out.below (HB.out.trans (hBx0.mono HB.out.size)))
        obtain ⟨x, q, hx⟩ : ∃ x q, nodeR p u = (x, q) := ⟨_, _, rfl⟩
        have hNode := node_any p u HPd.out HDu.out w5 HGx.out
        unfold tellV at hNode
        rw [hx] at hNode
        have HDx : Hid (Dig x.2) := aside (by have h := nodeR_dig p u; rw [hx] at h; exact h)
        have HBx0 := aside hBx0
        clear hBx0
        have HF3 : Hid (foldP t W path = if q = 0 then foldP x (W.drop (k + 1)) (path.drop (k + 1)) else (noTot, q)) := aside (by rw [HFo.out, HStep.out]; simp only [Bool.false_eq_true, if_false, hx])
        by_cases hq : q = 0
        · subst hq
          have HNode : Hid (Calls Tryd.prog 17 #[.agg (totR p.1 p.2), .agg (totR u.1 u.2)] w5 (fun e w' => e = .returned (.tuple #[tV x, .nilIface]) ∧ Below w5.heap.size w5 w')) := aside hNode
          clear hNode hx
          go_upto_region 16 with (first
            | (refine wpList_load_row rfl 25 (.tmp 14) rfl a14 rfl 25 (totR p.1 p.2) (0, 0) _ TL.out Tryd.underlying25 rfl (totInfo HPd.out.1) ?_)
            | (refine wpList_load_row rfl 25 (.tmp 15) rfl a15 rfl 25 (totR u.1 u.2) (0, 0) _ TR.out Tryd.underlying25 rfl (totInfo HDu.out.1) ?_)
            | (go_at_call 17; refine HNode.out.mono ?_; rintro e w7 ⟨rfl, hb7⟩; have HB7 : Hid (Below wr.heap.size wr w7) := aside (below_then HBx0.out hb7); have R7 := TotAt.new w7 0 zeroD; clear hb7)
            | (refine wpList_store_row rfl 25 (.tmp 16) (.tmp 71) rfl w7.heap.size (totR x.1 x.2) rfl rfl 25 (totR 0 zeroD) R7 (totInfo HDx.out.1) (tot_same rfl HDx.out.1) (totR_one _ _) ?_)
            | fail)
          have T16' : TotAt ((w7.alloc (.cells (totR 0 zeroD) 25)).setRow w7.heap.size (totR x.1 x.2)) w7.heap.size x.1 x.2 := R7.setRow
          have hB8' : Below wr.heap.size wr ((w7.alloc (.cells (totR 0 zeroD) 25)).setRow w7.heap.size (totR x.1 x.2)) := below_setRow (below_more HB7.out _) _ HB7.out.size _
          change Code.wp _ _ _ _ ((w7.alloc (.cells (totR 0 zeroD) 25)).setRow w7.heap.size (totR x.1 x.2))
          generalize hV : ((w7.alloc (.cells (totR 0 zeroD) 25)).setRow w7.heap.size (totR x.1 x.2)) = w8 at T16' hB8' ⊢
          clear hV R7
          have T16 := aside T16'
          have HB8 := aside hB8'
          clear T16' hB8'
          have TU8 : Hid (TotAt w8 N u.1 u.2) := aside (T0.out.below HB8.out T0.out.lt)
          have TZ8 : Hid (TotAt w8 (N + 1) 0 zeroD) := aside (T1.out.below HB8.out T1.out.lt)
          go_wp2_with (first
            | (refine wpList_load_row rfl 25 (.tmp 16) rfl w7.heap.size rfl 25 (totR x.1 x.2) (0, 0) _ T16.out Tryd.underlying25 rfl (totInfo HDx.out.1) ?_)
            | (refine wpList_store_row rfl 25 (.tmp 4) (.tmp 77) rfl N (totR x.1 x.2) rfl rfl 25 (totR u.1 u.2) TU8.out (totInfo HDx.out.1) (tot_same HDu.out.1 HDx.out.1) (totR_one _ _) ?_)
            | fail)
          refine ⟨⟨k + 1, x, by omega, by go_num, HDx, aside TU8.out.setRow, aside (TZ8.out.otherRow _ (by omega)), aside ?_, aside ?_, aside ?_⟩, ?measure⟩
          · rw [HF3.out]; exact if_pos (by trivial)
          · exact (BSl.other (HS.out.step HB8.out) (HF2a.out.mono (by omega)) _).more (by simp)
          · exact below_setRow (HB.out.trans (HB8.out.mono HB.out.size)) _ (by rw [EN.out]; omega) _
          case measure => simp [Go.RowKit.intOf]; omega
        · skip
          have he : errA q = .iface 40 (.int .i64 q) := by unfold errA; rw [if_neg hq]
          dsimp only at hNode
          rw [he] at hNode
          have HQ := aside hq
          clear he hq
          have HNode : Hid (Calls Tryd.prog 17 #[.agg (totR p.1 p.2), .agg (totR u.1 u.2)] w5 (fun e w' => e = .returned (.tuple #[tV x, .iface 40 (.int .i64 q)]) ∧ Below w5.heap.size w5 w')) := aside hNode
          clear hNode hx
          go_upto_region 16 with (first
            | (refine wpList_load_row rfl 25 (.tmp 14) rfl a14 rfl 25 (totR p.1 p.2) (0, 0) _ TL.out Tryd.underlying25 rfl (totInfo HPd.out.1) ?_)
            | (refine wpList_load_row rfl 25 (.tmp 15) rfl a15 rfl 25 (totR u.1 u.2) (0, 0) _ TR.out Tryd.underlying25 rfl (totInfo HDu.out.1) ?_)
            | (go_at_call 17; refine HNode.out.mono ?_; rintro e w7 ⟨rfl, hb7⟩; have HB7 : Hid (Below wr.heap.size wr w7) := aside (below_then HBx0.out hb7); have R7 := TotAt.new w7 0 zeroD; clear hb7)
            | (refine wpList_store_row rfl 25 (.tmp 16) (.tmp 71) rfl w7.heap.size (totR x.1 x.2) rfl rfl 25 (totR 0 zeroD) R7 (totInfo HDx.out.1) (tot_same rfl HDx.out.1) (totR_one _ _) ?_)
            | fail)
          have T16' : TotAt ((w7.alloc (.cells (totR 0 zeroD) 25)).setRow w7.heap.size (totR x.1 x.2)) w7.heap.size x.1 x.2 := R7.setRow
          have hB8' : Below wr.heap.size wr ((w7.alloc (.cells (totR 0 zeroD) 25)).setRow w7.heap.size (totR x.1 x.2)) := below_setRow (below_more HB7.out _) _ HB7.out.size _
          change Code.wp _ _ _ _ ((w7.alloc (.cells (totR 0 zeroD) 25)).setRow w7.heap.size (totR x.1 x.2))
          generalize hV : ((w7.alloc (.cells (totR 0 zeroD) 25)).setRow w7.heap.size (totR x.1 x.2)) = w8 at T16' hB8' ⊢
          clear hV R7
          have T16 := aside T16'
          have HB8 := aside hB8'
          clear T16' hB8'
          have TU8 : Hid (TotAt w8 N u.1 u.2) := aside (T0.out.below HB8.out T0.out.lt)
          have TZ8 : Hid (TotAt w8 (N + 1) 0 zeroD) := aside (T1.out.below HB8.out T1.out.lt)
          go_wp2_with (first
            | (refine wpList_totz rfl rfl ?_)
            | (refine wpList_store_row rfl 25 (.tmp 8) (.tmp 75) rfl (N + 1) (totR 0 zeroD) rfl rfl 25 (totR 0 zeroD) TZ8.out (totInfo rfl) rfl (totR_one _ _) ?_)
            | fail)
          refine bodyPost_ret (results_cell_tmp rfl _ _ (N + 1) 25 (totR 0 zeroD) (0, 0) _ rfl (setRow_heap w8 (N + 1) _ _ _ _ TZ8.out) Tryd.underlying25 rfl (totInfo rfl)) rfl ?_
          refine ⟨?_, below_setRow (HB.out.trans (HB8.out.mono HB.out.size)) _ (by rw [EN.out]; omega) _⟩
          rw [HF3.out, if_neg HQ.out]
          unfold tellV errA
          rw [if_neg HQ.out]
          rfl
      case true =>
        go_upto_region 14 with fail
        have hDr : Below M3 w3 w5.drew := below_drawn HB5.out 1
        refine wp_region_noPanic ?_
        refine wp_region_held_drew (S := (fun w' => Below M3 w3 w')) (by kernel_rfl) hDr (fun hS => ?_)
        refine wpAnyH_take (i := 0) (v := _) rfl (by kernel_rfl) (by kernel_rfl) (by kernel_rfl) (fun _ _ _ h => h) (yieldsIf_load_mid (by rfl) _ _ rfl N 0 rfl (totL u.1 u.2) _ (fun X hX => (TU.out.below hX ltU).range) Tryd.underlying25 rfl (totLI HDu.out.1)) hS ?_
        (repeat (first | simp only [List.getElem_toArray] | simp only [List.getElem_cons_succ] | simp only [List.getElem_cons_zero] | simp only [Act.put] | simp only [List.setIfInBounds_toArray] | simp only [List.set_cons_succ] | simp only [List.set_cons_zero]))
        refine wpAnyH_take (i := 1) (v := _) rfl (by kernel_rfl) (by kernel_rfl) (by kernel_rfl) (fun _ _ _ h => h) (yieldsIf_load_mid (by rfl) _ _ rfl M0 0 rfl (totL p.1 p.2) _ (fun X hX => (TP.out.below hX ltP).range) Tryd.underlying25 rfl (totLI HPd.out.1)) hS ?_
        (repeat (first | simp only [List.getElem_toArray] | simp only [List.getElem_cons_succ] | simp only [List.getElem_cons_zero] | simp only [Act.put] | simp only [List.setIfInBounds_toArray] | simp only [List.set_cons_succ] | simp only [List.set_cons_zero]))
        refine wpAnyH_ready (rs := [2]) (by kernel_rfl) (by simp) ?_
        refine AllReadyH.cons rfl (fun K hK => ?_) (AllReadyH.nil)
        rw [if_pos (by rfl)]
        refine wp_store_row 25 (.tmp 14) (.tmp 65) rfl a14 (totR u.1 u.2) rfl rfl 25 (totR p.1 p.2) (show TotAt w5.drew a14 p.1 p.2 from TL.out) (totInfo HDu.out.1) (tot_same HPd.out.1 HDu.out.1) (totR_one _ _) ?_
        refine (fun hS' => hK.out _ _ hS' (fun hS => ?_)) (below_setRow hDr _ hle14 _)
        clear hK K
        (repeat (first | simp only [List.getElem_toArray] | simp only [List.getElem_cons_succ] | simp only [List.getElem_cons_zero] | simp only [Act.put] | simp only [List.setIfInBounds_toArray] | simp only [List.set_cons_succ] | simp only [List.set_cons_zero]))
        refine wpAnyH_ready (rs := [3]) (by kernel_rfl) (by simp) ?_
        refine AllReadyH.cons rfl (fun K hK => ?_) (AllReadyH.nil)
        rw [if_pos (by rfl)]
        refine wp_store_row 25 (.tmp 15) (.tmp 66) rfl a15 (totR p.1 p.2) rfl rfl 25 (totR u.1 u.2) ((show TotAt w5.drew a15 u.1 u.2 from TR.out).otherRow _ (Ne.symm hne)) (totInfo HPd.out.1) (tot_same HDu.out.1 HPd.out.1) (totR_one _ _) ?_
        refine (fun hS' => hK.out _ _ hS' (fun hS => ?_)) (below_setRow (below_setRow hDr _ hle14 _) _ hle15 _)
        clear hK K
        (repeat (first | simp only [List.getElem_toArray] | simp only [List.getElem_cons_succ] | simp only [List.getElem_cons_zero] | simp only [Act.put] | simp only [List.setIfInBounds_toArray] | simp only [List.set_cons_succ] | simp only [List.set_cons_zero]))
        refine wpAnyH_done (by kernel_rfl) ?_ _
        refine NoPanic.normal ?_
        (repeat (first | simp only [List.getElem_toArray] | simp only [List.getElem_cons_succ] | simp only [List.getElem_cons_zero] | simp only [Act.put] | simp only [List.setIfInBounds_toArray] | simp only [List.set_cons_succ] | simp only [List.set_cons_zero]))
        have hTL6 : TotAt ((w5.drew.setRow a14 (totR u.1 u.2)).setRow a15 (totR p.1 p.2)) a14 u.1 u.2 := (show TotAt w5.drew a14 p.1 p.2 from TL.out).setRow.otherRow _ hne
        have hTR6 : TotAt ((w5.drew.setRow a14 (totR u.1 u.2)).setRow a15 (totR p.1 p.2)) a15 p.1 p.2 := ((show TotAt w5.drew a15 u.1 u.2 from TR.out).otherRow _ (Ne.symm hne)).setRow
        have hB6 : Below M3 w3 ((w5.drew.setRow a14 (totR u.1 u.2)).setRow a15 (totR p.1 p.2)) := below_setRow (below_setRow hDr _ hle14 _) _ hle15 _
        clear hS hS'
        generalize ((w5.drew.setRow a14 (totR u.1 u.2)).setRow a15 (totR p.1 p.2)) = w6 at hTL6 hTR6 hB6 ⊢
        have TL6 := aside hTL6
        have TR6 := aside hTR6
        have HB6 := aside hB6
        clear hTL6 hTR6 hB6
        have hBx0 : Below wr.heap.size wr w6 := HB3.out.trans (HB6.out.mono (by rw [EM3.out]; exact HB3.out.size))
        have HGx : Hid (RoundsAt w6) := aside (HG.out.below (HB.out.trans (hBx0.mono HB.out.size)))
        obtain ⟨x, q, hx⟩ : ∃ x q, nodeR u p = (x, q) := ⟨_, _, rfl⟩
        have hNode := node_any u p HDu.out HPd.out w6 HGx.out
        unfold tellV at hNode
        rw [hx] at hNode
        have HDx : Hid (Dig x.2) := aside (by have h := nodeR_dig u p; rw [hx] at h; exact h)
        have HBx0 := aside hBx0
        clear hBx0
        have HF3 : Hid (foldP t W path = if q = 0 then foldP x (W.drop (k + 1)) (path.drop (k + 1)) else (noTot, q)) := aside (by rw [HFo.out, HStep.out]; simp only [if_true, hx])
        by_cases hq : q = 0
        · subst hq
          have HNode : Hid (Calls Tryd.prog 17 #[.agg (totR u.1 u.2), .agg (totR p.1 p.2)] w6 (fun e w' => e = .returned (.tuple #[tV x, .nilIface]) ∧ Below w6.heap.size w6 w')) := aside hNode
          clear hNode hx
          go_upto_region 16 with (first
            | (refine wpList_load_row rfl 25 (.tmp 14) rfl a14 rfl 25 (totR u.1 u.2) (0, 0) _ TL6.out Tryd.underlying25 rfl (totInfo HDu.out.1) ?_)
            | (refine wpList_load_row rfl 25 (.tmp 15) rfl a15 rfl 25 (totR p.1 p.2) (0, 0) _ TR6.out Tryd.underlying25 rfl (totInfo HPd.out.1) ?_)
            | (go_at_call 17; refine HNode.out.mono ?_; rintro e w7 ⟨rfl, hb7⟩; have HB7 : Hid (Below wr.heap.size wr w7) := aside (below_then HBx0.out hb7); have R7 := TotAt.new w7 0 zeroD; clear hb7)
            | (refine wpList_store_row rfl 25 (.tmp 16) (.tmp 71) rfl w7.heap.size (totR x.1 x.2) rfl rfl 25 (totR 0 zeroD) R7 (totInfo HDx.out.1) (tot_same rfl HDx.out.1) (totR_one _ _) ?_)
            | fail)
          have T16' : TotAt ((w7.alloc (.cells (totR 0 zeroD) 25)).setRow w7.heap.size (totR x.1 x.2)) w7.heap.size x.1 x.2 := R7.setRow
          have hB8' : Below wr.heap.size wr ((w7.alloc (.cells (totR 0 zeroD) 25)).setRow w7.heap.size (totR x.1 x.2)) := below_setRow (below_more HB7.out _) _ HB7.out.size _
          change Code.wp _ _ _ _ ((w7.alloc (.cells (totR 0 zeroD) 25)).setRow w7.heap.size (totR x.1 x.2))
          generalize hV : ((w7.alloc (.cells (totR 0 zeroD) 25)).setRow w7.heap.size (totR x.1 x.2)) = w8 at T16' hB8' ⊢
          clear hV R7
          have T16 := aside T16'
          have HB8 := aside hB8'
          clear T16' hB8'
          have TU8 : Hid (TotAt w8 N u.1 u.2) := aside (T0.out.below HB8.out T0.out.lt)
          have TZ8 : Hid (TotAt w8 (N + 1) 0 zeroD) := aside (T1.out.below HB8.out T1.out.lt)
          go_wp2_with (first
            | (refine wpList_load_row rfl 25 (.tmp 16) rfl w7.heap.size rfl 25 (totR x.1 x.2) (0, 0) _ T16.out Tryd.underlying25 rfl (totInfo HDx.out.1) ?_)
            | (refine wpList_store_row rfl 25 (.tmp 4) (.tmp 77) rfl N (totR x.1 x.2) rfl rfl 25 (totR u.1 u.2) TU8.out (totInfo HDx.out.1) (tot_same HDu.out.1 HDx.out.1) (totR_one _ _) ?_)
            | fail)
          refine ⟨⟨k + 1, x, by omega, by go_num, HDx, aside TU8.out.setRow, aside (TZ8.out.otherRow _ (by omega)), aside ?_, aside ?_, aside ?_⟩, ?measure⟩
          · rw [HF3.out]; exact if_pos (by trivial)
          · exact (BSl.other (HS.out.step HB8.out) (HF2a.out.mono (by omega)) _).more (by simp)
          · exact below_setRow (HB.out.trans (HB8.out.mono HB.out.size)) _ (by rw [EN.out]; omega) _
          case measure => simp [Go.RowKit.intOf]; omega
        · skip
          have he : errA q = .iface 40 (.int .i64 q) := by unfold errA; rw [if_neg hq]
          dsimp only at hNode
          rw [he] at hNode
          have HQ := aside hq
          clear he hq
          have HNode : Hid (Calls Tryd.prog 17 #[.agg (totR u.1 u.2), .agg (totR p.1 p.2)] w6 (fun e w' => e = .returned (.tuple #[tV x, .iface 40 (.int .i64 q)]) ∧ Below w6.heap.size w6 w')) := aside hNode
          clear hNode hx
          go_upto_region 16 with (first
            | (refine wpList_load_row rfl 25 (.tmp 14) rfl a14 rfl 25 (totR u.1 u.2) (0, 0) _ TL6.out Tryd.underlying25 rfl (totInfo HDu.out.1) ?_)
            | (refine wpList_load_row rfl 25 (.tmp 15) rfl a15 rfl 25 (totR p.1 p.2) (0, 0) _ TR6.out Tryd.underlying25 rfl (totInfo HPd.out.1) ?_)
            | (go_at_call 17; refine HNode.out.mono ?_; rintro e w7 ⟨rfl, hb7⟩; have HB7 : Hid (Below wr.heap.size wr w7) := aside (below_then HBx0.out hb7); have R7 := TotAt.new w7 0 zeroD; clear hb7)
            | (refine wpList_store_row rfl 25 (.tmp 16) (.tmp 71) rfl w7.heap.size (totR x.1 x.2) rfl rfl 25 (totR 0 zeroD) R7 (totInfo HDx.out.1) (tot_same rfl HDx.out.1) (totR_one _ _) ?_)
            | fail)
          have T16' : TotAt ((w7.alloc (.cells (totR 0 zeroD) 25)).setRow w7.heap.size (totR x.1 x.2)) w7.heap.size x.1 x.2 := R7.setRow
          have hB8' : Below wr.heap.size wr ((w7.alloc (.cells (totR 0 zeroD) 25)).setRow w7.heap.size (totR x.1 x.2)) := below_setRow (below_more HB7.out _) _ HB7.out.size _
          change Code.wp _ _ _ _ ((w7.alloc (.cells (totR 0 zeroD) 25)).setRow w7.heap.size (totR x.1 x.2))
          generalize hV : ((w7.alloc (.cells (totR 0 zeroD) 25)).setRow w7.heap.size (totR x.1 x.2)) = w8 at T16' hB8' ⊢
          clear hV R7
          have T16 := aside T16'
          have HB8 := aside hB8'
          clear T16' hB8'
          have TU8 : Hid (TotAt w8 N u.1 u.2) := aside (T0.out.below HB8.out T0.out.lt)
          have TZ8 : Hid (TotAt w8 (N + 1) 0 zeroD) := aside (T1.out.below HB8.out T1.out.lt)
          go_wp2_with (first
            | (refine wpList_totz rfl rfl ?_)
            | (refine wpList_store_row rfl 25 (.tmp 8) (.tmp 75) rfl (N + 1) (totR 0 zeroD) rfl rfl 25 (totR 0 zeroD) TZ8.out (totInfo rfl) rfl (totR_one _ _) ?_)
            | fail)
          refine bodyPost_ret (results_cell_tmp rfl _ _ (N + 1) 25 (totR 0 zeroD) (0, 0) _ rfl (setRow_heap w8 (N + 1) _ _ _ _ TZ8.out) Tryd.underlying25 rfl (totInfo rfl)) rfl ?_
          refine ⟨?_, below_setRow (HB.out.trans (HB8.out.mono HB.out.size)) _ (by rw [EN.out]; omega) _⟩
          rw [HF3.out, if_neg HQ.out]
          unfold tellV errA
          rw [if_neg HQ.out]
          rfl
    · skip
      go_simp
      refine (fun hS' => hK.out _ _ hS' (fun hS => ?_)) (hD4 _)
      clear hK K
      (repeat (first | simp only [List.getElem_toArray] | simp only [List.getElem_cons_succ] | simp only [List.getElem_cons_zero] | simp only [Act.put] | simp only [List.setIfInBounds_toArray] | simp only [List.set_cons_succ] | simp only [List.set_cons_zero]))
      refine wpAnyH_ready (rs := [2]) (by kernel_rfl) (by simp) ?_
      refine AllReadyH.cons rfl (fun K hK => ?_) (AllReadyH.nil)
      go_simp
      refine (fun hS' => hK.out _ _ hS' (fun hS => ?_)) (hD5 _ _)
      clear hK K
      (repeat (first | simp only [List.getElem_toArray] | simp only [List.getElem_cons_succ] | simp only [List.getElem_cons_zero] | simp only [Act.put] | simp only [List.setIfInBounds_toArray] | simp only [List.set_cons_succ] | simp only [List.set_cons_zero]))
      clear hS
      change wpAnyH _ _ _ _ _ _ _ _ (((w3.alloc (.cells (totR 0 zeroD) 25)).alloc (.cells (totR 0 zeroD) 25)).drew)
      generalize ((w3.alloc (.cells (totR 0 zeroD) 25)).alloc (.cells (totR 0 zeroD) 25)).drew = w4 at T4' T5' hB4 ⊢
      have h14 : TotAt w4 (w3.heap.size + 1) 0 zeroD := T5'
      have h15 : TotAt w4 (w3.heap.size) 0 zeroD := T4'
      clear T4' T5'
      obtain ⟨a14, ha14⟩ : ∃ a14, a14 = w3.heap.size + 1 := ⟨_, rfl⟩
      obtain ⟨a15, ha15⟩ : ∃ a15, a15 = w3.heap.size := ⟨_, rfl⟩
      have hle14 : M3 ≤ a14 := by omega
      have hle15 : M3 ≤ a15 := by omega
      have hne : a14 ≠ a15 := by omega
      rw [← ha14] at h14 ⊢
      rw [← ha15] at h15 ⊢
      clear ha14 ha15
      refine wpAnyH_ready (rs := [4]) (by kernel_rfl) (by simp) ?_
      refine AllReadyH.cons rfl (fun K hK => ?_) (AllReadyH.nil)
      rw [if_pos (by rfl)]
      refine wp_store_row 25 (.tmp 14) (.tmp 59) rfl a14 (totR p.1 p.2) rfl rfl 25 (totR 0 zeroD) h14 (totInfo HPd.out.1) (tot_same rfl HPd.out.1) (totR_one _ _) ?_
      refine (fun hS' => hK.out _ _ hS' (fun hS => ?_)) (below_setRow hB4 _ hle14 _)
      clear hK K
      (repeat (first | simp only [List.getElem_toArray] | simp only [List.getElem_cons_succ] | simp only [List.getElem_cons_zero] | simp only [Act.put] | simp only [List.setIfInBounds_toArray] | simp only [List.set_cons_succ] | simp only [List.set_cons_zero]))
      refine wpAnyH_ready (rs := [5]) (by kernel_rfl) (by simp) ?_
      refine AllReadyH.cons rfl (fun K hK => ?_) (AllReadyH.nil)
      rw [if_pos (by rfl)]
      refine wp_store_row 25 (.tmp 15) (.tmp 60) rfl a15 (totR u.1 u.2) rfl rfl 25 (totR 0 zeroD) (h15.otherRow _ (Ne.symm hne)) (totInfo HDu.out.1) (tot_same rfl HDu.out.1) (totR_one _ _) ?_
      refine (fun hS' => hK.out _ _ hS' (fun hS => ?_)) (below_setRow (below_setRow hB4 _ hle14 _) _ hle15 _)
      clear hK K
      (repeat (first | simp only [List.getElem_toArray] | simp only [List.getElem_cons_succ] | simp only [List.getElem_cons_zero] | simp only [Act.put] | simp only [List.setIfInBounds_toArray] | simp only [List.set_cons_succ] | simp only [List.set_cons_zero]))
      refine wpAnyH_done (by kernel_rfl) ?_ _
      refine NoPanic.normal ?_
      (repeat (first | simp only [List.getElem_toArray] | simp only [List.getElem_cons_succ] | simp only [List.getElem_cons_zero] | simp only [Act.put] | simp only [List.setIfInBounds_toArray] | simp only [List.set_cons_succ] | simp only [List.set_cons_zero]))
      have hTL : TotAt ((w4.setRow a14 (totR p.1 p.2)).setRow a15 (totR u.1 u.2)) a14 p.1 p.2 := h14.setRow.otherRow _ hne
      have hTR : TotAt ((w4.setRow a14 (totR p.1 p.2)).setRow a15 (totR u.1 u.2)) a15 u.1 u.2 := (h15.otherRow _ (Ne.symm hne)).setRow
      have hB5 : Below M3 w3 ((w4.setRow a14 (totR p.1 p.2)).setRow a15 (totR u.1 u.2)) := below_setRow (below_setRow hB4 _ hle14 _) _ hle15 _
      clear hS h14 h15 hB4
      generalize ((w4.setRow a14 (totR p.1 p.2)).setRow a15 (totR u.1 u.2)) = w5 at hTL hTR hB5 ⊢
      have TL := aside hTL
      have TR := aside hTR
      have HB5 := aside hB5
      clear hTL hTR hB5
      have hsc5 : w5.cell? ⟨sb, so + k, none⟩ = some (.bool b) := (HB5.out.cell (p := ⟨sb, so + k, none⟩) (Nat.lt_of_lt_of_le hsb (by rw [EM3.out]; exact HB3.out.size))).trans ((HB3.out.cell (p := ⟨sb, so + k, none⟩) hsb).trans HSc.out)
      cases b
      case false =>
        have hBx0 : Below wr.heap.size wr w5 := HB3.out.trans (HB5.out.mono (by rw [EM3.out]; exact HB3.out.size))
        have HGx : Hid (RoundsAt w5) := aside (HG.out.below (HB.out.trans (hBx0.mono HB.out.size)))
        obtain ⟨x, q, hx⟩ : ∃ x q, nodeR p u = (x, q) := ⟨_, _, rfl⟩
        have hNode := node_any p u HPd.out HDu.out w5 HGx.out
        unfold tellV at hNode
        rw [hx] at hNode
        have HDx : Hid (Dig x.2) := aside (by have h := nodeR_dig p u; rw [hx] at h; exact h)
        have HBx0 := aside hBx0
        clear hBx0
        have HF3 : Hid (foldP t W path = if q = 0 then foldP x (W.drop (k + 1)) (path.drop (k + 1)) else (noTot, q)) := aside (by rw [HFo.out, HStep.out]; simp only [Bool.false_eq_true, if_false, hx])
        by_cases hq : q = 0
        · subst hq
          have HNode : Hid (Calls Tryd.prog 17 #[.agg (totR p.1 p.2), .agg (totR u.1 u.2)] w5 (fun e w' => e = .returned (.tuple #[tV x, .nilIface]) ∧ Below w5.heap.size w5 w')) := aside hNode
          clear hNode hx
          go_upto_region 16 with (first
            | (refine wpList_load_row rfl 25 (.tmp 14) rfl a14 rfl 25 (totR p.1 p.2) (0, 0) _ TL.out Tryd.underlying25 rfl (totInfo HPd.out.1) ?_)
            | (refine wpList_load_row rfl 25 (.tmp 15) rfl a15 rfl 25 (totR u.1 u.2) (0, 0) _ TR.out Tryd.underlying25 rfl (totInfo HDu.out.1) ?_)
            | (go_at_call 17; refine HNode.out.mono ?_; rintro e w7 ⟨rfl, hb7⟩; have HB7 : Hid (Below wr.heap.size wr w7) := aside (below_then HBx0.out hb7); have R7 := TotAt.new w7 0 zeroD; clear hb7)
            | (refine wpList_store_row rfl 25 (.tmp 16) (.tmp 71) rfl w7.heap.size (totR x.1 x.2) rfl rfl 25 (totR 0 zeroD) R7 (totInfo HDx.out.1) (tot_same rfl HDx.out.1) (totR_one _ _) ?_)
            | fail)
          have T16' : TotAt ((w7.alloc (.cells (totR 0 zeroD) 25)).setRow w7.heap.size (totR x.1 x.2)) w7.heap.size x.1 x.2 := R7.setRow
          have hB8' : Below wr.heap.size wr ((w7.alloc (.cells (totR 0 zeroD) 25)).setRow w7.heap.size (totR x.1 x.2)) := below_setRow (below_more HB7.out _) _ HB7.out.size _
          change Code.wp _ _ _ _ ((w7.alloc (.cells (totR 0 zeroD) 25)).setRow w7.heap.size (totR x.1 x.2))
          generalize hV : ((w7.alloc (.cells (totR 0 zeroD) 25)).setRow w7.heap.size (totR x.1 x.2)) = w8 at T16' hB8' ⊢
          clear hV R7
          have T16 := aside T16'
          have HB8 := aside hB8'
          clear T16' hB8'
          have TU8 : Hid (TotAt w8 N u.1 u.2) := aside (T0.out.below HB8.out T0.out.lt)
          have TZ8 : Hid (TotAt w8 (N + 1) 0 zeroD) := aside (T1.out.below HB8.out T1.out.lt)
          go_wp2_with (first
            | (refine wpList_load_row rfl 25 (.tmp 16) rfl w7.heap.size rfl 25 (totR x.1 x.2) (0, 0) _ T16.out Tryd.underlying25 rfl (totInfo HDx.out.1) ?_)
            | (refine wpList_store_row rfl 25 (.tmp 4) (.tmp 77) rfl N (totR x.1 x.2) rfl rfl 25 (totR u.1 u.2) TU8.out (totInfo HDx.out.1) (tot_same HDu.out.1 HDx.out.1) (totR_one _ _) ?_)
            | fail)
          refine ⟨⟨k + 1, x, by omega, by go_num, HDx, aside TU8.out.setRow, aside (TZ8.out.otherRow _ (by omega)), aside ?_, aside ?_, aside ?_⟩, ?measure⟩
          · rw [HF3.out]; exact if_pos (by trivial)
          · exact (BSl.other (HS.out.step HB8.out) (HF2a.out.mono (by omega)) _).more (by simp)
          · exact below_setRow (HB.out.trans (HB8.out.mono HB.out.size)) _ (by rw [EN.out]; omega) _
          case measure => simp [Go.RowKit.intOf]; omega
        · skip
          have he : errA q = .iface 40 (.int .i64 q) := by unfold errA; rw [if_neg hq]
          dsimp only at hNode
          rw [he] at hNode
          have HQ := aside hq
          clear he hq
          have HNode : Hid (Calls Tryd.prog 17 #[.agg (totR p.1 p.2), .agg (totR u.1 u.2)] w5 (fun e w' => e = .returned (.tuple #[tV x, .iface 40 (.int .i64 q)]) ∧ Below w5.heap.size w5 w')) := aside hNode
          clear hNode hx
          go_upto_region 16 with (first
            | (refine wpList_load_row rfl 25 (.tmp 14) rfl a14 rfl 25 (totR p.1 p.2) (0, 0) _ TL.out Tryd.underlying25 rfl (totInfo HPd.out.1) ?_)
            | (refine wpList_load_row rfl 25 (.tmp 15) rfl a15 rfl 25 (totR u.1 u.2) (0, 0) _ TR.out Tryd.underlying25 rfl (totInfo HDu.out.1) ?_)
            | (go_at_call 17; refine HNode.out.mono ?_; rintro e w7 ⟨rfl, hb7⟩; have HB7 : Hid (Below wr.heap.size wr w7) := aside (below_then HBx0.out hb7); have R7 := TotAt.new w7 0 zeroD; clear hb7)
            | (refine wpList_store_row rfl 25 (.tmp 16) (.tmp 71) rfl w7.heap.size (totR x.1 x.2) rfl rfl 25 (totR 0 zeroD) R7 (totInfo HDx.out.1) (tot_same rfl HDx.out.1) (totR_one _ _) ?_)
            | fail)
          have T16' : TotAt ((w7.alloc (.cells (totR 0 zeroD) 25)).setRow w7.heap.size (totR x.1 x.2)) w7.heap.size x.1 x.2 := R7.setRow
          have hB8' : Below wr.heap.size wr ((w7.alloc (.cells (totR 0 zeroD) 25)).setRow w7.heap.size (totR x.1 x.2)) := below_setRow (below_more HB7.out _) _ HB7.out.size _
          change Code.wp _ _ _ _ ((w7.alloc (.cells (totR 0 zeroD) 25)).setRow w7.heap.size (totR x.1 x.2))
          generalize hV : ((w7.alloc (.cells (totR 0 zeroD) 25)).setRow w7.heap.size (totR x.1 x.2)) = w8 at T16' hB8' ⊢
          clear hV R7
          have T16 := aside T16'
          have HB8 := aside hB8'
          clear T16' hB8'
          have TU8 : Hid (TotAt w8 N u.1 u.2) := aside (T0.out.below HB8.out T0.out.lt)
          have TZ8 : Hid (TotAt w8 (N + 1) 0 zeroD) := aside (T1.out.below HB8.out T1.out.lt)
          go_wp2_with (first
            | (refine wpList_totz rfl rfl ?_)
            | (refine wpList_store_row rfl 25 (.tmp 8) (.tmp 75) rfl (N + 1) (totR 0 zeroD) rfl rfl 25 (totR 0 zeroD) TZ8.out (totInfo rfl) rfl (totR_one _ _) ?_)
            | fail)
          refine bodyPost_ret (results_cell_tmp rfl _ _ (N + 1) 25 (totR 0 zeroD) (0, 0) _ rfl (setRow_heap w8 (N + 1) _ _ _ _ TZ8.out) Tryd.underlying25 rfl (totInfo rfl)) rfl ?_
          refine ⟨?_, below_setRow (HB.out.trans (HB8.out.mono HB.out.size)) _ (by rw [EN.out]; omega) _⟩
          rw [HF3.out, if_neg HQ.out]
          unfold tellV errA
          rw [if_neg HQ.out]
          rfl
      case true =>
        go_upto_region 14 with fail
        have hDr : Below M3 w3 w5.drew := below_drawn HB5.out 1
        refine wp_region_noPanic ?_
        refine wp_region_held_drew (S := (fun w' => Below M3 w3 w')) (by kernel_rfl) hDr (fun hS => ?_)
        refine wpAnyH_take (i := 0) (v := _) rfl (by kernel_rfl) (by kernel_rfl) (by kernel_rfl) (fun _ _ _ h => h) (yieldsIf_load_mid (by rfl) _ _ rfl N 0 rfl (totL u.1 u.2) _ (fun X hX => (TU.out.below hX ltU).range) Tryd.underlying25 rfl (totLI HDu.out.1)) hS ?_
        (repeat (first | simp only [List.getElem_toArray] | simp only [List.getElem_cons_succ] | simp only [List.getElem_cons_zero] | simp only [Act.put] | simp only [List.setIfInBounds_toArray] | simp only [List.set_cons_succ] | simp only [List.set_cons_zero]))
        refine wpAnyH_take (i := 1) (v := _) rfl (by kernel_rfl) (by kernel_rfl) (by kernel_rfl) (fun _ _ _ h => h) (yieldsIf_load_mid (by rfl) _ _ rfl M0 0 rfl (totL p.1 p.2) _ (fun X hX => (TP.out.below hX ltP).range) Tryd.underlying25 rfl (totLI HPd.out.1)) hS ?_
        (repeat (first | simp only [List.getElem_toArray] | simp only [List.getElem_cons_succ] | simp only [List.getElem_cons_zero] | simp only [Act.put] | simp only [List.setIfInBounds_toArray] | simp only [List.set_cons_succ] | simp only [List.set_cons_zero]))
        refine wpAnyH_ready (rs := [2]) (by kernel_rfl) (by simp) ?_
        refine AllReadyH.cons rfl (fun K hK => ?_) (AllReadyH.nil)
        rw [if_pos (by rfl)]
        refine wp_store_row 25 (.tmp 14) (.tmp 65) rfl a14 (totR u.1 u.2) rfl rfl 25 (totR p.1 p.2) (show TotAt w5.drew a14 p.1 p.2 from TL.out) (totInfo HDu.out.1) (tot_same HPd.out.1 HDu.out.1) (totR_one _ _) ?_
        refine (fun hS' => hK.out _ _ hS' (fun hS => ?_)) (below_setRow hDr _ hle14 _)
        clear hK K
        (repeat (first | simp only [List.getElem_toArray] | simp only [List.getElem_cons_succ] | simp only [List.getElem_cons_zero] | simp only [Act.put] | simp only [List.setIfInBounds_toArray] | simp only [List.set_cons_succ] | simp only [List.set_cons_zero]))
        refine wpAnyH_ready (rs := [3]) (by kernel_rfl) (by simp) ?_
        refine AllReadyH.cons rfl (fun K hK => ?_) (AllReadyH.nil)
        rw [if_pos (by rfl)]
        refine wp_store_row 25 (.tmp 15) (.tmp 66) rfl a15 (totR p.1 p.2) rfl rfl 25 (totR u.1 u.2) ((show TotAt w5.drew a15 u.1 u.2 from TR.out).otherRow _ (Ne.symm hne)) (totInfo HPd.out.1) (tot_same HDu.out.1 HPd.out.1) (totR_one _ _) ?_
        refine (fun hS' => hK.out _ _ hS' (fun hS => ?_)) (below_setRow (below_setRow hDr _ hle14 _) _ hle15 _)
        clear hK K
        (repeat (first | simp only [List.getElem_toArray] | simp only [List.getElem_cons_succ] | simp only [List.getElem_cons_zero] | simp only [Act.put] | simp only [List.setIfInBounds_toArray] | simp only [List.set_cons_succ] | simp only [List.set_cons_zero]))
        refine wpAnyH_done (by kernel_rfl) ?_ _
        refine NoPanic.normal ?_
        (repeat (first | simp only [List.getElem_toArray] | simp only [List.getElem_cons_succ] | simp only [List.getElem_cons_zero] | simp only [Act.put] | simp only [List.setIfInBounds_toArray] | simp only [List.set_cons_succ] | simp only [List.set_cons_zero]))
        have hTL6 : TotAt ((w5.drew.setRow a14 (totR u.1 u.2)).setRow a15 (totR p.1 p.2)) a14 u.1 u.2 := (show TotAt w5.drew a14 p.1 p.2 from TL.out).setRow.otherRow _ hne
        have hTR6 : TotAt ((w5.drew.setRow a14 (totR u.1 u.2)).setRow a15 (totR p.1 p.2)) a15 p.1 p.2 := ((show TotAt w5.drew a15 u.1 u.2 from TR.out).otherRow _ (Ne.symm hne)).setRow
        have hB6 : Below M3 w3 ((w5.drew.setRow a14 (totR u.1 u.2)).setRow a15 (totR p.1 p.2)) := below_setRow (below_setRow hDr _ hle14 _) _ hle15 _
        clear hS hS'
        generalize ((w5.drew.setRow a14 (totR u.1 u.2)).setRow a15 (totR p.1 p.2)) = w6 at hTL6 hTR6 hB6 ⊢
        have TL6 := aside hTL6
        have TR6 := aside hTR6
        have HB6 := aside hB6
        clear hTL6 hTR6 hB6
        have hBx0 : Below wr.heap.size wr w6 := HB3.out.trans (HB6.out.mono (by rw [EM3.out]; exact HB3.out.size))
        have HGx : Hid (RoundsAt w6) := aside (HG.out.below (HB.out.trans (hBx0.mono HB.out.size)))
        obtain ⟨x, q, hx⟩ : ∃ x q, nodeR u p = (x, q) := ⟨_, _, rfl⟩
        have hNode := node_any u p HDu.out HPd.out w6 HGx.out
        unfold tellV at hNode
        rw [hx] at hNode
        have HDx : Hid (Dig x.2) := aside (by have h := nodeR_dig u p; rw [hx] at h; exact h)
        have HBx0 := aside hBx0
        clear hBx0
        have HF3 : Hid (foldP t W path = if q = 0 then foldP x (W.drop (k + 1)) (path.drop (k + 1)) else (noTot, q)) := aside (by rw [HFo.out, HStep.out]; simp only [if_true, hx])
        by_cases hq : q = 0
        · subst hq
          have HNode : Hid (Calls Tryd.prog 17 #[.agg (totR u.1 u.2), .agg (totR p.1 p.2)] w6 (fun e w' => e = .returned (.tuple #[tV x, .nilIface]) ∧ Below w6.heap.size w6 w')) := aside hNode
          clear hNode hx
          go_upto_region 16 with (first
            | (refine wpList_load_row rfl 25 (.tmp 14) rfl a14 rfl 25 (totR u.1 u.2) (0, 0) _ TL6.out Tryd.underlying25 rfl (totInfo HDu.out.1) ?_)
            | (refine wpList_load_row rfl 25 (.tmp 15) rfl a15 rfl 25 (totR p.1 p.2) (0, 0) _ TR6.out Tryd.underlying25 rfl (totInfo HPd.out.1) ?_)
            | (go_at_call 17; refine HNode.out.mono ?_; rintro e w7 ⟨rfl, hb7⟩; have HB7 : Hid (Below wr.heap.size wr w7) := aside (below_then HBx0.out hb7); have R7 := TotAt.new w7 0 zeroD; clear hb7)
            | (refine wpList_store_row rfl 25 (.tmp 16) (.tmp 71) rfl w7.heap.size (totR x.1 x.2) rfl rfl 25 (totR 0 zeroD) R7 (totInfo HDx.out.1) (tot_same rfl HDx.out.1) (totR_one _ _) ?_)
            | fail)
          have T16' : TotAt ((w7.alloc (.cells (totR 0 zeroD) 25)).setRow w7.heap.size (totR x.1 x.2)) w7.heap.size x.1 x.2 := R7.setRow
          have hB8' : Below wr.heap.size wr ((w7.alloc (.cells (totR 0 zeroD) 25)).setRow w7.heap.size (totR x.1 x.2)) := below_setRow (below_more HB7.out _) _ HB7.out.size _
          change Code.wp _ _ _ _ ((w7.alloc (.cells (totR 0 zeroD) 25)).setRow w7.heap.size (totR x.1 x.2))
          generalize hV : ((w7.alloc (.cells (totR 0 zeroD) 25)).setRow w7.heap.size (totR x.1 x.2)) = w8 at T16' hB8' ⊢
          clear hV R7
          have T16 := aside T16'
          have HB8 := aside hB8'
          clear T16' hB8'
          have TU8 : Hid (TotAt w8 N u.1 u.2) := aside (T0.out.below HB8.out T0.out.lt)
          have TZ8 : Hid (TotAt w8 (N + 1) 0 zeroD) := aside (T1.out.below HB8.out T1.out.lt)
          go_wp2_with (first
            | (refine wpList_load_row rfl 25 (.tmp 16) rfl w7.heap.size rfl 25 (totR x.1 x.2) (0, 0) _ T16.out Tryd.underlying25 rfl (totInfo HDx.out.1) ?_)
            | (refine wpList_store_row rfl 25 (.tmp 4) (.tmp 77) rfl N (totR x.1 x.2) rfl rfl 25 (totR u.1 u.2) TU8.out (totInfo HDx.out.1) (tot_same HDu.out.1 HDx.out.1) (totR_one _ _) ?_)
            | fail)
          refine ⟨⟨k + 1, x, by omega, by go_num, HDx, aside TU8.out.setRow, aside (TZ8.out.otherRow _ (by omega)), aside ?_, aside ?_, aside ?_⟩, ?measure⟩
          · rw [HF3.out]; exact if_pos (by trivial)
          · exact (BSl.other (HS.out.step HB8.out) (HF2a.out.mono (by omega)) _).more (by simp)
          · exact below_setRow (HB.out.trans (HB8.out.mono HB.out.size)) _ (by rw [EN.out]; omega) _
          case measure => simp [Go.RowKit.intOf]; omega
        · skip
          have he : errA q = .iface 40 (.int .i64 q) := by unfold errA; rw [if_neg hq]
          dsimp only at hNode
          rw [he] at hNode
          have HQ := aside hq
          clear he hq
          have HNode : Hid (Calls Tryd.prog 17 #[.agg (totR u.1 u.2), .agg (totR p.1 p.2)] w6 (fun e w' => e = .returned (.tuple #[tV x, .iface 40 (.int .i64 q)]) ∧ Below w6.heap.size w6 w')) := aside hNode
          clear hNode hx
          go_upto_region 16 with (first
            | (refine wpList_load_row rfl 25 (.tmp 14) rfl a14 rfl 25 (totR u.1 u.2) (0, 0) _ TL6.out Tryd.underlying25 rfl (totInfo HDu.out.1) ?_)
            | (refine wpList_load_row rfl 25 (.tmp 15) rfl a15 rfl 25 (totR p.1 p.2) (0, 0) _ TR6.out Tryd.underlying25 rfl (totInfo HPd.out.1) ?_)
            | (go_at_call 17; refine HNode.out.mono ?_; rintro e w7 ⟨rfl, hb7⟩; have HB7 : Hid (Below wr.heap.size wr w7) := aside (below_then HBx0.out hb7); have R7 := TotAt.new w7 0 zeroD; clear hb7)
            | (refine wpList_store_row rfl 25 (.tmp 16) (.tmp 71) rfl w7.heap.size (totR x.1 x.2) rfl rfl 25 (totR 0 zeroD) R7 (totInfo HDx.out.1) (tot_same rfl HDx.out.1) (totR_one _ _) ?_)
            | fail)
          have T16' : TotAt ((w7.alloc (.cells (totR 0 zeroD) 25)).setRow w7.heap.size (totR x.1 x.2)) w7.heap.size x.1 x.2 := R7.setRow
          have hB8' : Below wr.heap.size wr ((w7.alloc (.cells (totR 0 zeroD) 25)).setRow w7.heap.size (totR x.1 x.2)) := below_setRow (below_more HB7.out _) _ HB7.out.size _
          change Code.wp _ _ _ _ ((w7.alloc (.cells (totR 0 zeroD) 25)).setRow w7.heap.size (totR x.1 x.2))
          generalize hV : ((w7.alloc (.cells (totR 0 zeroD) 25)).setRow w7.heap.size (totR x.1 x.2)) = w8 at T16' hB8' ⊢
          clear hV R7
          have T16 := aside T16'
          have HB8 := aside hB8'
          clear T16' hB8'
          have TU8 : Hid (TotAt w8 N u.1 u.2) := aside (T0.out.below HB8.out T0.out.lt)
          have TZ8 : Hid (TotAt w8 (N + 1) 0 zeroD) := aside (T1.out.below HB8.out T1.out.lt)
          go_wp2_with (first
            | (refine wpList_totz rfl rfl ?_)
            | (refine wpList_store_row rfl 25 (.tmp 8) (.tmp 75) rfl (N + 1) (totR 0 zeroD) rfl rfl 25 (totR 0 zeroD) TZ8.out (totInfo rfl) rfl (totR_one _ _) ?_)
            | fail)
          refine bodyPost_ret (results_cell_tmp rfl _ _ (N + 1) 25 (totR 0 zeroD) (0, 0) _ rfl (setRow_heap w8 (N + 1) _ _ _ _ TZ8.out) Tryd.underlying25 rfl (totInfo rfl)) rfl ?_
          refine ⟨?_, below_setRow (HB.out.trans (HB8.out.mono HB.out.size)) _ (by rw [EN.out]; omega) _⟩
          rw [HF3.out, if_neg HQ.out]
          unfold tellV errA
          rw [if_neg HQ.out]
          rfl
end Go.Proofs.YtkpbhbafapdboaaDoor
