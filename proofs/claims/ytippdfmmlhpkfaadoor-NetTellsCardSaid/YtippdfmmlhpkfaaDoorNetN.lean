/- net.Net. Conditions: named in each theorem. -/
import Derived.Test.YtippdfmmlhpkfaaDoorNetC
import Derived.Test.YtippdfmmlhpkfaaDoorIter
import Derived.Maps.OwnOps
import Derived.Maps.RangeWalk
namespace Go.Proofs.YtippdfmmlhpkfaaDoor
open Go.RowKit Go.ChangeShapes Go.WideShapes Go.ChangeAt

theorem whoKeyed : Maps.Keyed Tryd.prog 3 := Maps.int_keyed Tryd.underlying3
/-- The map in block b reads as D. -/
def MapAt (w : World) (b n : Nat) (D : DataW Unit) : Prop := w.ownsMap Tryd.prog 3 (plainElem Tryd.prog 3) b n D
theorem MapAt.to {w w' : World} {b n : Nat} {D : DataW Unit} (h : MapAt w b n D) (hb : Below w.heap.size w w') : MapAt w' b n D := by
  have hlt := World.ownsMap.lt h
  obtain ⟨es, clock, h1, h2⟩ := h
  exact ⟨es, clock, (hb.block b hlt).trans h1, h2⟩
theorem zeroInt (w : World) : (zeroValue 3).run Tryd.prog w = .ok (.int .i64 0) w := by kernel_rfl
def In64 (x : Int) : Prop := -9223372036854775808 ≤ x ∧ x ≤ 9223372036854775807
theorem key_int {x : Int} (h : In64 x) : keyOf Tryd.prog 3 (.int .i64 x) = some (kOf x) := by
  have hw : (Lit.int .i64 x).wf = true := by
    obtain ⟨h1, h2⟩ := h
    go_wf
  exact Maps.keyOf_int_mk Tryd.underlying3 hw
def DbIn (d : Db) : Prop := In64 d.1 ∧ In64 d.2.1
/-- What debts change. -/
def lnsOf (ds : List Db) : List Ln := ds.flatMap fun d => [(d.2.1, d.2.2), (d.1, -d.2.2)]
theorem lnsOf_app (ds : List Db) (d : Db) : lnsOf (ds ++ [d]) = (lnsOf ds ++ [(d.2.1, d.2.2)]) ++ [(d.1, -d.2.2)] := by simp [lnsOf]
theorem lnsOf_len (ds : List Db) : (lnsOf ds).length = 2 * ds.length := by
  induction ds with
  | nil => rfl
  | cons d r ih => simp [lnsOf] at ih ⊢; omega
def netD (ds : List Db) : DataW Unit := putAll (.map []) (fun _ => 0) (lnsOf ds)
def netF (ds : List Db) : Int → Int := addAll (fun _ => 0) (lnsOf ds)
/-- What each is to get. -/
def netL (ds : List Db) : List Ln := trialOf (netD ds) (netF ds)
theorem netD_bk (ds : List Db) : Bk (netD ds) (netF ds) := bk_empty.putAll
theorem netD_map (ds : List Db) : IntMap (netD ds) := intMap_empty.putAll _ _
theorem netD_size (ds : List Db) : Maps.size (netD ds) ≤ 2 * ds.length := by
  have := size_putAll_le (lnsOf ds) (.map []) (fun _ => 0) Maps.tidy_empty
  rw [lnsOf_len, Maps.size_eq] at this
  unfold netD
  simpa using this
theorem netL_len (ds : List Db) : (netL ds).length = Maps.size (netD ds) := by
  simp only [netL, trialOf, List.length_map, keysOf_len]
  exact intKeys_len (netD_bk ds).tidy
theorem sumAt_bnd {M : Int} (s : Int) : ∀ {xs : List Ln}, (∀ l ∈ xs, -M ≤ l.2 ∧ l.2 ≤ M) → 0 ≤ M → -((xs.length : Int) * M) ≤ sumAt s xs ∧ sumAt s xs ≤ (xs.length : Int) * M
  | [], _, _ => by simp [sumAt]
  | l :: r, h, hM => by
    have h1 := sumAt_bnd s (xs := r) (fun x hx => h x (by simp [hx])) hM
    have h2 := h l (by simp)
    have e : ((r.length + 1 : Nat) : Int) * M = (r.length : Int) * M + M := by rw [Int.natCast_add, Int.add_mul]; simp
    simp only [sumAt, List.length_cons, e]
    split <;> omega
theorem lns_bnd {ds : List Db} (h : ∀ d ∈ ds, DbOk d) : ∀ l ∈ lnsOf ds, -1125899906842624 ≤ l.2 ∧ l.2 ≤ 1125899906842624 := by
  intro l hl
  obtain ⟨d, hd, hl⟩ := List.mem_flatMap.1 hl
  have := (h d hd).2.2
  unfold Money at this
  simp at hl
  rcases hl with rfl | rfl <;> simp only <;> omega
theorem netF_bnd {ds : List Db} (h : ∀ d ∈ ds, DbOk d) (s : Int) : -((ds.length : Int) * 2251799813685248) ≤ netF ds s ∧ netF ds s ≤ (ds.length : Int) * 2251799813685248 := by
  have h1 := sumAt_bnd s (lns_bnd h) (by omega)
  rw [lnsOf_len] at h1
  unfold netF
  rw [addAll_eq]
  omega
theorem val_at {D : DataW Unit} {f : Int → Int} (h : Bk D f) {x c : Int} (hat : D.atKey (kOf x) (.lit (.int .i64 0)) = .lit (.int .i64 c)) : f x = c := by
  rw [h.at_ x] at hat
  injection hat with hat
  injection hat
theorem box3 {w w2 : World} {f t a : Int} {T : TypeId} {mb : Nat} (hg : (w.alloc (.cells #[.int .i64 f, .int .i64 t, .int .i64 a] T)).grownBy w2 (some mb)) (hm : mb < w.heap.size) :
    w2.cell? ⟨w.heap.size, 0, none⟩ = some (.int .i64 f) ∧ w2.cell? ⟨w.heap.size, 1, none⟩ = some (.int .i64 t) ∧ w2.cell? ⟨w.heap.size, 2, none⟩ = some (.int .i64 a) := by
  have hb : w2.heap[w.heap.size]? = (w.alloc (.cells #[.int .i64 f, .int .i64 t, .int .i64 a] T)).heap[w.heap.size]? := hg.block _ (by simp) (by simp; omega)
  exact ⟨(World.cell?_of_block (a := ⟨w.heap.size, 0, none⟩) hb).trans (World.cell?_alloc_at _ _ _ _ rfl), (World.cell?_of_block (a := ⟨w.heap.size, 1, none⟩) hb).trans (World.cell?_alloc_at _ _ _ _ rfl), (World.cell?_of_block (a := ⟨w.heap.size, 2, none⟩) hb).trans (World.cell?_alloc_at _ _ _ _ rfl)⟩
theorem netD_app (ds : List Db) (f t a : Int) : netD (ds ++ [(f, t, a)]) = ((netD ds).put (kOf t) (.lit (.int .i64 (netF ds t + a)))).put (kOf f) (.lit (.int .i64 (more (netF ds) t a f + -a))) := by
  unfold netD netF
  rw [lnsOf_app, putAll_app, putAll_app, addAll_app]
/-- What is wrong with debts that are netted. -/
noncomputable def nErr (ds : List Db) : Int := if dErr ds = 0 then (if 60 < (netL ds).length then 4 else 0) else dErr ds
theorem pileInfo : (Tryd.prog.info? 44).map (fun i => (i.zero, i.size, i.bytes)) = some (some (.agg #[.int .i64 0, .int .i64 0]), 2, 16) := by kernel_rfl
/-- What Net leaves. -/
def NetPost (ds : List Db) (w : World) (e : Ending) (w' : World) : Prop :=
  ((nErr ds = 0 ∧ ∃ A c, e = .returned (.tuple #[.slice A (netL ds).length c, .nilIface]) ∧ PSl w' w'.heap.size A (netL ds).length (netL ds)) ∨
    (nErr ds ≠ 0 ∧ e = .returned (.tuple #[.slice none 0 0, .iface 29 (.int .i64 (nErr ds))]))) ∧ Below w.heap.size w w'
theorem ret2e {A : Option Addr} {n c : Nat} {a b : Int} (h : b = a) : Ending.returned (.tuple #[.slice A n c, .iface 29 (.int .i64 a)]) = .returned (.tuple #[.slice A n c, .iface 29 (.int .i64 b)]) := by rw [h]
theorem flatP_app (xs : List Ln) (s : Int) (a : Int) : (xs ++ [(s, a)]).flatMap plV = xs.flatMap plV ++ #[Value.int .i64 s, .int .i64 a].toList := by simp [plV]

set_option maxHeartbeats 8000000 in
set_option maxRecDepth 100000 in
theorem net_any (ds : List Db) (A : Option Addr) (n c : Nat) (w : World) (h : DSl w w.heap.size A n ds) (hI : ∀ d ∈ ds, DbIn d) :
    Calls Tryd.prog 9 #[.slice A n c] w (NetPost ds w) := by
  have hlen := DSl.len3 h
  have HI := aside hI
  have hmm := @run_makeMap Tryd.prog
  clear hI
  go_enter Tryd.func9, Tryd.ntmps9
  go_wp2_with fail
  refine (check_any ds A n c _ h).mono ?_
  rintro e w1 ⟨⟨hd, rfl⟩ | ⟨hd, rfl⟩, hb1⟩
  rotate_left
  · have HB1 := aside hb1
    have HD := aside hd
    clear hb1 hd
    go_wp2
    go_ret2
    have he : nErr ds = dErr ds := by unfold nErr; rw [if_neg HD.out]
    exact ⟨.inr ⟨by rw [he]; exact HD.out, ret2e he⟩, HB1.out⟩
  obtain ⟨hd1, hd2⟩ := dErr_zero hd
  have HD := aside hd
  have HOk := aside hd2
  have HB1 := aside hb1
  have hz1 := hb1.size
  clear hd hd2 hb1
  go_wp2_with fail
  have hM0 : MapAt (w1.alloc (.map #[] 0)) w1.heap.size 0 (.map []) := World.ownsMap_made w1 Tryd.prog 3 (plainElem (H := Unit) Tryd.prog 3)
  have HM0 := aside hM0
  obtain ⟨mb, hmb⟩ : ∃ mb, mb = w1.heap.size := ⟨_, rfl⟩
  rw [← hmb] at HM0 ⊢
  have hmb0 : w.heap.size ≤ mb := by omega
  have HB2 : Hid (Below w.heap.size w (w1.alloc (.map #[] 0))) := aside (HB1.out.alloc hz1 _)
  have hs2 : mb < (w1.alloc (.map #[] 0)).heap.size := by rw [hmb]; simp
  clear hM0 hmb
  go_loopw [19] (fun v19 wr => ∃ (k : Nat), k ≤ n ∧ v19 = .int .i64 k ∧ Hid (MapAt wr mb (2 * k) (netD (ds.take k))) ∧ Below w.heap.size w wr) (fun v19 _ => n - (Go.RowKit.intOf v19).toNat)
  case atStart => exact ⟨0, Nat.zero_le _, rfl, HM0, HB2.out⟩
  case round =>
    obtain ⟨k, hk, rfl, HM, hb⟩ := hrel
    have hbz := hb.size
    by_cases k1 : k < n
    · obtain ⟨b, off, rfl, hlt, c0, c1, c2⟩ := DSl.at3 h k1
      have HT := aside (take_next (ls := ds) (k := k) (0, 0, 0) (by omega))
      have hmem := getD_mem (ls := ds) (k := k) (0, 0, 0) (by omega)
      have hok := HOk.out _ hmem
      have hin := HI.out _ hmem
      generalize ds.getD k (0, 0, 0) = p at c0 c1 c2 HT hok hin
      clear hmem
      obtain ⟨f, t, a⟩ := p
      simp only [] at c0 c1 c2
      have d0 := (hb.cell (p := ⟨b, off + k * 3, none⟩) hlt).trans c0
      have d1 := (hb.cell (p := ⟨b, off + k * 3 + 1, none⟩) hlt).trans c1
      have d2 := (hb.cell (p := ⟨b, off + k * 3 + 2, none⟩) hlt).trans c2
      have l0 : b < wr.heap.size := by omega
      have i1 : (k : Int) < (n : Int) := by omega
      have i4 : (0 : Int) ≤ (k : Int) := by omega
      have HKf := aside (key_int hin.1)
      have HKt := aside (key_int hin.2)
      have hkl : (ds.take k).length = k := by simp; omega
      have HF : Hid (∀ s, -((k : Int) * 2251799813685248) ≤ netF (ds.take k) s ∧ netF (ds.take k) s ≤ (k : Int) * 2251799813685248) := aside (fun s => by
        have h1 := netF_bnd (ds := ds.take k) (fun d hd => HOk.out d (List.mem_of_mem_take hd)) s
        rw [hkl] at h1
        exact h1)
      have HMy : Hid (0 ≤ a ∧ a ≤ 1125899906842624) := aside hok.2.2
      have HBk := aside (netD_bk (ds.take k))
      have HBL := aside hb
      clear c0 c1 c2 hok hin hkl hb
      have HW1 : Hid (wrap64 (netF (ds.take k) t + a) = netF (ds.take k) t + a) := aside (by have := HF.out t; have := HMy.out; unfold wrap64; omega)
      have HW2 : Hid (wrap64 (more (netF (ds.take k)) t a f - a) = more (netF (ds.take k)) t a f + -a) := aside (by
        have h1 := HF.out t
        have h2 := HF.out f
        have h3 := HMy.out
        unfold more
        split <;> (unfold wrap64; omega))
      have HBk1 := aside (HBk.out.put t a)
      have hmr : mb < wr.heap.size := World.ownsMap.lt HM.out
      generalize hD1 : (netD (ds.take k)).put (kOf t) (.lit (.int .i64 (netF (ds.take k) t + a))) = D1 at HBk1
      have HD1 := aside hD1
      clear hD1
      go_wp2_with (first
        | (at_lookup; refine wpList_lookup_own_int _ rfl _ _ 48 rfl 3 3 .i64 whoKeyed Tryd.underlying48 Tryd.underlying3 (zeroInt _) mb (2 * k) _ rfl (World.ownsMap.alloc HM.out _) _ _ rfl HKt.out ?_; intro x1 hat1 hwx1; obtain rfl := val_at HBk.out hat1; clear hat1 hwx1)
        | (at_mapUpdate; refine wpList_mapUpdate_own _ rfl _ _ _ 48 rfl 3 3 whoKeyed Tryd.underlying48 _ mb (2 * k) _ rfl (World.ownsMap.alloc HM.out _) (by unfold maxLen; omega) _ _ _ rfl rfl HKt.out _ [] (plainElem_int Tryd.underlying3 (wrap64_wf _)) ?_; intro w2 hown2 hgrow2; rw [HW1.out, HD1.out] at hown2; obtain ⟨g0, g1, g2⟩ := box3 hgrow2 hmr; have hz2 := hgrow2.size; simp only [World.size_alloc] at hz2; have HB3 : Hid (Below w.heap.size w w2) := aside ((HBL.out.alloc hbz _).grown hgrow2 (by rw [World.size_alloc]; omega) (fun j hj => by injection hj with hj; omega)); have HO2 := aside hown2; have l2 : wr.heap.size < w2.heap.size := (by omega); clear hown2 hgrow2 d0 d1 d2 hz2)
        | (at_lookup; refine wpList_lookup_own_int _ rfl _ _ 48 rfl 3 3 .i64 whoKeyed Tryd.underlying48 Tryd.underlying3 (zeroInt _) mb (2 * k + 1) _ rfl HO2.out _ _ rfl HKf.out ?_; intro x2 hat2 hwx2; obtain rfl := val_at HBk1.out hat2; clear hat2 hwx2)
        | (at_mapUpdate; refine wpList_mapUpdate_own _ rfl _ _ _ 48 rfl 3 3 whoKeyed Tryd.underlying48 _ mb (2 * k + 1) _ rfl HO2.out (by unfold maxLen; omega) _ _ _ rfl rfl HKf.out _ [] (plainElem_int Tryd.underlying3 (wrap64_wf _)) ?_; intro w3 hown3 hgrow3; rw [HW2.out] at hown3)
        | fail)
      have hz2 := HB3.out.size
      have HB4 : Hid (Below w.heap.size w w3) := aside (HB3.out.grown hgrow3 hz2 (fun j hj => by injection hj with hj; omega))
      refine ⟨⟨k + 1, by omega, by go_num, aside ?_, HB4.out⟩, by simp [Go.RowKit.intOf]; omega⟩
      rw [HT.out, netD_app, HD1.out]
      exact hown3
    · have i1 : ((k : Int) < (n : Int)) = False := by simp only [eq_iff_iff, iff_false]; omega
      obtain rfl : k = n := by omega
      have htk : ds.take k = ds := List.take_of_length_le (by omega)
      rw [htk] at HM
      have HB2 := aside hb
      have hsz := netD_size ds
      have HLn := aside (netL_len ds)
      clear htk hb
      by_cases hz : 60 < Maps.size (netD ds)
      · have hz' : (60 : Int) < (Maps.size (netD ds) : Int) := by omega
        have he : nErr ds = 4 := by unfold nErr; rw [if_pos HD.out, if_pos (by rw [HLn.out]; exact hz)]
        have HE := aside he
        clear he
        go_wp2_with (first
          | (at_len; refine wpList_len_own _ rfl _ 48 rfl 3 3 Tryd.underlying48 (plainElem Tryd.prog 3) mb (2 * k) (netD ds) rfl HM.out ?_)
          | fail)
        go_ret2
        exact ⟨.inr ⟨by rw [HE.out]; decide, ret2e HE.out⟩, HB2.out⟩
      have hz' : ((60 : Int) < (Maps.size (netD ds) : Int)) = False := by simp only [eq_iff_iff, iff_false]; omega
      have he : nErr ds = 0 := by unfold nErr; rw [if_pos HD.out, if_neg (by rw [HLn.out]; exact hz)]
      have HE := aside he
      have HN60 : Hid ((netL ds).length ≤ 60) := aside (by rw [HLn.out]; omega)
      have hkn : (keysOf (netD ds)).length = (netL ds).length := by simp [netL, trialOf]
      have hmr : mb < wr.heap.size := World.ownsMap.lt HM.out
      clear he
      go_wp2_with (first
        | (at_len; refine wpList_len_own _ rfl _ 48 rfl 3 3 Tryd.underlying48 (plainElem Tryd.prog 3) mb (2 * k) (netD ds) rfl HM.out ?_)
        | (go_at_call 18; refine (callsIn_wide.1 (Tryd.int_Keys _ _)).mono ?_; rintro e w' ⟨rfl, rfl⟩)
        | fail)
      refine (callsIn_wide.1 (Tryd.int_Sorted mb (2 * k) (netD ds) _ wr HM.out (by unfold maxLen; omega) (by omega))).mono ?_
      rintro e w4 ⟨v, ss, rfl, hS, hrow, -, hb1⟩
      rw [show (ss.mergeSort fun x y => decide (x ≤ y)) = keysOf (netD ds) from mergeSort_of_perm_i hS] at hrow
      have hlen2 : ss.length = (netL ds).length := by rw [hS.length_eq, ← hkn, keysOf_len]
      rw [hlen2] at hrow
      have HB5 : Hid (Below wr.heap.size wr w4) := aside (((Below.refl _ wr).alloc (Nat.le_refl _) _).trans (hb1.mono (by simp)))
      have hz4 : wr.heap.size < w4.heap.size := by have := hb1.size; simp at this; omega
      obtain ⟨Av, cv, rfl, -, -⟩ := own_slice hrow
      have HS := aside (Sl.own hrow)
      have HM4 := aside (MapAt.to HM.out HB5.out)
      have HEL : Hid (∀ (j : Nat) (x : Int), (keysOf (netD ds))[j]? = some x → ((keysOf (netD ds)).map Go.encZ)[j]? = some (Value.int .i64 x)) := aside fun j x hx => by rw [List.getElem?_map, hx]; rfl
      have HN4 := aside hkn
      have hn60 := HN60.out
      generalize hnn : (netL ds).length = m at *
      have HNN := aside hnn
      clear hS hrow hlen2 hb1 HM hkn hnn HLn hsz
      go_wp2_with fail
      go_loopw [8, 46] (fun v8 v46 wq => ∃ (j : Nat) (A' : Option Addr) (c' : Nat), j ≤ m ∧ v46 = .int .i64 j ∧ v8 = .slice A' j c' ∧ Hid (wq.ownsRow w4.heap.size 44 2 (.slice A' j c') j (((netL ds).take j).flatMap plV)) ∧ Below w4.heap.size w4 wq) (fun _ v46 _ => m - (Go.RowKit.intOf v46).toNat)
      case atStart => exact ⟨0, none, 0, Nat.zero_le _, rfl, rfl, aside ⟨by simp, .inl ⟨rfl, rfl⟩⟩, Below.refl _ _⟩
      case round =>
        obtain ⟨j, A1, c1, hj, rfl, rfl, HR, hb4⟩ := hrel
        have hbz4 := hb4.size
        by_cases j1 : j < m
        · have hjk : j < (keysOf (netD ds)).length := by rw [HN4.out]; omega
          obtain ⟨b, off, rfl, hlt, hc⟩ := Sl.cells HS.out (by omega)
          have c0 := hc j _ (HEL.out j _ (List.getElem?_eq_getElem hjk))
          have HT : Hid ((netL ds).take (j + 1) = (netL ds).take j ++ [((keysOf (netD ds))[j], netF ds (keysOf (netD ds))[j])]) := aside (by rw [take_next (0, 0) (by rw [HNN.out]; omega), netL, trial_get _ _ hjk])
          have hxw := intKeys_wf HM4.out Tryd.underlying3 _ ((keysOf_perm _).mem_iff.1 (List.getElem_mem hjk))
          generalize (keysOf (netD ds))[j] = x at c0 HT hxw
          have HK := Maps.keyOf_int_mk Tryd.underlying3 hxw
          have d0 := (hb4.cell (p := ⟨b, off + j, none⟩) hlt).trans c0
          have l0 : b < wr.heap.size := by omega
          have i1 : (j : Int) < (m : Int) := by omega
          have i4 : (0 : Int) ≤ (j : Int) := by omega
          have HM5 := aside (MapAt.to HM4.out hb4)
          have HB6 := aside hb4
          clear c0 hc hb4 hxw
          go_wp2_with (first
            | (at_lookup; refine wpList_lookup_own_int _ rfl _ _ 48 rfl 3 3 .i64 whoKeyed Tryd.underlying48 Tryd.underlying3 (zeroInt _) mb (2 * k) _ rfl HM5.out _ _ rfl HK ?_; intro x1 hat hwx; obtain rfl := val_at (netD_bk ds) hat; clear hat hwx)
            | (at_builtin; refine wpList_push rfl (.tmp 50) (.tmp 56) 23 rfl w4.heap.size _ 2 16 Tryd.underlying23 pileInfo rfl (by decide) _ _ _ rfl rfl rfl rfl HR.out (by omega) (by unfold maxLen; omega) hbz4 ?_; intro A3 c3 w5 hc3 hc3' hown3 hb5 hz5 hg5)
            | fail)
          have HO3 := aside hown3
          have H6 := aside (HB6.out.trans hb5)
          clear hown3 hb5 hg5
          exact ⟨⟨j + 1, A3, c3, by omega, by go_num, rfl, aside (by rw [HT.out, flatP_app]; exact HO3.out), H6.out⟩, by simp [Go.RowKit.intOf]; omega⟩
        · have i1 : ((j : Int) < (m : Int)) = False := by simp only [eq_iff_iff, iff_false]; omega
          obtain rfl : j = m := by omega
          have HB6 := aside hb4
          clear hb4
          go_wp2
          go_ret2
          have hr := HR.out
          rw [List.take_of_length_le (by rw [HNN.out]; omega)] at hr
          refine ⟨.inl ⟨HE.out, A1, c1, ?_, ?_⟩, HB2.out.trans ((HB5.out.trans (HB6.out.mono (by omega))).mono hbz)⟩
          · rw [HNN.out]; rfl
          · rw [HNN.out]; exact Sl.own hr
end Go.Proofs.YtippdfmmlhpkfaaDoor
