/- (*Book).Post: the walk. Conditions: named in each theorem. -/
import Derived.Test.YtjoplhpaefngkaaDoorBookC
import Derived.Test.YtjoplhpaefngkaaDoorBookE
import Derived.Deep.Heap
namespace Go.Proofs.YtjoplhpaefngkaaDoor
open Go.RowKit Go.ChangeShapes Go.WideShapes Go.ChangeAt

/-- The cells of lines, one behind the other. -/
def strV (s : List UInt8) : Value := .string ⟨s.toArray⟩
def flatL (ls : List Ln) : List Value := ls.flatMap fun l => [strV l.1, .int .i64 l.2]
/-- A slice of lines. -/
def LSl (w : World) (B : Nat) (A : Option Addr) (n : Nat) (ls : List Ln) : Prop := Sl w B 2 A n (flatL ls)
theorem flatL_len (ls : List Ln) : (flatL ls).length = ls.length * 2 := by
  induction ls with
  | nil => rfl
  | cons p r ih => simp [flatL] at ih ⊢; omega
theorem flatL_get (ls : List Ln) {k : Nat} (h : k < ls.length) : (flatL ls)[2 * k]? = some (strV (ls.getD k ([], 0)).1) ∧ (flatL ls)[2 * k + 1]? = some (.int .i64 (ls.getD k ([], 0)).2) := by
  induction ls generalizing k with
  | nil => simp at h
  | cons p r ih =>
    cases k with
    | zero => simp [flatL]
    | succ j =>
      have := ih (k := j) (by simpa using h)
      simp only [flatL, List.flatMap_cons] at this ⊢
      rw [show 2 * (j + 1) = 2 * j + 1 + 1 by omega]
      simpa using this
theorem LSl.len {w : World} {B n : Nat} {A : Option Addr} {ls : List Ln} (h : LSl w B A n ls) : ls.length = n := by
  have := Sl.len h
  rw [flatL_len] at this
  omega
theorem LSl.at_ {w : World} {B n : Nat} {A : Option Addr} {ls : List Ln} (h : LSl w B A n ls) {k : Nat} (hk : k < n) :
    ∃ b off, A = some ⟨b, off, none⟩ ∧ b < B ∧ w.cell? ⟨b, off + k * 2, none⟩ = some (strV (ls.getD k ([], 0)).1) ∧ w.cell? ⟨b, off + k * 2 + 1, none⟩ = some (.int .i64 (ls.getD k ([], 0)).2) := by
  obtain ⟨b, off, e, hb, hc⟩ := Sl.cells h (by omega)
  obtain ⟨h0, h1⟩ := flatL_get ls (k := k) (by rw [h.len]; exact hk)
  exact ⟨b, off, e, hb, by rw [show k * 2 = 2 * k by omega]; exact hc _ _ h0, by rw [show off + k * 2 + 1 = off + (2 * k + 1) by omega]; exact hc _ _ h1⟩
theorem take_next {ls : List Ln} {k : Nat} (h : k < ls.length) : ls.take (k + 1) = ls.take k ++ [ls.getD k ([], 0)] := by
  rw [List.take_add_one, List.getD_eq_getElem?_getD, List.getElem?_eq_getElem h]
  rfl
theorem zeroInt (w : World) : (zeroValue 3).run Tryd.prog w = .ok (.int .i64 0) w := by kernel_rfl
theorem Fine.all {mx : Nat} {D : DataW Unit} {f : List UInt8 → Int} (h : Fine mx D f) (s : List UInt8) : Within (f s) := by
  by_cases hD : Maps.has D (kOf s) = true
  · exact h.2.1 s hD
  · have h0 := h.1.at_ s
    rw [Maps.atKey_of_not_has (by simpa using hD)] at h0
    injection h0 with h0
    injection h0 with h0 h1
    rw [← h1]
    unfold Within
    omega

theorem total_bound : ∀ {xs : List Ln}, (∀ l ∈ xs, LnOk l) → -((xs.length : Int) * 1125899906842624) ≤ total xs ∧ total xs ≤ (xs.length : Int) * 1125899906842624
  | [], _ => by simp [total]
  | l :: r, h => by
    have h1 := total_bound (xs := r) fun x hx => h x (by simp [hx])
    have h2 := (h l (by simp)).2.2
    unfold Within at h2
    simp only [total, List.map_cons, List.sum_cons, List.length_cons] at h1 ⊢
    omega
theorem total_app (xs : List Ln) (s : List UInt8) (a : Int) : total (xs ++ [(s, a)]) = total xs + a := by simp [total]
theorem sumAt_bound (s : List UInt8) : ∀ {xs : List Ln}, (∀ l ∈ xs, LnOk l) → -((xs.length : Int) * 1125899906842624) ≤ sumAt s xs ∧ sumAt s xs ≤ (xs.length : Int) * 1125899906842624
  | [], _ => by simp [sumAt]
  | l :: r, h => by
    have h1 := sumAt_bound s (xs := r) fun x hx => h x (by simp [hx])
    have h2 := (h l (by simp)).2.2
    unfold Within at h2
    simp only [sumAt, List.length_cons] at h1 ⊢
    split <;> omega
theorem addAll_bound {f : List UInt8 → Int} (hf : ∀ s, Within (f s)) {xs : List Ln} (h : ∀ l ∈ xs, LnOk l) (s : List UInt8) : -(((xs.length : Int) + 1) * 1125899906842624) ≤ addAll f xs s ∧ addAll f xs s ≤ ((xs.length : Int) + 1) * 1125899906842624 := by
  have h1 := sumAt_bound s h
  have h2 := hf s
  unfold Within at h2
  rw [addAll_eq]
  omega
theorem key_str (s : List UInt8) (h : s.length ≤ 30) : keyOf Tryd.prog 9 (.string ⟨s.toArray⟩) = some (kOf s) := by
  have := WideMaps.keyOf_string_mk (s := ⟨s.toArray⟩) Tryd.underlying9 (by show s.toArray.size ≤ maxLen; unfold maxLen; simp; omega)
  simpa [kOf] using this

/-- The bound is what is there. -/
theorem mapAt_tight {w : World} {b n : Nat} {D : DataW Unit} (h : MapAt w b n D) : MapAt w b (Maps.size D) D := by
  obtain ⟨es, clock, hb, F, hs, rfl⟩ := h
  refine ⟨es, clock, hb, F, ?_, rfl⟩
  show es.size ≤ (List.foldr DataW.insert [] _).length
  rw [length_sorted]
  simp

theorem heap_setCell_ne (w : World) (p : Addr) (v : Value) {k : Nat} (h : k ≠ p.block) : (w.setCell p v).heap[k]? = w.heap[k]? := Go.Deep.blk_setCell_other w p v k h
theorem ifn {a b : Int} (h : b = a) : Ending.returned (.iface 27 (.int .i64 a)) = .returned (.iface 27 (.int .i64 b)) := by rw [h]
/-- What Post leaves. -/
def PostPost (B bb : Nat) (D : DataW Unit) (f : List UInt8 → Int) (ls : List Ln) (cnt : Int) (w : World) (e : Ending) (w' : World) : Prop :=
  (PostOk 60 D f ls ∧ e = .returned .nilIface ∧ Below B w w' ∧ ∃ mb', w'.cell? ⟨bb, 0, none⟩ = some (.map (some mb')) ∧ w'.cell? ⟨bb, 1, none⟩ = some (.int .i64 (cnt + 1)) ∧ (∀ o, w'.frozen? ⟨bb, o, none⟩ = false) ∧ MapAt w' mb' 60 (putAll D f ls) ∧ w.heap.size ≤ mb' ∧ ∀ k, k < w.heap.size → k ≠ bb → w'.heap[k]? = w.heap[k]?) ∨
  (¬ PostOk 60 D f ls ∧ e = .returned (.iface 27 (.int .i64 (pErr 60 D f ls))) ∧ Below w.heap.size w w')

set_option maxHeartbeats 8000000 in
set_option maxRecDepth 100000 in
theorem post_any (ls : List Ln) (A : Option Addr) (n cp B bb mb : Nat) (cnt : Int) (D : DataW Unit) (f : List UInt8 → Int) (w : World) (hl : LSl w w.heap.size A n ls) (hB : B ≤ bb) (hbb : bb < w.heap.size)
    (b0 : w.cell? ⟨bb, 0, none⟩ = some (.map (some mb))) (b1 : w.cell? ⟨bb, 1, none⟩ = some (.int .i64 cnt)) (bf : ∀ o, w.frozen? ⟨bb, o, none⟩ = false) (hm : MapAt w mb 60 D) (hF : Fine 60 D f) (hc : 0 ≤ cnt ∧ cnt ≤ 1000) :
    Calls Tryd.prog 8 #[.pointer (some ⟨bb, 0, none⟩), .slice A n cp] w (PostPost B bb D f ls cnt w) := by
  have hlen := hl.len
  have HF := aside hF
  clear hF
  by_cases n0 : n = 0
  · subst n0
    go_enter Tryd.func8, Tryd.ntmps8
    go_wp2
    go_ret
    exact .inr ⟨fun h => by have := h.1; omega, ifn (pErr_none hlen), Below.refl _ _⟩
  by_cases n1 : 60 < n
  · have e0 : ((n : Int) == 0) = false := by simp; omega
    have e1 : (60 : Int) < (n : Int) := by omega
    go_enter Tryd.func8, Tryd.ntmps8
    go_wp2
    go_ret
    exact .inr ⟨fun h => by have := h.2.1; omega, ifn (pErr_full (by omega) (by omega)), Below.refl _ _⟩
  have e0 : ((n : Int) == 0) = false := by simp; omega
  have e1 : ((60 : Int) < (n : Int)) = False := by simp only [eq_iff_iff, iff_false]; omega
  have hn60 : n ≤ 60 := by omega
  go_enter Tryd.func8, Tryd.ntmps8
  go_wp2_with fail
  refine (clone_any mb 60 D _ hm).mono ?_
  rintro e w1 ⟨rfl, hm1, -, hb1⟩
  have hz1 : w.heap.size < w1.heap.size := World.ownsMap.lt hm1
  have HM1 := aside hm1
  clear hm1 hm
  go_wp2_with fail
  go_loopw [5, 26] (fun v5 v26 wr => ∃ (k : Nat), k ≤ n ∧ v26 = .int .i64 k ∧ v5 = .int .i64 (total (ls.take k)) ∧ Below w.heap.size w wr ∧ w.heap.size < wr.heap.size ∧ Hid (MapAt wr w.heap.size (60 + k) (putAll D f (ls.take k))) ∧ Hid (∀ l ∈ ls.take k, LnOk l)) (fun _ v26 _ => n - (intOf v26).toNat)
  case atStart => exact ⟨0, Nat.zero_le _, rfl, rfl, hb1, hz1, HM1, aside (by simp)⟩
  case round =>
    obtain ⟨k, hk, rfl, rfl, hb, hsz, HM, HA⟩ := hrel
    have hbz := hb.size
    by_cases k1 : k < n
    · obtain ⟨b, off, rfl, hlt, c0, c1⟩ := hl.at_ k1
      have HT := aside (take_next (ls := ls) (k := k) (by omega))
      have HLk : Hid (ls.getD k ([], 0) ∈ ls) := aside (by rw [List.getD_eq_getElem?_getD, List.getElem?_eq_getElem (by omega), Option.getD_some]; exact List.getElem_mem _)
      generalize hgp : ls.getD k ([], 0) = p at c0 c1 HT HLk
      obtain ⟨s, a⟩ := p
      have HG := aside hgp
      clear hgp
      simp only [strV] at c0 c1
      have d0 := (hb.cell (p := ⟨b, off + k * 2, none⟩) (by show b < w.heap.size; omega)).trans c0
      have d1 := (hb.cell (p := ⟨b, off + k * 2 + 1, none⟩) (by show b < w.heap.size; omega)).trans c1
      have l0 : b < wr.heap.size := by omega
      have i1 : (k : Int) < (n : Int) := by omega
      have i4 : (0 : Int) ≤ (k : Int) := by omega
      clear c0 c1
      have hbw : ¬ LnOk (s, a) → ¬ PostOk 60 D f ls := fun hbad h => hbad (h.2.2.1 _ HLk.out)
      have HBad := aside hbw
      have HBL := aside hb
      clear hbw
      by_cases hs : s = []
      · subst hs
        have hbad : ¬ LnOk ([], a) := fun h => by have := h.1; simp at this
        go_wp2
        go_ret
        exact .inr ⟨HBad.out hbad, ifn ((pErr_line (by omega) (by omega) (by omega) HG.out HA.out hbad).trans (by simp)), HBL.out.alloc hbz _⟩
      have hs1 : s.isEmpty = false := by cases s with | nil => exact absurd rfl hs | cons => rfl
      have hs0 : 0 < s.length := List.length_pos_iff.2 hs
      by_cases hs2 : 30 < s.length
      · have hbad : ¬ LnOk (s, a) := fun h => by have := h.2.1; simp at this; omega
        have hs2' : (30 : Int) < (s.length : Int) := by omega
        clear hs
        go_wp2
        go_ret
        exact .inr ⟨HBad.out hbad, ifn ((pErr_line (by omega) (by omega) (by omega) HG.out HA.out hbad).trans (by rw [if_pos (by omega)])), HBL.out.alloc hbz _⟩
      have hs2' : ((30 : Int) < (s.length : Int)) = False := by simp only [eq_iff_iff, iff_false]; omega
      by_cases ha : Within a
      rotate_left
      · have hbad : ¬ LnOk (s, a) := fun h => ha h.2.2
        have HW := aside ha
        clear hs ha
        go_wp2_with (first | (go_at_call 17; refine (within_bad a HW.out _).mono ?_; rintro e w' ⟨rfl, rfl⟩) | fail)
        go_ret
        exact .inr ⟨HBad.out hbad, ifn ((pErr_line (by omega) (by omega) (by omega) HG.out HA.out hbad).trans (by rw [if_neg (by omega)])), HBL.out.alloc hbz _⟩
      have HW := aside ha
      have HOk : Hid (LnOk (s, a)) := aside ⟨hs0, by simp only; omega, ha⟩
      have hkl : (ls.take k).length = k := by simp; omega
      have hTB := total_bound HA.out
      have hSB := addAll_bound (f := f) HF.out.all HA.out s
      rw [hkl] at hTB hSB
      have w1' : wrap64 (total (ls.take k) + a) = total (ls.take k) + a := by unfold Within at ha; unfold wrap64; omega
      have HSB := aside hSB
      have HBk := aside (HF.out.1.putAll (ls := ls.take k))
      have HK : keyOf Tryd.prog 9 (.string ⟨s.toArray⟩) = some (kOf s) := key_str s (by omega)
      clear hTB hSB hs ha hkl
      go_wp2_with (first
        | (go_at_call 17; refine (within_ok a HW.out _).mono ?_; rintro e w' ⟨rfl, rfl⟩)
        | (at_lookup; refine wpList_lookup_own_int _ rfl _ _ 41 rfl 9 3 .i64 nameKeyed Tryd.underlying41 Tryd.underlying3 (zeroInt _) w.heap.size (60 + k) _ rfl (World.ownsMap.alloc HM.out _) _ _ rfl HK ?_; intro c hat hwc)
        | (at_mapUpdate; refine wpList_mapUpdate_own _ rfl _ _ _ 41 rfl 9 3 nameKeyed Tryd.underlying41 _ w.heap.size (60 + k) _ rfl (World.ownsMap.alloc HM.out _) (by unfold maxLen; omega) _ _ _ rfl rfl HK _ [] (plainElem_int Tryd.underlying3 (wrap64_wf _)) ?_; intro w2 hown2 hgrow2)
        | fail)
      have hcv : c = addAll f (ls.take k) s := by
        have h1 := HBk.out.at_ s
        rw [h1] at hat
        injection hat with hat
        injection hat with h2 h3
        exact h3.symm
      have hwr : wrap64 (c + a) = addAll f (ls.take k) s + a := by
        have h1 := HSB.out
        have h2 := HW.out
        rw [hcv]
        unfold Within at h2
        unfold wrap64
        omega
      rw [hwr] at hown2
      have hz2 := hgrow2.size
      simp only [World.size_alloc] at hz2
      refine ⟨⟨k + 1, by omega, rfl, by rw [HT.out, total_app], (HBL.out.alloc hbz _).grown hgrow2 (by simp; omega) (fun j hj => by injection hj with hj; omega), by omega, aside ?_, aside ?_⟩, by simp [intOf]; omega⟩
      · rw [HT.out, putAll_app]
        exact hown2
      · intro l hl
        rw [HT.out] at hl
        rcases List.mem_append.1 hl with hl | hl
        · exact HA.out l hl
        · rw [List.mem_singleton] at hl
          rw [hl]
          exact HOk.out
    · have i1 : ((k : Int) < (n : Int)) = False := by simp only [eq_iff_iff, iff_false]; omega
      obtain rfl : k = n := by omega
      have htk : ls.take k = ls := List.take_of_length_le (by omega)
      rw [htk] at HM HA ⊢
      clear htk
      have HBL := aside hb
      by_cases h0 : total ls = 0
      rotate_left
      · have e5 : (total ls != 0) = true := by simpa using h0
        go_wp2
        go_ret
        exact .inr ⟨fun h => h0 h.2.2.2.1, ifn (pErr_money (by omega) (by omega) HA.out h0), HBL.out⟩
      have H0 := aside h0
      have e5 : (total ls != 0) = false := by simp [h0]
      rw [h0]
      clear h0
      obtain ⟨DD, hDD⟩ : ∃ DD, DD = putAll D f ls := ⟨_, rfl⟩
      obtain ⟨ff, hff⟩ : ∃ ff, ff = addAll f ls := ⟨_, rfl⟩
      have HBk : Hid (Bk DD ff) := aside (by rw [hDD, hff]; exact HF.out.1.putAll)
      have HDD := aside hDD
      have HFF := aside hff
      rw [← hDD] at HM
      clear hDD hff
      go_wp2_with (first
        | (at_range; refine wpList_range_own _ rfl _ 41 rfl 9 3 nameKeyed Tryd.underlying41 _ w.heap.size (60 + k) _ rfl HM.out ?_; intro w0 hrg0 hg0 hs0)
        | fail)
      go_frame
      have HBQ := aside (HBL.out.grown hg0 hbz (fun j hj => by cases hj))
      have HRB : Hid (w.heap.size ≤ wr.heap.size) := aside hbz
      clear hb hg0 hs0 HBL HM
      generalize wr.heap.size = rb at *
      go_loopw [10] (fun v10 wq => ∃ left cnt', wq.ranges Tryd.prog 9 (plainElem Tryd.prog 3) w.heap.size rb (60 + k) DD left cnt' ∧ Hid (∀ s, Maps.has DD (kOf s) = true → left (kOf s) = true ∨ Within (ff s)) ∧ Below w.heap.size w wq) (fun _ wq => wq.rangeLeft w.heap.size rb)
      case atStart => exact ⟨_, _, hrg0, aside (fun s h => .inl h), HBQ.out⟩
      case round =>
        obtain ⟨left, cnt', hrg, HL, hb2⟩ := hrel
        have z2 := hb2.size
        have t0 := (hb2.cell (p := ⟨bb, 0, none⟩) hbb).trans b0
        have t1 := (hb2.cell (p := ⟨bb, 1, none⟩) hbb).trans b1
        have tf := fun o => (hb2.frozen (p := ⟨bb, o, none⟩) hbb).trans (bf o)
        have lb : bb < wr.heap.size := by omega
        have HB2 := aside hb2
        have HRG := aside hrg
        go_wp2_with (first
          | (at_next; refine wpList_next_ranges _ rfl _ rfl 9 nameKeyed (plainElem Tryd.prog 3) Value.string (Value.int .i64) (fun key kl hkey => by obtain ⟨x, rfl, _⟩ := WideMaps.string_of_keyOf Tryd.underlying9 hkey; exact ⟨x, rfl⟩) (fun v y hv => by obtain ⟨c, rfl, _⟩ := plainElem_int_inv Tryd.underlying3 hv; exact ⟨c, rfl⟩) w.heap.size rb (60 + k) DD left cnt' rfl HRG.out ?_ ?_)
          | fail)
        · intro hc0 hl0
          have hall : ∀ s, Maps.has DD (kOf s) = true → Within (ff s) := fun s h => (HL.out s h).resolve_left (by rw [hl0]; simp)
          have HALL := aside hall
          clear hall hl0 hc0 HL b0 b1 bf
          by_cases hz : 60 < Maps.size DD
          · have hz' : (60 : Int) < (Maps.size DD : Int) := by omega
            go_wp2_with (first
              | (at_len; refine wpList_len_own _ rfl _ 41 rfl 9 3 Tryd.underlying41 (plainElem Tryd.prog 3) w.heap.size (60 + k) DD rfl HRG.out.owns ?_)
              | fail)
            go_ret
            have hnp : ¬ PostOk 60 D f ls := fun h => by have h6 := h.2.2.2.2.2; rw [← HDD.out] at h6; omega
            exact .inr ⟨hnp, ifn (pErr_rest (by omega) (by omega) HA.out H0.out hnp), HB2.out⟩
          · have hz' : ((60 : Int) < (Maps.size DD : Int)) = False := by simp only [eq_iff_iff, iff_false]; omega
            have wc : wrap64 (cnt + 1) = cnt + 1 := by unfold wrap64; omega
            go_wp2_with (first
              | (at_len; refine wpList_len_own _ rfl _ 41 rfl 9 3 Tryd.underlying41 (plainElem Tryd.prog 3) w.heap.size (60 + k) DD rfl HRG.out.owns ?_)
              | fail)
            go_ret
            refine .inl ⟨⟨by omega, by omega, HA.out, H0.out, ?_, by rw [← HDD.out]; omega⟩, rfl, ?_, w.heap.size, ?_, ?_, ?_, ?_, Nat.le_refl _, ?_⟩
            · rw [← HDD.out, ← HFF.out]
              exact HALL.out
            · refine Below.setCell (Below.setCell (HB2.out.mono (by omega)) hB _) hB _
            · simp [go_sem, t0]
            · simp [go_sem, t1]
            · intro o; simp [go_sem, tf]
            · rw [← HDD.out]
              have h1 := mapAt_tight (HRG.out.owns : MapAt wr w.heap.size (60 + k) DD)
              have h2 := World.ownsMap.mono h1 (n' := 60) (by omega)
              exact (h2.setCell (by show w.heap.size ≠ bb; omega) _).setCell (by show w.heap.size ≠ bb; omega) _
            · intro k hk hne
              rw [heap_setCell_ne _ _ _ hne, heap_setCell_ne _ _ _ hne]
              exact HB2.out.block k hk
        · intro x c kl ya yb w2 cnt2 hkey hlx hv hat hrg2 hlt hg2 hs2 hen
          obtain ⟨x', ex, rfl, _⟩ := WideMaps.string_of_keyOf Tryd.underlying9 hkey
          injection ex with ex
          subst ex
          obtain ⟨c', ec, ey, _⟩ := plainElem_int_inv Tryd.underlying3 hv
          injection ec with _ ec
          subst ec
          simp only [Prod.mk.injEq] at ey
          obtain ⟨rfl, rfl⟩ := ey
          have hfc : ff x.data.toList = c := by
            have h1 := HBk.out.at_ x.data.toList
            have h2 := hat (.lit (.int .i64 0))
            unfold kOf at h1
            rw [h2] at h1
            injection h1 with h1
            injection h1 with _ h1
            exact h1.symm
          have hhas : Maps.has DD (kOf x.data.toList) = true := Maps.has_true_of_atKey hat
          have HFC := aside hfc
          have HHS := aside hhas
          have HB3 := aside (HB2.out.grown hg2 z2 (fun j hj => by injection hj with hj; have := HRB.out; omega))
          have HRG2 := aside hrg2
          have HLT := aside hlt
          clear hfc hhas hkey hv hat hrg2 hlt hg2 hb2 b0 b1 bf t0 t1 tf
          by_cases hw : Within c
          · have HW := aside hw
            clear hw
            go_wp2_with (first | (go_at_call 17; refine (within_ok c HW.out _).mono ?_; rintro e w' ⟨rfl, rfl⟩) | fail)
            refine ⟨⟨_, cnt2, HRG2.out, aside (fun s h => ?_), HB3.out⟩, ?_⟩
            · rcases HL.out s h with h1 | h1
              · by_cases hs : s = x.data.toList
                · right
                  rw [hs, HFC.out]
                  exact HW.out
                · left
                  rw [h1, Bool.true_and]
                  simp only [Bool.not_eq_true']
                  exact Maps.sameKey_ne (kOf_ne hs)
              · exact .inr h1
            · rw [HRG2.out.left_eq, HRG.out.left_eq]
              exact HLT.out
          · have HW := aside hw
            clear hw
            go_wp2_with (first | (go_at_call 17; refine (within_bad c HW.out _).mono ?_; rintro e w' ⟨rfl, rfl⟩) | fail)
            go_ret
            have hnp : ¬ PostOk 60 D f ls := fun h => by
              have h5 := h.2.2.2.2.1 x.data.toList (by rw [← HDD.out]; exact HHS.out)
              rw [← HFF.out, HFC.out] at h5
              exact HW.out h5
            exact .inr ⟨hnp, ifn (pErr_rest (by omega) (by omega) HA.out H0.out hnp), HB3.out⟩
end Go.Proofs.YtjoplhpaefngkaaDoor
