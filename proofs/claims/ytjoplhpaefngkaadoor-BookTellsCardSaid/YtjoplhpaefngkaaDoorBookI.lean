/- (*Book).Trial: all accounts, in rising order of their names. Conditions: named in each theorem. -/
import Derived.Test.YtjoplhpaefngkaaDoorBookN
import Derived.Test.YtjoplhpaefngkaaDoorIter
import Derived.Test.YtjoplhpaefngkaaDoorBookS
namespace Go.Proofs.YtjoplhpaefngkaaDoor
open Go.RowKit Go.ChangeShapes Go.WideShapes Go.ChangeAt

/-- The names, in rising order. -/
def keysOf (D : DataW Unit) : List (List UInt8) := (strKeys D).mergeSort leB
/-- All accounts. -/
def trialOf (D : DataW Unit) (f : List UInt8 → Int) : List Ln := (keysOf D).map fun s => (s, f s)
theorem keysOf_len (D : DataW Unit) : (keysOf D).length = (strKeys D).length := by simp [keysOf]
theorem strKeys_len {D : DataW Unit} (h : Maps.Tidy D) : (strKeys D).length = Maps.size D := by
  obtain ⟨es, rfl, _⟩ := h
  simp [strKeys, Maps.size_eq]
theorem trial_len {mx : Nat} {D : DataW Unit} {f : List UInt8 → Int} (h : Fine mx D f) : (trialOf D f).length ≤ mx := by
  have := h.2.2
  simp only [trialOf, List.length_map, keysOf_len, strKeys_len h.1.tidy]
  exact this
theorem trial_get (D : DataW Unit) (f : List UInt8 → Int) {k : Nat} (h : k < (keysOf D).length) : (trialOf D f).getD k ([], 0) = ((keysOf D)[k], f (keysOf D)[k]) := by
  rw [List.getD_eq_getElem?_getD, List.getElem?_eq_getElem (by simpa [trialOf] using h)]
  simp [trialOf]

theorem val_at {mx : Nat} {D : DataW Unit} {f : List UInt8 → Int} (h : Fine mx D f) {x : List UInt8} {c : Int} (hat : D.atKey (kOf x) (.lit (.int .i64 0)) = .lit (.int .i64 c)) : f x = c := by
  rw [h.1.at_ x] at hat
  injection hat with hat
  injection hat
theorem flatL_app (xs : List Ln) (s : List UInt8) (a : Int) : flatL (xs ++ [(s, a)]) = flatL xs ++ #[Value.string ⟨s.toArray⟩, .int .i64 a].toList := by simp [flatL, strV]
theorem lineInfo : (Tryd.prog.info? 38).map (fun i => (i.zero, i.size, i.bytes)) = some (some (.agg #[.string ⟨#[]⟩, .int .i64 0]), 2, 24) := by kernel_rfl
theorem LSl.ownR {w : World} {base : Nat} {A : Option Addr} {n c : Nat} {ls : List Ln} (h : w.ownsRow base 38 2 (.slice A n c) n (flatL ls)) : LSl w w.heap.size A n ls := Sl.own h

set_option maxHeartbeats 8000000 in
set_option maxRecDepth 100000 in
theorem trial_any (bb : Nat) (cnt : Int) (D : DataW Unit) (f : List UInt8 → Int) (w : World) (h : BookAt w bb D f cnt) :
    Calls Tryd.prog 10 #[.pointer (some ⟨bb, 0, none⟩)] w (fun e w' => ∃ A c, e = .returned (.slice A (trialOf D f).length c) ∧ LSl w' w'.heap.size A (trialOf D f).length (trialOf D f) ∧ Below w.heap.size w w') := by
  obtain ⟨h1, ⟨mb, h2, h3⟩, h4, h5, h6⟩ := h
  have hmb := World.ownsMap.lt h3
  have HM := aside h3
  have HF := aside h6
  have hsz : Maps.size D ≤ 60 := h6.2.2
  have HKL := aside (strKeys_le h3 Tryd.underlying9)
  have hkl : (keysOf D).length ≤ 60 := by rw [keysOf_len, strKeys_len h6.1.tidy]; exact hsz
  clear h3 h6 h4 h5
  go_enter Tryd.func10, Tryd.ntmps10
  go_wp2_with (first
    | (go_at_call 19; refine (callsIn_wide.1 (Tryd.maps_Keys_19 _ _)).mono ?_; rintro e w' ⟨rfl, rfl⟩)
    | fail)
  refine (callsIn_wide.1 (Tryd.slices_Sorted_keys_18_19 mb 60 D _ w HM.out (by unfold maxLen; omega) (by omega))).mono ?_
  rintro e w1 ⟨v, ss, rfl, hS, hrow, -, hb1⟩
  rw [show (ss.mergeSort fun x y => decide (x ≤ y)) = keysOf D from mergeSort_of_perm hS] at hrow
  have hlen : ss.length = (keysOf D).length := by rw [hS.length_eq, keysOf_len]
  rw [hlen] at hrow
  have HB1 : Hid (Below w.heap.size w w1) := aside (((Below.refl _ w).alloc (Nat.le_refl _) _).trans (hb1.mono (by simp)))
  have hz1 : w.heap.size < w1.heap.size := by have := hb1.size; simp at this; omega
  obtain ⟨Av, cv, rfl, -, -⟩ := own_slice hrow
  have HS := aside (Sl.own hrow)
  have HM1 : Hid (MapAt w1 mb 60 D) := aside (MapAt.to HM.out HB1.out)
  have HEL : Hid (∀ (j : Nat) (x : List UInt8), (keysOf D)[j]? = some x → ((keysOf D).map Go.Proofs.encStr)[j]? = some (Value.string ⟨x.toArray⟩)) := aside fun j x hx => by rw [List.getElem?_map, hx]; rfl
  have hn := trial_len HF.out
  have hnl : (trialOf D f).length = (keysOf D).length := by simp [trialOf]
  clear hS hrow hlen hb1 HM
  go_wp2_with fail
  go_loopw [3, 13] (fun v3 v13 wr => ∃ (k : Nat) (A : Option Addr) (c : Nat), k ≤ (keysOf D).length ∧ v13 = .int .i64 k ∧ v3 = .slice A k c ∧ Hid (wr.ownsRow w1.heap.size 38 2 (.slice A k c) k (flatL ((trialOf D f).take k))) ∧ Below w1.heap.size w1 wr) (fun _ v13 _ => (keysOf D).length - (intOf v13).toNat)
  case atStart => exact ⟨0, none, 0, Nat.zero_le _, rfl, rfl, aside ⟨by simp [flatL], .inl ⟨rfl, rfl⟩⟩, Below.refl _ _⟩
  case round =>
    obtain ⟨k, A, c, hk, rfl, rfl, HR, hb⟩ := hrel
    have hbz := hb.size
    by_cases k1 : k < (keysOf D).length
    · obtain ⟨b, off, rfl, hlt, hc⟩ := Sl.cells HS.out (by omega)
      have c0 := hc k _ (HEL.out k _ (List.getElem?_eq_getElem k1))
      have HT : Hid ((trialOf D f).take (k + 1) = (trialOf D f).take k ++ [((keysOf D)[k], f (keysOf D)[k])]) := aside (by rw [take_next (by omega), trial_get D f k1])
      have hxl : ((keysOf D)[k]).length ≤ maxLen := HKL.out _ ((List.mergeSort_perm _ _).mem_iff.1 (List.getElem_mem k1))
      generalize (keysOf D)[k] = x at c0 HT hxl
      have HK : keyOf Tryd.prog 9 (.string ⟨x.toArray⟩) = some (kOf x) := by
        have := WideMaps.keyOf_string_mk (s := ⟨x.toArray⟩) Tryd.underlying9 (by show x.toArray.size ≤ maxLen; simpa using hxl)
        simpa [kOf] using this
      have d0 := (hb.cell (p := ⟨b, off + k, none⟩) hlt).trans c0
      have e0 := (hb.cell (p := ⟨bb, 0, none⟩) (by show bb < w1.heap.size; omega)).trans ((HB1.out.cell (p := ⟨bb, 0, none⟩) h1).trans h2)
      have l0 : b < wr.heap.size := by omega
      have l1 : bb < wr.heap.size := by omega
      have i1 : (k : Int) < ((keysOf D).length : Int) := by omega
      have i4 : (0 : Int) ≤ (k : Int) := by omega
      have HMr : Hid (MapAt wr mb 60 D) := aside (MapAt.to HM1.out hb)
      have HBr := aside hb
      clear c0 hc hb hxl
      go_wp2_with (first
        | (at_lookup; refine wpList_lookup_own_int _ rfl _ _ 41 rfl 9 3 .i64 nameKeyed Tryd.underlying41 Tryd.underlying3 (zeroInt _) mb 60 _ rfl HMr.out _ _ rfl HK ?_; intro c1 hat hwc; obtain rfl := val_at HF.out hat; clear hat hwc)
        | (at_builtin; refine wpList_push rfl (.tmp 17) (.tmp 26) 26 rfl w1.heap.size _ 2 24 Tryd.underlying26 lineInfo rfl (by decide) _ _ _ rfl rfl rfl rfl HR.out (by omega) (by unfold maxLen; omega) hbz ?_; intro A3 c3 w5 hc3 hc3' hown3 hb5 hz5 hg5)
        | fail)
      have HO3 := aside hown3
      have hb6 := HBr.out.trans hb5
      have H6 := aside hb6
      clear hown3 hb5 hb6 hg5
      exact ⟨⟨k + 1, A3, c3, by omega, rfl, rfl, aside (by rw [HT.out, flatL_app]; exact HO3.out), H6.out⟩, by simp [intOf]; omega⟩
    · have i1 : ((k : Int) < ((keysOf D).length : Int)) = False := by simp only [eq_iff_iff, iff_false]; omega
      obtain rfl : k = (keysOf D).length := by omega
      have HB := aside hb
      clear hb
      go_wp2
      go_ret
      have hr := HR.out
      rw [List.take_of_length_le (by omega), ← hnl] at hr
      exact ⟨A, c, by rw [hnl]; rfl, LSl.ownR hr, HB1.out.trans (HB.out.mono (by omega))⟩
end Go.Proofs.YtjoplhpaefngkaaDoor
