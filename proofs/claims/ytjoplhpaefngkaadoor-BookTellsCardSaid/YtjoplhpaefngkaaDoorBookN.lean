/- book.New, Balance, Entries; posted. No condition but that the book is one. -/
import Derived.Test.YtjoplhpaefngkaaDoorBookP
namespace Go.Proofs.YtjoplhpaefngkaaDoor
open Go.RowKit Go.ChangeShapes Go.WideShapes Go.ChangeAt

/-- A book in block bb: its map reads as D, the numbers are f, cnt entries were posted. -/
structure BookAt (w : World) (bb : Nat) (D : DataW Unit) (f : List UInt8 → Int) (cnt : Int) : Prop where
  lt : bb < w.heap.size
  map_ : ∃ mb, w.cell? ⟨bb, 0, none⟩ = some (.map (some mb)) ∧ MapAt w mb 60 D
  cnt_ : w.cell? ⟨bb, 1, none⟩ = some (.int .i64 cnt)
  fz : ∀ o, w.frozen? ⟨bb, o, none⟩ = false
  fine : Fine 60 D f
theorem MapAt.to {w w' : World} {b n : Nat} {D : DataW Unit} (h : MapAt w b n D) (hb : Below w.heap.size w w') : MapAt w' b n D := by
  have hlt := World.ownsMap.lt h
  obtain ⟨es, clock, h1, h2⟩ := h
  exact ⟨es, clock, (hb.block b hlt).trans h1, h2⟩
theorem BookAt.to {w w' : World} {bb : Nat} {D : DataW Unit} {f : List UInt8 → Int} {cnt : Int} (h : BookAt w bb D f cnt) (hb : Below w.heap.size w w') : BookAt w' bb D f cnt := by
  obtain ⟨h1, ⟨mb, h2, h3⟩, h4, h5, h6⟩ := h
  exact ⟨Nat.lt_of_lt_of_le h1 hb.size, ⟨mb, (hb.cell (p := ⟨bb, 0, none⟩) h1).trans h2, h3.to hb⟩, (hb.cell (p := ⟨bb, 1, none⟩) h1).trans h4, fun o => (hb.frozen (p := ⟨bb, o, none⟩) h1).trans (h5 o), h6⟩

/-- Post, on a book, and what is wrong; another book's blocks are as they were. -/
theorem post_book3 (ls : List Ln) (A : Option Addr) (n cp B bb : Nat) (cnt : Int) (D : DataW Unit) (f : List UInt8 → Int) (w : World) (hl : LSl w w.heap.size A n ls) (hB : B ≤ bb) (h : BookAt w bb D f cnt) (hc : 0 ≤ cnt ∧ cnt ≤ 1000) :
    Calls Tryd.prog 8 #[.pointer (some ⟨bb, 0, none⟩), .slice A n cp] w (fun e w' => Below B w w' ∧ (∀ k, k < w.heap.size → k ≠ bb → w'.heap[k]? = w.heap[k]?) ∧
      ((PostOk 60 D f ls ∧ e = .returned .nilIface ∧ BookAt w' bb (putAll D f ls) (addAll f ls) (cnt + 1)) ∨ (¬ PostOk 60 D f ls ∧ e = .returned (.iface 27 (.int .i64 (pErr 60 D f ls))) ∧ BookAt w' bb D f cnt))) := by
  have h' := h
  obtain ⟨h1, ⟨mb, h2, h3⟩, h4, h5, h6⟩ := h
  refine (post_any ls A n cp B bb mb cnt D f w hl hB h1 h2 h4 h5 h3 h6 hc).mono ?_
  rintro e w' (⟨k1, k2, k3, mb', k4, k5, k6, k7, -, k9⟩ | ⟨k1, k2, k3⟩)
  · exact ⟨k3, k9, .inl ⟨k1, k2, ⟨Nat.lt_of_lt_of_le h1 k3.size, ⟨mb', k4, k7⟩, k5, k6, h6.post k1⟩⟩⟩
  · exact ⟨k3.mono (by omega), fun k hk _ => k3.block k hk, .inr ⟨k1, k2, h'.to k3⟩⟩
/-- Post, on a book; another book's blocks are as they were. -/
theorem post_book2 (ls : List Ln) (A : Option Addr) (n cp B bb : Nat) (cnt : Int) (D : DataW Unit) (f : List UInt8 → Int) (w : World) (hl : LSl w w.heap.size A n ls) (hB : B ≤ bb) (h : BookAt w bb D f cnt) (hc : 0 ≤ cnt ∧ cnt ≤ 1000) :
    Calls Tryd.prog 8 #[.pointer (some ⟨bb, 0, none⟩), .slice A n cp] w (fun e w' => Below B w w' ∧ (∀ k, k < w.heap.size → k ≠ bb → w'.heap[k]? = w.heap[k]?) ∧
      ((PostOk 60 D f ls ∧ e = .returned .nilIface ∧ BookAt w' bb (putAll D f ls) (addAll f ls) (cnt + 1)) ∨ (¬ PostOk 60 D f ls ∧ (∃ q, e = .returned (.iface 27 (.int .i64 q))) ∧ BookAt w' bb D f cnt))) := 
  (post_book3 ls A n cp B bb cnt D f w hl hB h hc).mono fun _ _ ⟨h1, h2, h3⟩ => ⟨h1, h2, h3.imp id fun ⟨h4, h5, h6⟩ => ⟨h4, ⟨_, h5⟩, h6⟩⟩
/-- Post, on a book. -/
theorem post_book (ls : List Ln) (A : Option Addr) (n cp B bb : Nat) (cnt : Int) (D : DataW Unit) (f : List UInt8 → Int) (w : World) (hl : LSl w w.heap.size A n ls) (hB : B ≤ bb) (h : BookAt w bb D f cnt) (hc : 0 ≤ cnt ∧ cnt ≤ 1000) :
    Calls Tryd.prog 8 #[.pointer (some ⟨bb, 0, none⟩), .slice A n cp] w (fun e w' => Below B w w' ∧
      ((PostOk 60 D f ls ∧ e = .returned .nilIface ∧ BookAt w' bb (putAll D f ls) (addAll f ls) (cnt + 1)) ∨ (¬ PostOk 60 D f ls ∧ (∃ q, e = .returned (.iface 27 (.int .i64 q))) ∧ BookAt w' bb D f cnt))) :=
  (post_book2 ls A n cp B bb cnt D f w hl hB h hc).mono fun _ _ ⟨h1, _, h3⟩ => ⟨h1, h3⟩
theorem block_of_cell {w : World} {b o : Nat} {v : Value} (h : w.cell? ⟨b, o, none⟩ = some v) : ∀ es clock, w.heap[b]? ≠ some (.map es clock) := by
  intro es clock e
  simp [World.cell?, e] at h
/-- A book where all blocks but one, that holds cells, are as they were. -/
theorem BookAt.but {w w' : World} {bb b : Nat} {D : DataW Unit} {f : List UInt8 → Int} {cnt : Int} {v : Value} (h : BookAt w bb D f cnt) (hs : w.heap.size ≤ w'.heap.size) (hk : ∀ k, k < w.heap.size → k ≠ b → w'.heap[k]? = w.heap[k]?) (hne : bb ≠ b) (hv : w.cell? ⟨b, 0, none⟩ = some v) : BookAt w' bb D f cnt := by
  obtain ⟨h1, ⟨mb, h2, h3⟩, h4, h5, h6⟩ := h
  have hb := hk bb h1 hne
  have hm : mb ≠ b := by
    rintro rfl
    obtain ⟨es, clock, e, _⟩ := h3
    exact block_of_cell hv es clock e
  have h3' : MapAt w' mb 60 D := by
    have hlt := World.ownsMap.lt h3
    obtain ⟨es, clock, k1, k2⟩ := h3
    exact ⟨es, clock, (hk mb hlt hm).trans k1, k2⟩
  exact ⟨Nat.lt_of_lt_of_le h1 hs, ⟨mb, (World.cell?_of_block (a := ⟨bb, 0, none⟩) hb).trans h2, h3'⟩, (World.cell?_of_block (a := ⟨bb, 1, none⟩) hb).trans h4, fun o => (World.frozen?_of_block (a := ⟨bb, o, none⟩) hb).trans (h5 o), h6⟩

set_option maxHeartbeats 4000000 in
set_option maxRecDepth 100000 in
theorem new_any (w : World) : Calls Tryd.prog 5 #[] w (fun e w' => ∃ bb, e = .returned (.pointer (some ⟨bb, 0, none⟩)) ∧ w.heap.size ≤ bb ∧ Below w.heap.size w w' ∧ BookAt w' bb (.map []) (fun _ => 0) 0) := by
  have hmm := @run_makeMap Tryd.prog
  go_enter Tryd.func5, Tryd.ntmps5
  go_wp2
  go_ret
  refine ⟨w.heap.size + 1, rfl, by omega, ((Below.refl _ _).alloc (Nat.le_refl _) _).alloc (by simp) _, ⟨by simp, ⟨w.heap.size, ?_, ?_⟩, ?_, fun o => ?_, fine_empty⟩⟩
  · exact World.cell?_alloc_at _ _ _ _ (by simp)
  · exact World.ownsMap.mono (World.ownsMap.alloc (World.ownsMap_made w Tryd.prog 9 (plainElem (H := Unit) Tryd.prog 3)) _) (by omega)
  · exact World.cell?_alloc_at _ _ _ _ (by simp)
  · exact World.frozen?_alloc_at _ _ _ _ (by simp)

set_option maxHeartbeats 4000000 in
set_option maxRecDepth 100000 in
theorem balance_any (s : ByteArray) (hs : s.size ≤ maxLen) (bb : Nat) (cnt : Int) (D : DataW Unit) (f : List UInt8 → Int) (w : World) (h : BookAt w bb D f cnt) :
    Calls Tryd.prog 12 #[.pointer (some ⟨bb, 0, none⟩), .string s] w (fun e w' => e = .returned (.int .i64 (f s.data.toList)) ∧ w' = w) := by
  obtain ⟨h1, ⟨mb, h2, h3⟩, h4, h5, h6⟩ := h
  have HM := aside h3
  have HF := aside h6
  have HK : keyOf Tryd.prog 9 (.string s) = some (kOf s.data.toList) := WideMaps.keyOf_string_mk Tryd.underlying9 hs
  clear h3 h6 hs
  go_enter Tryd.func12, Tryd.ntmps12
  go_wp2_with (first
    | (at_lookup; refine wpList_lookup_own_int _ rfl _ _ 41 rfl 9 3 .i64 nameKeyed Tryd.underlying41 Tryd.underlying3 (zeroInt _) mb 60 _ rfl HM.out _ _ rfl HK ?_; intro c hat hwc)
    | fail)
  go_ret
  have hcv : c = f s.data.toList := by
    have h1 := HF.out.1.at_ s.data.toList
    rw [h1] at hat
    injection hat with hat
    injection hat with h2 h3
    exact h3.symm
  exact ⟨by rw [← hcv]; rfl, rfl⟩

set_option maxRecDepth 100000 in
theorem entries_any (bb : Nat) (cnt : Int) (D : DataW Unit) (f : List UInt8 → Int) (w : World) (h : BookAt w bb D f cnt) :
    Calls Tryd.prog 11 #[.pointer (some ⟨bb, 0, none⟩)] w (fun e w' => e = .returned (.int .i64 cnt) ∧ w' = w) := by
  obtain ⟨h1, ⟨mb, h2, h3⟩, h4, h5, h6⟩ := h
  clear h3 h6
  go_enter Tryd.func11, Tryd.ntmps11
  go_wp2
  go_ret
  exact ⟨rfl, rfl⟩

theorem size_putAll_le : ∀ (ls : List Ln) (D : DataW Unit) (f : List UInt8 → Int), Maps.Tidy D → Maps.size (putAll D f ls) ≤ Maps.size D + ls.length
  | [], D, f, _ => by simp [putAll]
  | l :: r, D, f, h => by
    have h1 := size_putAll_le r (D.put (kOf l.1) (.lit (.int .i64 (f l.1 + l.2)))) (more f l.1 l.2) (h.put (isKey_kOf l.1) _)
    have h2 : Maps.size (D.put (kOf l.1) (.lit (.int .i64 (f l.1 + l.2)))) ≤ Maps.size D + 1 := by rw [Maps.size_put h]; split <;> omega
    simp only [putAll, List.length_cons]
    omega
theorem posted_ok : PostOk 60 (.map []) (fun _ => 0) [([97], 5), ([98], -5)] := by
  have hA : ∀ l ∈ ([([97], 5), ([98], -5)] : List Ln), LnOk l := by
    intro l hl
    simp at hl
    rcases hl with rfl | rfl <;> simp [LnOk, Within]
  refine ⟨by decide, by decide, hA, by decide, fun s _ => ?_, ?_⟩
  · rw [addAll_eq]
    unfold Within
    simp only [sumAt]
    split <;> split <;> omega
  · have := size_putAll_le [([97], 5), ([98], -5)] (.map []) (fun _ => 0) Maps.tidy_empty
    simp [Maps.size_eq] at this
    omega

set_option maxHeartbeats 4000000 in
set_option maxRecDepth 100000 in
theorem posted_any (w : World) : Calls Tryd.prog 4 #[] w (fun e w' => e = .returned (.bool true) ∧ Below w.heap.size w w') := by
  go_enter Tryd.func4, Tryd.ntmps4
  go_wp2_with fail
  refine (new_any _).mono ?_
  rintro e w1 ⟨bb, rfl, hbb, hb1, hB⟩
  have HB := aside hB
  have Hb := aside hb1
  clear hB hb1
  go_wp2_with fail
  have hz1 := Hb.out.size
  refine (post_book [([97], 5), ([98], -5)] _ 2 2 w.heap.size bb 0 _ _ _ ⟨rfl, fun _ => ⟨_, 0, rfl, by simp, fun j u hj => ?_⟩⟩ hbb (HB.out.to ((Below.refl _ _).alloc (Nat.le_refl _) _)) (by omega)).mono ?_
  · rw [Nat.zero_add]
    refine (World.cell?_alloc_at _ _ _ _ (by simp)).trans ?_
    simpa [flatL, strV] using hj
  rintro e w2 ⟨hb2, ⟨-, rfl, hB2⟩ | ⟨h, -⟩⟩
  rotate_left
  · exact absurd posted_ok h
  have HB2 := aside hB2
  have Hb2 := aside (Hb.out.trans (((Below.refl _ _).alloc hz1 _).trans hb2))
  clear hb2 hB2
  go_wp2_with (first
    | (go_at_call 12; refine (balance_any _ (by decide) bb _ _ _ _ HB2.out).mono ?_; rintro e w' ⟨rfl, rfl⟩)
    | (go_at_call 11; refine (entries_any bb _ _ _ _ HB2.out).mono ?_; rintro e w' ⟨rfl, rfl⟩)
    | fail)
  go_ret
  exact ⟨rfl, Hb2.out⟩
end Go.Proofs.YtjoplhpaefngkaaDoor
