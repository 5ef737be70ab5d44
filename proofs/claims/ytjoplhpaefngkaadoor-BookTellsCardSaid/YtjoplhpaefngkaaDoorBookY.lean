/- BookTells: the book and the reference's one tell the same. Condition: errors.errorType reads as the program's text lays it. -/
import Derived.Test.YtjoplhpaefngkaaDoorBookX
namespace Go.Proofs.YtjoplhpaefngkaaDoor
open Go.RowKit Go.ChangeShapes Go.WideShapes Go.ChangeAt

theorem trod_line {H : Type} {enc : TypeId × Value → H} {W : World} {base n : Nat} {spare : Nat → Bool} {held : Bool} {c0 c1 : Value} {y : DataW H × List MemPlace}
    (hf : DataW.trod enc Tryd.prog W base spare held n 38 [c0, c1] = some y) : ∃ (s : ByteArray) (a : Int), c0 = .string s ∧ c1 = .int .i64 a := by
  have hCs : Tryd.prog.cellsOf 9 = 1 := by kernel_rfl
  have hC1 : Tryd.prog.cellsOf 3 = 1 := by kernel_rfl
  obtain ⟨xs, m, _, _, _, hlen, hf⟩ := DataW.trod_struct Tryd.underlying38 hf
  match xs, hlen with
  | [y0, y1], _ =>
    have h0 := hf 0 _ rfl
    have h1 := hf 1 _ rfl
    simp [hCs, hC1] at h0 h1
    obtain ⟨s, e0, _⟩ := DataW.trod_string Tryd.underlying9 h0
    obtain ⟨a, e1, _, _⟩ := DataW.trod_int Tryd.underlying3 h1
    simp at e0 e1
    exact ⟨s, a, e0, e1⟩

set_option maxRecDepth 100000 in
/-- A slice of lines that came in. -/
theorem open_lines {H : Type} {enc : TypeId × Value → H} {W : World} {spare : Nat → Bool} {held : Bool} {fuel : Nat} {cs : List Value} {x : DataW H × List MemPlace}
    (h : DataW.trod enc Tryd.prog W 0 spare held fuel 26 cs = some x) : ∃ A n c ls, cs = [.slice A n c] ∧ LSl W W.heap.size A n ls := by
  have hC2 : Tryd.prog.cellsOf 38 = 2 := by kernel_rfl
  rcases Go.Deep.open_slice Tryd.underlying26 h with ⟨rfl, _⟩ | ⟨a, len, cap, m, n, D, Pl, rfl, _, hl, _, hm, _, hx⟩
  · exact ⟨none, 0, 0, [], rfl, Sl.nil_⟩
  · rw [hC2] at hx
    have hlm : len ≤ m := by rw [hm]; split <;> omega
    have hp : ∀ i, i < len → ∃ p : Ln, W.cell? (a.add (i * 2)) = some (strV p.1) ∧ W.cell? ((a.add (i * 2)).add 1) = some (.int .i64 p.2) := by
      intro i hi
      obtain ⟨cs', h1, h2⟩ := hx i (by omega)
      obtain ⟨_, hlen, hc⟩ := World.cells?_some h1
      match cs', hlen with
      | [u, v], _ =>
        obtain ⟨s, q, rfl, rfl⟩ := trod_line h2
        have c0 := hc 0 (by decide)
        have c1 := hc 1 (by decide)
        simp [Addr.add] at c0
        refine ⟨(s.data.toList, q), ?_, ?_⟩
        · rw [show strV s.data.toList = .string s by simp [strV]]
          simpa [Addr.add] using c0
        · simpa using c1
    obtain ⟨X, hX⟩ := Go.Deep.choose_lt hp
    obtain ⟨b, off, spot⟩ := a
    have hsp : 0 < len → spot = none := fun h0 => by simpa [Addr.add] using World.cell?_spot (hX 0 h0).1
    refine ⟨some ⟨b, off, spot⟩, len, cap, (List.range len).map X, rfl, ⟨by rw [flatL_len]; simp, fun hn => ?_⟩⟩
    have hs := hsp hn
    subst hs
    refine ⟨b, off, rfl, ?_, ?_⟩
    · have := World.block_lt_of_cell? W _ (hX 0 hn).1
      simpa [Addr.add] using this
    · intro j u hu
      have hj : j < len * 2 := by
        have := (List.getElem?_eq_some_iff.1 hu).1
        rw [flatL_len] at this
        simpa using this
      have hk : j / 2 < len := by omega
      have hg := flatL_get ((List.range len).map X) (k := j / 2) (by simpa using hk)
      have he : ((List.range len).map X).getD (j / 2) ([], 0) = X (j / 2) := by simp [List.getD, hk]
      rw [he] at hg
      have hX' := hX (j / 2) hk
      rw [add_plain, add_plain] at hX'
      rcases Nat.mod_two_eq_zero_or_one j with hz | hz
      · have ej : j = 2 * (j / 2) := by omega
        have e := hg.1
        rw [← ej] at e
        rw [e] at hu
        injection hu with hu
        subst hu
        have := hX'.1
        rw [show off + j / 2 * 2 = off + j by omega] at this
        exact this
      · have ej : j = 2 * (j / 2) + 1 := by omega
        have e := hg.2
        rw [← ej] at e
        rw [e] at hu
        injection hu with hu
        subst hu
        have := hX'.2
        rw [show off + j / 2 * 2 + 1 = off + j by omega] at this
        exact this

/-- A slice of slices of lines that came in. -/
theorem open_lists {H : Type} {enc : TypeId × Value → H} {W : World} {spare : Nat → Bool} {held : Bool} {fuel : Nat} {cs : List Value} {x : DataW H × List MemPlace}
    (h : DataW.trod enc Tryd.prog W 0 spare held fuel 22 cs = some x) : ∃ A n c, cs = [.slice A n c] ∧ ESl W W.heap.size A n := by
  have hC1 : Tryd.prog.cellsOf 26 = 1 := by kernel_rfl
  rcases Go.Deep.open_slice1 Tryd.underlying22 hC1 h with ⟨rfl, _⟩ | ⟨a, len, cap, m, n, V, D, Pl, rfl, _, hl, _, hm, _, hx⟩
  · exact ⟨none, 0, 0, rfl, fun k hk => absurd hk (Nat.not_lt_zero k)⟩
  · have hlm : len ≤ m := by rw [hm]; split <;> omega
    refine ⟨some a, len, cap, rfl, fun k hk => ?_⟩
    obtain ⟨hc, ht⟩ := hx k (by omega)
    obtain ⟨Ai, ni, ci, li, e, hli⟩ := open_lines ht
    simp only [List.cons.injEq, and_true] at e
    rw [e] at hc
    obtain ⟨b, off, spot⟩ := a
    have h0 := (hx 0 (by omega)).1
    have hs : spot = none := by simpa [Addr.add] using World.cell?_spot h0
    subst hs
    rw [add_plain] at hc
    refine ⟨b, off, Ai, ni, ci, li, rfl, ?_, hc, hli⟩
    exact World.block_lt_of_cell? W _ hc


set_option maxRecDepth 100000 in
/-- What the law's arguments are. -/
theorem bookTells_walk {H : Type} {enc : TypeId × Value → H} (W : World) (args : Array Value) (ds : List (DataW H)) (ps : List MemPlace) (hg : ErrVar W)
    (h : LawPre enc Tryd.prog Tryd.f3 W args ds ps) : Calls Tryd.prog 3 args W (LawPost W) := by
  obtain ⟨hA, ⟨base, hval⟩, hlt, hsz⟩ := h
  rw [Tryd.params3] at hA hval hsz
  obtain ⟨v0, v1, d0, d1, p0, p1, rfl, rfl, rfl, h0, h1⟩ := trodAll_two hA
  obtain ⟨a0, len0, cap0, rfl⟩ := okWide_slice Tryd.underlying22 (hval 0 _ v0 rfl rfl)
  obtain ⟨f0, h0⟩ := h0
  obtain ⟨A0, n0, c0, e0, hE⟩ := open_lists h0
  simp [Value.cells] at e0
  obtain ⟨rfl, rfl, rfl⟩ := e0
  obtain ⟨s, rfl, _, _, hs⟩ := Go.ChangeMaps.open_string Tryd.underlying9 (hval 1 _ v1 rfl rfl) h1
  obtain ⟨nm, rfl⟩ : ∃ nm : List UInt8, s = ⟨nm.toArray⟩ := ⟨s.data.toList, by simp⟩
  exact tells_any a0 len0 cap0 nm (by have h : nm.toArray.size ≤ maxLen := hs; simpa using h) W hg hE

set_option maxRecDepth 100000 in
theorem bookTells_lifted (os : Os) (started : os.Started) (H : Type) (enc : TypeId × Value → H) :
    ReturnsInHanded {} Tryd.checked os 3 .any (fun w args => (Rows.bookTellsSpec.pre enc Tryd.prog Tryd.f3 [] false w args ∧ laidMetH Tryd.prog laidList w) ∧ sizedMet enc Tryd.prog Tryd.f3 (OpenSpec.ofChange Rows.bookTellsSpec) false w args)
      (Rows.bookTellsSpec.post enc Tryd.prog Tryd.f3 false true false false) :=
  door_lifted (n := 2) #[.slice none 0 0, .string ⟨#[]⟩] 8 started (by kernel_rfl) Tryd.func3 (by kernel_rfl) (by kernel_rfl) (by kernel_rfl) (by kernel_rfl) (by kernel_rfl)
    rfl (by kernel_rfl) (by kernel_rfl) (by kernel_rfl) (fun ds h => by match ds, h with | [a, b], _ => rfl) bookTells_walk

set_option maxRecDepth 100000 in
theorem BookTells_row : Rows.BookTellsSaid :=
  OpenClaim.holds_of_wide 3 Tryd.f3 rfl rfl rfl rfl rfl rfl rfl ⟨rfl, rfl, rfl, rfl, rfl⟩ rfl rfl rfl rfl rfl (by kernel_rfl) Tryd.func3 (by kernel_rfl)
    (of_decide_eq_true (by kernel_rfl)) (by unfold Func.isWrapper; rw [if_neg (of_decide_eq_false (by kernel_rfl))]; exact ⟨rfl, rfl⟩)
    (fun os started H enc _ => bookTells_lifted os started H enc)

set_option maxRecDepth 100000 in
theorem bookTells_noStand : ∀ t ∈ Tryd.f3.params.toList, Tryd.prog.wantsStandIn t = false :=
  List.all_eq_true.1 (show Tryd.f3.params.toList.all (fun t => !Tryd.prog.wantsStandIn t) = true by kernel_rfl) |> fun h t ht => by simpa using h t ht

set_option maxRecDepth 100000 in
/-- The statement: the card. -/
theorem BookTells_holds : Rows.BookTellsCardSaid :=
  Claim7.holds_tied_plain_at .later [] [.handle] true (true, "63efcd181b98323efff48252ce8c594c21163a376855a1b9bb073efa09cf4131") true
    BookTells_row (fun _ h => by cases h) (by kernel_rfl) (fun _ h => by cases h) bookTells_row_tie rfl ⟨rfl, rfl⟩ (by kernel_rfl) rfl
    (fun f fn hf hfn => by
      obtain rfl : f = 3 := Option.some.inj ((show Tryd.prog.funcNamed "moneyer/moneyerlaw5.BookTells" = some 3 by kernel_rfl).symm.trans hf) |>.symm
      obtain rfl : fn = Tryd.f3 := (Option.some.inj (Tryd.func3.symm.trans hfn)).symm
      exact ⟨by kernel_rfl, fun j t ht => bookTells_noStand t (by
        have h2 : (Tryd.f3.params.toList)[j]? = some t := by simpa using ht
        exact List.mem_of_getElem? h2)⟩)
    (by kernel_rfl)
#print axioms BookTells_holds
end Go.Proofs.YtjoplhpaefngkaaDoor
