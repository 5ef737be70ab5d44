/- PegTells: the statement. Condition: errors.errorType reads as the program's text lays it. -/
import Derived.Test.YtcmlhopidohimaaDoorPegRh
import Derived.Test.YtcmlhopidohimaaDoorOpen
namespace Go.Proofs.YtcmlhopidohimaaDoor
open Go.RowKit Go.ChangeShapes Go.WideShapes Go.ChangeAt

section
variable {H : Type} {en : TypeId × Value → H} {W : World} {spare : Nat → Bool} {held : Bool}
theorem open_caps {P : Program} {T E : TypeId} {fuel : Nat} {A : Option Addr} {n c : Nat} {x : DataW H × List MemPlace} (hu : P.underlying T = some (.slice E)) (h : DataW.trod en P W 0 spare held fuel T [.slice A n c] = some x) : n ≤ c ∧ c ≤ maxLen := by
  rcases Go.Deep.open_slice hu h with ⟨e, _⟩ | ⟨a, len, cap, _, _, _, _, e, _, hl, hm, _⟩
  · simp at e
    obtain ⟨_, rfl, rfl⟩ := e
    exact ⟨Nat.le_refl _, Nat.zero_le _⟩
  · simp at e
    obtain ⟨_, rfl, rfl⟩ := e
    exact ⟨hl, hm⟩
set_option maxRecDepth 100000 in
theorem trod_i (n : Nat) (cs : List Value) (y : DataW H × List MemPlace) (hl : cs.length = 1)
    (hf : DataW.trod en Tryd.prog W 0 spare held n 3 cs = some y) : ∃ d : Int, cs = encI d ∧ True := by
  match cs, hl with
  | [c0], _ =>
    obtain ⟨a0, e0, _, _⟩ := DataW.trod_int Tryd.underlying3 hf
    simp at e0
    subst e0
    exact ⟨a0, rfl, trivial⟩
set_option maxRecDepth 100000 in
theorem trod_p (n : Nat) (cs : List Value) (y : DataW H × List MemPlace) (hl : cs.length = 2)
    (hf : DataW.trod en Tryd.prog W 0 spare held n 46 cs = some y) : ∃ d : Int × Int, cs = encP d ∧ True := by
  have hC1 : Tryd.prog.cellsOf 3 = 1 := by kernel_rfl
  obtain ⟨xs, m, _, _, _, hlen, hf⟩ := DataW.trod_struct Tryd.underlying46 hf
  match cs, hl with
  | [c0, c1], _ =>
    match xs, hlen with
    | [y0, y1], _ =>
      have h0 := hf 0 _ rfl
      have h1 := hf 1 _ rfl
      simp [hC1] at h0 h1
      obtain ⟨a0, e0, _, _⟩ := DataW.trod_int Tryd.underlying3 h0
      obtain ⟨a1, e1, _, _⟩ := DataW.trod_int Tryd.underlying3 h1
      simp at e0 e1
      subst e0 e1
      exact ⟨(a0, a1), rfl, trivial⟩
set_option maxRecDepth 100000 in
theorem trod_r (n : Nat) (cs : List Value) (y : DataW H × List MemPlace) (hl : cs.length = 3)
    (hf : DataW.trod en Tryd.prog W 0 spare held n 49 cs = some y) : ∃ d : Int × Int × Bool, cs = encR d ∧ True := by
  have hC1 : Tryd.prog.cellsOf 3 = 1 := by kernel_rfl
  have hCb : Tryd.prog.cellsOf 4 = 1 := by kernel_rfl
  obtain ⟨xs, m, _, _, _, hlen, hf⟩ := DataW.trod_struct Tryd.underlying49 hf
  match cs, hl with
  | [c0, c1, c2], _ =>
    match xs, hlen with
    | [y0, y1, y2], _ =>
      have h0 := hf 0 _ rfl
      have h1 := hf 1 _ rfl
      have h2 := hf 2 _ rfl
      simp [hC1, hCb] at h0 h1 h2
      obtain ⟨a0, e0, _, _⟩ := DataW.trod_int Tryd.underlying3 h0
      obtain ⟨a1, e1, _, _⟩ := DataW.trod_int Tryd.underlying3 h1
      obtain ⟨a2, e2, _⟩ := DataW.trod_bool Tryd.underlying4 h2
      simp at e0 e1 e2
      subst e0 e1 e2
      exact ⟨(a0, a1, a2), rfl, trivial⟩
set_option maxRecDepth 100000 in
/-- A peg that came in. -/
theorem open_peg {r : Reach} {b0 : Nat} {v : Value} {d : DataW H} {p : List MemPlace}
    (hv : Value.okWide Tryd.prog W r b0 26 v) (h : DataW.Trod en Tryd.prog W 0 spare held 26 v d p) : ∃ s, PegAt 0 W v s := by
  have hC : Tryd.prog.cellsOf 26 = 4 := by kernel_rfl
  have hCp : Tryd.prog.cellsOf 22 = 1 := by kernel_rfl
  have hCr : Tryd.prog.cellsOf 24 = 1 := by kernel_rfl
  have hCi : Tryd.prog.cellsOf 23 = 1 := by kernel_rfl
  have hC1 : Tryd.prog.cellsOf 3 = 1 := by kernel_rfl
  obtain ⟨⟨l⟩, rfl, hsz⟩ := okWide_struct Tryd.underlying26 hv
  rw [hC] at hsz
  obtain ⟨fuel, hf⟩ := h
  match l, hsz with
  | [c0, c1, c2, c3], _ =>
    obtain ⟨xs, n, _, hx, _, hlen, hf⟩ := DataW.trod_struct Tryd.underlying26 hf
    match xs, hlen with
    | [y0, y1, y2, y3], _ =>
      have h0 := hf 0 _ rfl
      have h1 := hf 1 _ rfl
      have h2 := hf 2 _ rfl
      have h3 := hf 3 _ rfl
      simp [Value.cells, hCp, hCr, hCi, hC1] at h0 h1 h2 h3
      obtain ⟨l, e0, _, _⟩ := DataW.trod_int Tryd.underlying3 h0
      obtain ⟨A1, n1, c1', xs1, e1, g1, -, -⟩ := open_recs Tryd.underlying22 (by kernel_rfl) (by decide) encP_len (0, 0) trod_p h1
      obtain ⟨A2, n2, c2', xs2, e2, g2, -, -⟩ := open_recs Tryd.underlying23 (by kernel_rfl) (by decide) encI_len 0 trod_i h2
      obtain ⟨A3, n3, c3', xs3, e3, g3, -, -⟩ := open_recs Tryd.underlying24 (by kernel_rfl) (by decide) encR_len (0, 0, false) trod_r h3
      simp at e0 e1 e2 e3
      subst e0 e1 e2 e3
      obtain ⟨k1, m1⟩ := open_caps Tryd.underlying22 h1
      obtain ⟨k2, m2⟩ := open_caps Tryd.underlying23 h2
      obtain ⟨k3, m3⟩ := open_caps Tryd.underlying24 h3
      exact ⟨(l, xs1, xs2, xs3), A1, n1, c1', A2, n2, c2', A3, n3, c3', rfl, g1, g2, g3, k1, k2, k3, m1, m3, fun _ _ _ _ => Nat.zero_le _, fun _ _ _ _ => Nat.zero_le _, fun _ _ _ _ => Nat.zero_le _⟩
end


set_option maxRecDepth 100000 in
/-- What the law's arguments are. -/
theorem pegTells_walk {H : Type} {enc : TypeId × Value → H} (W : World) (args : Array Value) (ds : List (DataW H)) (ps : List MemPlace) (hg : ErrVar W)
    (h : LawPre enc Tryd.prog Tryd.f3 W args ds ps) : Calls Tryd.prog 3 args W (LawPost W) := by
  obtain ⟨hA, ⟨base, hval⟩, hlt, hsz⟩ := h
  rw [Tryd.params3] at hA hval hsz
  obtain ⟨v0, l0, d0, m0, p0, r0, ea, rfl, rfl, h0, hA⟩ := trodAll_cons hA
  obtain ⟨v1, l1, d1, m1, p1, r1, rfl, rfl, rfl, h1, hA⟩ := trodAll_cons hA
  obtain ⟨v2, l2, d2, m2, p2, r2, rfl, rfl, rfl, h2, hA⟩ := trodAll_cons hA
  obtain ⟨v3, l3, d3, m3, p3, r3, rfl, rfl, rfl, h3, hA⟩ := trodAll_cons hA
  obtain ⟨v4, l4, d4, m4, p4, r4, rfl, rfl, rfl, h4, hA⟩ := trodAll_cons hA
  obtain ⟨rfl, rfl, rfl⟩ := trodAll_nil hA
  obtain rfl : args = #[v0, v1, v2, v3, v4] := by
    cases args
    simpa using ea
  obtain ⟨s, hs⟩ := open_peg (hval 0 _ v0 rfl rfl) h0
  obtain ⟨x1, rfl, rfl, rfl, _⟩ := open_int Tryd.underlying3 (hval 1 _ v1 rfl rfl) h1
  obtain ⟨x2, rfl, rfl, rfl, _⟩ := open_int Tryd.underlying3 (hval 2 _ v2 rfl rfl) h2
  obtain ⟨x3, rfl, rfl, rfl, _⟩ := open_int Tryd.underlying3 (hval 3 _ v3 rfl rfl) h3
  obtain ⟨x4, rfl, rfl, rfl, _⟩ := open_int Tryd.underlying3 (hval 4 _ v4 rfl rfl) h4
  exact pegTells_any s v0 x1 x2 x3 x4 W hg hs

set_option maxRecDepth 100000 in
theorem pegTells_lifted (os : Os) (started : os.Started) (H : Type) (enc : TypeId × Value → H) :
    ReturnsInHanded {} Tryd.checked os 3 .any (fun w args => (Rows.pegTellsSpec.pre enc Tryd.prog Tryd.f3 [] false w args ∧ laidMetH Tryd.prog laidList w) ∧ sizedMet enc Tryd.prog Tryd.f3 (OpenSpec.ofChange Rows.pegTellsSpec) false w args)
      (Rows.pegTellsSpec.post enc Tryd.prog Tryd.f3 false true false false) :=
  door_lifted (n := 5) #[.agg #[.int .i64 0, .slice none 0 0, .slice none 0 0, .slice none 0 0], .int .i64 0, .int .i64 0, .int .i64 0, .int .i64 0] 8 started (by kernel_rfl) Tryd.func3 (by kernel_rfl) (by kernel_rfl) (by kernel_rfl) (by kernel_rfl) (by kernel_rfl)
    rfl (by kernel_rfl) (by kernel_rfl) (by kernel_rfl) (fun ds h => by match ds, h with | [a, b, c, d, e], _ => rfl) pegTells_walk

theorem PegTells_row : Rows.PegTellsSaid :=
  OpenClaim.holds_of_wide 3 Tryd.f3 rfl rfl rfl rfl rfl rfl rfl ⟨rfl, rfl, rfl, rfl, rfl⟩ rfl rfl rfl rfl rfl (by kernel_rfl) Tryd.func3 (by kernel_rfl)
    (of_decide_eq_true (by kernel_rfl)) (by unfold Func.isWrapper; rw [if_neg (of_decide_eq_false (by kernel_rfl))]; exact ⟨rfl, rfl⟩)
    (fun os started H enc _ => pegTells_lifted os started H enc)

theorem pegTells_noStand : ∀ t ∈ Tryd.f3.params.toList, Tryd.prog.wantsStandIn t = false :=
  List.all_eq_true.1 (show Tryd.f3.params.toList.all (fun t => !Tryd.prog.wantsStandIn t) = true by kernel_rfl) |> fun h t ht => by simpa using h t ht

/-- The statement: the card. -/
theorem PegTells_holds : Rows.PegTellsCardSaid :=
  Claim7.holds_tied_plain_at .later [] [.handle] true (true, "8190b2d7a370180bc81e97dd688bf5ee39261b445dcc6c7058cb807d43fe2cc3") true
    PegTells_row (fun _ h => by cases h) (by kernel_rfl) (fun _ h => by cases h) pegTells_row_tie rfl ⟨rfl, rfl⟩ (by kernel_rfl) rfl
    (fun f fn hf hfn => by
      obtain rfl : f = 3 := Option.some.inj ((show Tryd.prog.funcNamed "moneyer/moneyerlaw5.PegTells" = some 3 by kernel_rfl).symm.trans hf) |>.symm
      obtain rfl : fn = Tryd.f3 := (Option.some.inj (Tryd.func3.symm.trans hfn)).symm
      exact ⟨by kernel_rfl, fun j t ht => pegTells_noStand t (by
        have h2 : (Tryd.f3.params.toList)[j]? = some t := by simpa using ht
        exact List.mem_of_getElem? h2)⟩)
    (by kernel_rfl)
#print axioms PegTells_holds
end Go.Proofs.YtcmlhopidohimaaDoor
