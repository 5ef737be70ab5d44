/- SwapTells: a deal that came in; the statement. No condition. -/
import Derived.Test.YtionmkmoddfehaaDoorSwapT
namespace Go.Proofs.YtionmkmoddfehaaDoor
open Go.RowKit Go.ChangeShapes Go.WideShapes Go.ChangeAt

theorem trod_pair {H : Type} {enc : TypeId × Value → H} {W : World} {base n : Nat} {spare : Nat → Bool} {held : Bool} {c0 c1 : Value} {y : DataW H × List MemPlace}
    (hf : DataW.trod enc Tryd.prog W base spare held n 22 [c0, c1] = some y) : ∃ a b : Int, c0 = .int .i64 a ∧ c1 = .int .i64 b := by
  cases n with
  | zero => simp [DataW.trod] at hf
  | succ m =>
    rw [DataW.trod_step] at hf
    unfold DataW.trodStep at hf
    have hC : Tryd.prog.cellsOf 22 = 2 := by kernel_rfl
    simp only [Tryd.underlying22] at hf
    rw [if_pos (by rw [hC]; simp)] at hf
    simp only [Option.map_eq_some_iff] at hf
    obtain ⟨ys, hy, e1⟩ := hf
    have hc : Tryd.prog.cellsOf 3 = 1 := by kernel_rfl
    simp [List.range, List.range.loop, hc, bind, Option.bind_eq_some_iff] at hy
    obtain ⟨y0, q0, h0, _, ⟨y1, q1, h1, _⟩, _⟩ := hy
    obtain ⟨a, e0, _, _⟩ := DataW.trod_int Tryd.underlying3 h0
    obtain ⟨b, e1', _, _⟩ := DataW.trod_int Tryd.underlying3 h1
    simp at e0 e1'
    exact ⟨a, b, e0, e1'⟩

/-- A deal that came in. -/
theorem open_deal {H : Type} {enc : TypeId × Value → H} {W : World} {r : Reach} {b0 base : Nat} {spare : Nat → Bool} {held : Bool} {v : Value} {d : DataW H} {p : List MemPlace}
    (hv : Value.okWide Tryd.prog W r b0 24 v) (h : DataW.Trod enc Tryd.prog W base spare held 24 v d p) :
    ∃ D : Deal, v = .agg #[.int .i64 D.g0, .int .i64 D.g1, .int .i64 D.e0, .int .i64 D.e1, .int .i64 D.s0, .int .i64 D.s1, .bool D.kn, .int .i64 D.now] := by
  have hC : Tryd.prog.cellsOf 24 = 8 := by kernel_rfl
  have hC2 : Tryd.prog.cellsOf 22 = 2 := by kernel_rfl
  have hC1 : Tryd.prog.cellsOf 3 = 1 := by kernel_rfl
  have hCb : Tryd.prog.cellsOf 4 = 1 := by kernel_rfl
  obtain ⟨⟨l⟩, rfl, hsz⟩ := okWide_struct Tryd.underlying24 hv
  rw [hC] at hsz
  obtain ⟨fuel, hf⟩ := h
  match l, hsz with
  | [c0, c1, c2, c3, c4, c5, c6, c7], _ =>
    obtain ⟨xs, n, _, hx, _, hlen, hf⟩ := DataW.trod_struct Tryd.underlying24 hf
    match xs, hlen with
    | [y0, y1, y2, y3, y4], _ =>
      have h0 := hf 0 _ rfl
      have h1 := hf 1 _ rfl
      have h2 := hf 2 _ rfl
      have h3 := hf 3 _ rfl
      have h4 := hf 4 _ rfl
      simp [Value.cells, hC2, hC1, hCb] at h0 h1 h2 h3 h4
      obtain ⟨a0, a1, rfl, rfl⟩ := trod_pair h0
      obtain ⟨a2, a3, rfl, rfl⟩ := trod_pair h1
      obtain ⟨a4, a5, rfl, rfl⟩ := trod_pair h2
      obtain ⟨a6, e6, _⟩ := DataW.trod_bool Tryd.underlying4 h3
      obtain ⟨a7, e7, _, _⟩ := DataW.trod_int Tryd.underlying3 h4
      simp at e6 e7
      subst e6 e7
      exact ⟨⟨a0, a1, a2, a3, a4, a5, a6, a7⟩, rfl⟩

set_option maxHeartbeats 2000000 in
/-- What the law's arguments are. -/
theorem swapTells_walk {H : Type} {enc : TypeId × Value → H} (W : World) (args : Array Value) (ds : List (DataW H)) (ps : List MemPlace) (hg : ErrVar W)
    (h : LawPre enc Tryd.prog Tryd.f3 W args ds ps) : Calls Tryd.prog 3 args W (LawPost W) := by
  obtain ⟨hA, ⟨base, hval⟩, hlt, hsz⟩ := h
  rw [Tryd.params3] at hA hval hsz
  obtain ⟨v0, v1, v2, v3, d0, d1, d2, d3, p0, p1, p2, p3, rfl, rfl, rfl, h0, h1, h2, h3⟩ := trodAll_four hA
  obtain ⟨D, rfl⟩ := open_deal (hval 0 _ v0 rfl rfl) h0
  obtain ⟨A1, n1, c1, zs, rfl, _, _, hs1, _, hx1⟩ := open_intSlice (hval 1 _ v1 rfl rfl) h1 (fun x hx => hlt x (by simp [hx]))
  obtain ⟨A2, n2, c2, ys, rfl, _, _, hs2, _, _⟩ := open_intSlice (hval 2 _ v2 rfl rfl) h2 (fun x hx => hlt x (by simp [hx]))
  obtain ⟨A3, n3, c3, xs, rfl, _, _, hs3, _, _⟩ := open_intSlice (hval 3 _ v3 rfl rfl) h3 (fun x hx => hlt x (by simp [hx]))
  exact swaps_any D zs ys xs A1 A2 A3 n1 n2 n3 c1 c2 c3 W hg hs1 hs2 hs3 (by have := reach_ints hsz (j := 1) rfl rfl Tryd.underlying25 (by kernel_rfl) hx1; omega)

set_option maxRecDepth 100000 in
theorem swapTells_lifted (os : Os) (started : os.Started) (H : Type) (enc : TypeId × Value → H) :
    ReturnsInHanded {} Tryd.checked os 3 .any (fun w args => (Rows.swapTellsSpec.pre enc Tryd.prog Tryd.f3 [] false w args ∧ laidMetH Tryd.prog laidList w) ∧ sizedMet enc Tryd.prog Tryd.f3 (OpenSpec.ofChange Rows.swapTellsSpec) false w args)
      (Rows.swapTellsSpec.post enc Tryd.prog Tryd.f3 false true false false) :=
  door_lifted (n := 4) #[.agg #[.int .i64 0, .int .i64 0, .int .i64 0, .int .i64 0, .int .i64 0, .int .i64 0, .bool false, .int .i64 0], .slice none 0 0, .slice none 0 0, .slice none 0 0] 8 started (by kernel_rfl) Tryd.func3 (by kernel_rfl) (by kernel_rfl) (by kernel_rfl) (by kernel_rfl) (by kernel_rfl)
    rfl (by kernel_rfl) (by kernel_rfl) (by kernel_rfl) (fun ds h => by match ds, h with | [a, b, c, d], _ => rfl) swapTells_walk

theorem SwapTells_row : Rows.SwapTellsSaid :=
  OpenClaim.holds_of_wide 3 Tryd.f3 rfl rfl rfl rfl rfl rfl rfl ⟨rfl, rfl, rfl, rfl, rfl⟩ rfl rfl rfl rfl rfl (by kernel_rfl) Tryd.func3 (by kernel_rfl)
    (of_decide_eq_true (by kernel_rfl)) (by unfold Func.isWrapper; rw [if_neg (of_decide_eq_false (by kernel_rfl))]; exact ⟨rfl, rfl⟩)
    (fun os started H enc _ => swapTells_lifted os started H enc)

theorem swapTells_noStand : ∀ t ∈ Tryd.f3.params.toList, Tryd.prog.wantsStandIn t = false :=
  List.all_eq_true.1 (show Tryd.f3.params.toList.all (fun t => !Tryd.prog.wantsStandIn t) = true by kernel_rfl) |> fun h t ht => by simpa using h t ht

/-- The statement: the card. -/
theorem SwapTells_holds : Rows.SwapTellsCardSaid :=
  Claim7.holds_tied_plain_at .later [] [.handle] true (true, "a934b811c071bc031f48625f1b6ce8a801438183781ad88c02aaa4c66f24aa86") true
    SwapTells_row (fun _ h => by cases h) (by kernel_rfl) (fun _ h => by cases h) swapTells_row_tie rfl ⟨rfl, rfl⟩ (by kernel_rfl) rfl
    (fun f fn hf hfn => by
      obtain rfl : f = 3 := Option.some.inj ((show Tryd.prog.funcNamed "moneyer/moneyerlaw4.SwapTells" = some 3 by kernel_rfl).symm.trans hf) |>.symm
      obtain rfl : fn = Tryd.f3 := (Option.some.inj (Tryd.func3.symm.trans hfn)).symm
      exact ⟨by kernel_rfl, fun j t ht => swapTells_noStand t (by
        have h2 : (Tryd.f3.params.toList)[j]? = some t := by simpa using ht
        exact List.mem_of_getElem? h2)⟩)
    (by kernel_rfl)
#print axioms SwapTells_holds
end Go.Proofs.YtionmkmoddfehaaDoor
