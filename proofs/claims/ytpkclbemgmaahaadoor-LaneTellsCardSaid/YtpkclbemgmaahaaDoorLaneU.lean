/- LaneTells: a channel that came in; the statement. No condition. -/
import Derived.Test.YtpkclbemgmaahaaDoorLaneT
import Derived.Deep.Slices
namespace Go.Proofs.YtpkclbemgmaahaaDoor
open Go.RowKit Go.ChangeShapes Go.WideShapes Go.ChangeAt

theorem trod_two {H : Type} {enc : TypeId × Value → H} {W : World} {base n : Nat} {spare : Nat → Bool} {held : Bool} {c0 c1 : Value} {y : DataW H × List MemPlace}
    (hf : DataW.trod enc Tryd.prog W base spare held n 30 [c0, c1] = some y) : ∃ a b : Int, c0 = .int .i64 a ∧ c1 = .int .i64 b := by
  cases n with
  | zero => simp [DataW.trod] at hf
  | succ m =>
    rw [DataW.trod_step] at hf
    unfold DataW.trodStep at hf
    have hC : Tryd.prog.cellsOf 30 = 2 := by kernel_rfl
    simp only [Tryd.underlying30] at hf
    rw [if_pos (by rw [hC]; simp)] at hf
    simp only [Option.map_eq_some_iff] at hf
    obtain ⟨ys, hy, e1⟩ := hf
    have hc : Tryd.prog.cellsOf 3 = 1 := by kernel_rfl
    simp [List.range, List.range.loop, hc, bind, Option.bind_eq_some_iff] at hy
    obtain ⟨y0, q0, h0, _, ⟨y1, q1, h1, _⟩, _⟩ := hy
    obtain ⟨a, e0, _, _⟩ := DataW.trod_int Tryd.underlying3 h0
    obtain ⟨b, e1', _, _⟩ := DataW.trod_int Tryd.underlying3 h1
    simp at e0 e1'
    exact ⟨a, b, e0, e1'⟩

/-- A slice of pairs that came in. -/
theorem open_pairs {H : Type} {enc : TypeId × Value → H} {W : World} {spare : Nat → Bool} {held : Bool} {fuel : Nat} {cs : List Value} {x : DataW H × List MemPlace}
    (h : DataW.trod enc Tryd.prog W 0 spare held fuel 22 cs = some x) : ∃ A n c ps, cs = [.slice A n c] ∧ PSl W W.heap.size A n ps := by
  have hC2 : Tryd.prog.cellsOf 30 = 2 := by kernel_rfl
  rcases Go.Deep.open_slice Tryd.underlying22 h with ⟨rfl, _⟩ | ⟨a, len, cap, m, n, D, Pl, rfl, _, hl, _, hm, _, hx⟩
  · exact ⟨none, 0, 0, [], rfl, Sl.nil_⟩
  · rw [hC2] at hx
    have hlm : len ≤ m := by rw [hm]; split <;> omega
    have hp : ∀ i, i < len → ∃ p : Int × Int, W.cell? (a.add (i * 2)) = some (.int .i64 p.1) ∧ W.cell? ((a.add (i * 2)).add 1) = some (.int .i64 p.2) := by
      intro i hi
      obtain ⟨cs', h1, h2⟩ := hx i (by omega)
      obtain ⟨_, hlen, hc⟩ := World.cells?_some h1
      match cs', hlen with
      | [u, v], _ =>
        obtain ⟨p, q, rfl, rfl⟩ := trod_two h2
        have c0 := hc 0 (by decide)
        have c1 := hc 1 (by decide)
        simp [Addr.add] at c0
        refine ⟨(p, q), ?_, ?_⟩
        · simpa [Addr.add] using c0
        · simpa using c1
    obtain ⟨X, hX⟩ := Go.Deep.choose_lt hp
    obtain ⟨b, off, spot⟩ := a
    have hsp : 0 < len → spot = none := fun h0 => by simpa [Addr.add] using World.cell?_spot (hX 0 h0).1
    refine ⟨some ⟨b, off, spot⟩, len, cap, (List.range len).map X, rfl, ⟨by rw [flat_len]; simp, fun hn => ?_⟩⟩
    have hs := hsp hn
    subst hs
    refine ⟨b, off, rfl, ?_, ?_⟩
    · have := World.block_lt_of_cell? W _ (hX 0 hn).1
      simpa [Addr.add] using this
    · intro j u hu
      have hj : j < len * 2 := by
        have := (List.getElem?_eq_some_iff.1 hu).1
        rw [flat_len] at this
        simpa using this
      have hk : j / 2 < len := by omega
      have hg := flat_get ((List.range len).map X) (k := j / 2) (by simpa using hk)
      have he : ((List.range len).map X).getD (j / 2) (0, 0) = X (j / 2) := by simp [List.getD, hk]
      rw [he] at hg
      have hX' := hX (j / 2) hk
      rw [add_plain, add_plain] at hX'
      rcases Nat.mod_two_eq_zero_or_one j with hz | hz
      · have ej : j = 2 * (j / 2) := by omega
        have e := hg.1
        rw [← ej] at e
        rw [e] at hu
        injection hu with hu
        subst hu
        have := hX'.1
        rw [show off + j / 2 * 2 = off + j by omega] at this
        exact this
      · have ej : j = 2 * (j / 2) + 1 := by omega
        have e := hg.2
        rw [← ej] at e
        rw [e] at hu
        injection hu with hu
        subst hu
        have := hX'.2
        rw [show off + j / 2 * 2 + 1 = off + j by omega] at this
        exact this

/-- A channel that came in. -/
theorem open_chan {H : Type} {enc : TypeId × Value → H} {W : World} {r : Reach} {b0 : Nat} {spare : Nat → Bool} {held : Bool} {v : Value} {d : DataW H} {p : List MemPlace}
    (hv : Value.okWide Tryd.prog W r b0 24 v) (h : DataW.Trod enc Tryd.prog W 0 spare held 24 v d p) :
    ∃ A n c ps cl tu wh ch, v = .agg #[.slice A n c, .int .i64 cl, .int .i64 tu, .int .i64 wh, .bool ch] ∧ PSl W W.heap.size A n ps := by
  have hC : Tryd.prog.cellsOf 24 = 5 := by kernel_rfl
  have hC2 : Tryd.prog.cellsOf 22 = 1 := by kernel_rfl
  have hC1 : Tryd.prog.cellsOf 3 = 1 := by kernel_rfl
  have hCb : Tryd.prog.cellsOf 4 = 1 := by kernel_rfl
  obtain ⟨⟨l⟩, rfl, hsz⟩ := okWide_struct Tryd.underlying24 hv
  rw [hC] at hsz
  obtain ⟨fuel, hf⟩ := h
  match l, hsz with
  | [c0, c1, c2, c3, c4], _ =>
    obtain ⟨xs, n, _, hx, _, hlen, hf⟩ := DataW.trod_struct Tryd.underlying24 hf
    match xs, hlen with
    | [y0, y1, y2, y3, y4], _ =>
      have h0 := hf 0 _ rfl
      have h1 := hf 1 _ rfl
      have h2 := hf 2 _ rfl
      have h3 := hf 3 _ rfl
      have h4 := hf 4 _ rfl
      simp [Value.cells, hC2, hC1, hCb] at h0 h1 h2 h3 h4
      obtain ⟨A, m, c, ps, e0, hp⟩ := open_pairs h0
      obtain ⟨a1, e1, _, _⟩ := DataW.trod_int Tryd.underlying3 h1
      obtain ⟨a2, e2, _, _⟩ := DataW.trod_int Tryd.underlying3 h2
      obtain ⟨a3, e3, _, _⟩ := DataW.trod_int Tryd.underlying3 h3
      obtain ⟨a4, e4, _⟩ := DataW.trod_bool Tryd.underlying4 h4
      simp at e0 e1 e2 e3 e4
      subst e0 e1 e2 e3 e4
      exact ⟨A, m, c, ps, a1, a2, a3, a4, rfl, hp⟩

set_option maxHeartbeats 2000000 in
/-- What the law's arguments are. -/
theorem laneTells_walk {H : Type} {enc : TypeId × Value → H} (W : World) (args : Array Value) (ds : List (DataW H)) (ps : List MemPlace) (hg : ErrVar W)
    (h : LawPre enc Tryd.prog Tryd.f3 W args ds ps) : Calls Tryd.prog 3 args W (LawPost W) := by
  obtain ⟨hA, ⟨base, hval⟩, hlt, hsz⟩ := h
  rw [Tryd.params3] at hA hval hsz
  obtain ⟨v0, l0, d0, m0, p0, r0, ea, rfl, rfl, h0, hA⟩ := trodAll_cons hA
  obtain ⟨v1, l1, d1, m1, p1, r1, rfl, rfl, rfl, h1, hA⟩ := trodAll_cons hA
  obtain ⟨v2, l2, d2, m2, p2, r2, rfl, rfl, rfl, h2, hA⟩ := trodAll_cons hA
  obtain ⟨v3, l3, d3, m3, p3, r3, rfl, rfl, rfl, h3, hA⟩ := trodAll_cons hA
  obtain ⟨v4, l4, d4, m4, p4, r4, rfl, rfl, rfl, h4, hA⟩ := trodAll_cons hA
  obtain ⟨v5, l5, d5, m5, p5, r5, rfl, rfl, rfl, h5, hA⟩ := trodAll_cons hA
  obtain ⟨rfl, rfl, rfl⟩ := trodAll_nil hA
  obtain rfl : args = #[v0, v1, v2, v3, v4, v5] := by
    cases args
    simpa using ea
  obtain ⟨x0, rfl, rfl, rfl, _⟩ := open_int Tryd.underlying3 (hval 0 _ v0 rfl rfl) h0
  obtain ⟨x1, rfl, rfl, rfl, _⟩ := open_int Tryd.underlying3 (hval 1 _ v1 rfl rfl) h1
  obtain ⟨x3, rfl, rfl, rfl, _⟩ := open_int Tryd.underlying3 (hval 3 _ v3 rfl rfl) h3
  obtain ⟨x4, rfl, rfl, rfl, _⟩ := open_int Tryd.underlying3 (hval 4 _ v4 rfl rfl) h4
  obtain ⟨x5, rfl, rfl, rfl, _⟩ := open_int Tryd.underlying3 (hval 5 _ v5 rfl rfl) h5
  obtain ⟨A, n, c, qs, cl, tu, wh, ch, rfl, hp⟩ := open_chan (hval 2 _ v2 rfl rfl) h2
  exact tells_any x0 x1 qs A n c cl tu wh ch x3 x4 x5 W hg hp

set_option maxRecDepth 100000 in
theorem laneTells_lifted (os : Os) (started : os.Started) (H : Type) (enc : TypeId × Value → H) :
    ReturnsInHanded {} Tryd.checked os 3 .any (fun w args => (Rows.laneTellsSpec.pre enc Tryd.prog Tryd.f3 [] false w args ∧ laidMetH Tryd.prog laidList w) ∧ sizedMet enc Tryd.prog Tryd.f3 (OpenSpec.ofChange Rows.laneTellsSpec) false w args)
      (Rows.laneTellsSpec.post enc Tryd.prog Tryd.f3 false true false false) :=
  door_lifted (n := 6) #[.int .i64 0, .int .i64 0, .agg #[.slice none 0 0, .int .i64 0, .int .i64 0, .int .i64 0, .bool false], .int .i64 0, .int .i64 0, .int .i64 0] 8 started (by kernel_rfl) Tryd.func3 (by kernel_rfl) (by kernel_rfl) (by kernel_rfl) (by kernel_rfl) (by kernel_rfl)
    rfl (by kernel_rfl) (by kernel_rfl) (by kernel_rfl) (fun ds h => by match ds, h with | [a, b, c, d, e, f], _ => rfl) laneTells_walk

theorem LaneTells_row : Rows.LaneTellsSaid :=
  OpenClaim.holds_of_wide 3 Tryd.f3 rfl rfl rfl rfl rfl rfl rfl ⟨rfl, rfl, rfl, rfl, rfl⟩ rfl rfl rfl rfl rfl (by kernel_rfl) Tryd.func3 (by kernel_rfl)
    (of_decide_eq_true (by kernel_rfl)) (by unfold Func.isWrapper; rw [if_neg (of_decide_eq_false (by kernel_rfl))]; exact ⟨rfl, rfl⟩)
    (fun os started H enc _ => laneTells_lifted os started H enc)

theorem laneTells_noStand : ∀ t ∈ Tryd.f3.params.toList, Tryd.prog.wantsStandIn t = false :=
  List.all_eq_true.1 (show Tryd.f3.params.toList.all (fun t => !Tryd.prog.wantsStandIn t) = true by kernel_rfl) |> fun h t ht => by simpa using h t ht

/-- The statement: the card. -/
theorem LaneTells_holds : Rows.LaneTellsCardSaid :=
  Claim7.holds_tied_plain_at .later [] [.handle] true (true, "7b210f6c5599e840ac19f3653ec24d80fd2ff19c3c3e445d41e65a6be3f3e221") true
    LaneTells_row (fun _ h => by cases h) (by kernel_rfl) (fun _ h => by cases h) laneTells_row_tie rfl ⟨rfl, rfl⟩ (by kernel_rfl) rfl
    (fun f fn hf hfn => by
      obtain rfl : f = 3 := Option.some.inj ((show Tryd.prog.funcNamed "moneyer/moneyerlaw4.LaneTells" = some 3 by kernel_rfl).symm.trans hf) |>.symm
      obtain rfl : fn = Tryd.f3 := (Option.some.inj (Tryd.func3.symm.trans hfn)).symm
      exact ⟨by kernel_rfl, fun j t ht => laneTells_noStand t (by
        have h2 : (Tryd.f3.params.toList)[j]? = some t := by simpa using ht
        exact List.mem_of_getElem? h2)⟩)
    (by kernel_rfl)
#print axioms LaneTells_holds
end Go.Proofs.YtpkclbemgmaahaaDoor
