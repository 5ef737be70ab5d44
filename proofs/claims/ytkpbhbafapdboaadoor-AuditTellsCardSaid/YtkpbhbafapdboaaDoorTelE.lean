/- AuditTells: what the audit tells of any name, any amount, any totals, any place, any path is what the document says. Conditions: moneyer/sha.rounds and errors.errorType read as the program's text lays them (tied). -/
import Derived.Test.YtkpbhbafapdboaaDoorTelD
import Derived.Test.YtkpbhbafapdboaaDoorBoth
namespace Go.Proofs.YtkpbhbafapdboaaDoor
open Go.RowKit Go.ChangeShapes Go.WideShapes Go.ChangeAt

set_option maxRecDepth 100000 in
theorem open_dig {H : Type} {enc : TypeId × Value → H} {W : World} {r : Reach} {b0 : Nat} {spare : Nat → Bool} {held : Bool} {v : Value} {d : DataW H} {p : List MemPlace}
    (hv : Value.okWide Tryd.prog W r b0 23 v) (h : DataW.Trod enc Tryd.prog W 0 spare held 23 v d p) : ∃ nm, v = digV nm ∧ Dig nm := by
  have hC : Tryd.prog.cellsOf 23 = 32 := by kernel_rfl
  have hv' : ∃ cs, v = .agg cs ∧ cs.size = Tryd.prog.cellsOf 23 := by
    simp only [Value.okWide, Tryd.underlying23] at hv
    obtain ⟨cs, h1, h2, _⟩ := hv
    exact ⟨cs, h1, h2⟩
  obtain ⟨⟨l⟩, rfl, hsz⟩ := hv'
  rw [hC] at hsz
  obtain ⟨fuel, hf⟩ := h
  obtain ⟨nm, e, hd⟩ := trod_dig fuel l _ (by simpa using hsz) hf
  refine ⟨nm, ?_, hd⟩
  rw [e]
  rfl
set_option maxRecDepth 100000 in
/-- What the law's arguments are. -/
theorem auditTells_walk {H : Type} {enc : TypeId × Value → H} (W : World) (args : Array Value) (ds : List (DataW H)) (ps : List MemPlace) (hg : TabAt W) (hev : ErrVar W)
    (h : LawPre enc Tryd.prog Tryd.f6 W args ds ps) : Calls Tryd.prog 6 args W (LawPost W) := by
  obtain ⟨hA, ⟨base, hval⟩, hlt, hsz⟩ := h
  rw [Tryd.params6] at hA hval hsz
  obtain ⟨v0, l0, d0, m0, p0, r0, ea, rfl, rfl, h0, hA⟩ := trodAll_cons hA
  obtain ⟨v1, l1, d1, m1, p1, r1, rfl, rfl, rfl, h1, hA⟩ := trodAll_cons hA
  obtain ⟨v2, l2, d2, m2, p2, r2, rfl, rfl, rfl, h2, hA⟩ := trodAll_cons hA
  obtain ⟨v3, l3, d3, m3, p3, r3, rfl, rfl, rfl, h3, hA⟩ := trodAll_cons hA
  obtain ⟨v4, l4, d4, m4, p4, r4, rfl, rfl, rfl, h4, hA⟩ := trodAll_cons hA
  obtain ⟨v5, l5, d5, m5, p5, r5, rfl, rfl, rfl, h5, hA⟩ := trodAll_cons hA
  obtain ⟨v6, l6, d6, m6, p6, r6, rfl, rfl, rfl, h6, hA⟩ := trodAll_cons hA
  obtain ⟨rfl, rfl, rfl⟩ := trodAll_nil hA
  obtain rfl : args = #[v0, v1, v2, v3, v4, v5, v6] := by
    cases args
    simpa using ea
  obtain ⟨nm, rfl, hnm⟩ := open_dig (hval 0 _ v0 rfl rfl) h0
  obtain ⟨x1, rfl, rfl, rfl, _⟩ := open_int Tryd.underlying3 (hval 1 _ v1 rfl rfl) h1
  obtain ⟨a2, len2, cap2, rfl⟩ := okWide_slice Tryd.underlying26 (hval 2 _ v2 rfl rfl)
  obtain ⟨fu2, hf2⟩ := h2
  have hc2 : len2 ≤ cap2 := by
    rcases Go.Deep.open_slice Tryd.underlying26 hf2 with ⟨e, -⟩ | ⟨a, len, cap, m, k, D, Pl, e, -, hl, -⟩
    · simp [Value.cells] at e
      omega
    · simp [Value.cells] at e
      omega
  obtain ⟨A2, n2, c2, ts2, e2, hs2, hd2, -⟩ := open_tots hf2
  simp [Value.cells] at e2
  obtain ⟨rfl, rfl, rfl⟩ := e2
  obtain ⟨x3, rfl, rfl, rfl, _⟩ := open_int Tryd.underlying3 (hval 3 _ v3 rfl rfl) h3
  obtain ⟨t4, rfl, ht4⟩ := open_tot (hval 4 _ v4 rfl rfl) h4
  obtain ⟨x5, rfl, rfl, rfl, _⟩ := open_int Tryd.underlying3 (hval 5 _ v5 rfl rfl) h5
  obtain ⟨a6, len6, cap6, rfl⟩ := okWide_slice Tryd.underlying26 (hval 6 _ v6 rfl rfl)
  obtain ⟨fu6, hf6⟩ := h6
  have hc6 : len6 ≤ cap6 := by
    rcases Go.Deep.open_slice Tryd.underlying26 hf6 with ⟨e, -⟩ | ⟨a, len, cap, m, k, D, Pl, e, -, hl, -⟩
    · simp [Value.cells] at e
      omega
    · simp [Value.cells] at e
      omega
  obtain ⟨A6, n6, c6, ts6, e6, hs6, hd6, -⟩ := open_tots hf6
  simp [Value.cells] at e6
  obtain ⟨rfl, rfl, rfl⟩ := e6
  exact tells_any nm hnm x1 ts2 hd2 x3 t4 ht4 x5 ts6 hd6 a2 a6 len2 cap2 len6 cap6 hc2 hc6 W hs2 hs6 (rounds_of_tab hg) hev

set_option maxRecDepth 100000 in
theorem auditTells_lifted (os : Os) (started : os.Started) (H : Type) (enc : TypeId × Value → H) :
    ReturnsInHanded {} Tryd.checked os 6 .any (fun w args => (Rows.auditTellsSpec.pre enc Tryd.prog Tryd.f6 [] false w args ∧ laidMetH Tryd.prog bothList w) ∧ sizedMet enc Tryd.prog Tryd.f6 (OpenSpec.ofChange Rows.auditTellsSpec) false w args)
      (Rows.auditTellsSpec.post enc Tryd.prog Tryd.f6 false true false false) :=
  both_lifted (n := 7) #[.agg #[.int .u8 0, .int .u8 0, .int .u8 0, .int .u8 0, .int .u8 0, .int .u8 0, .int .u8 0, .int .u8 0, .int .u8 0, .int .u8 0, .int .u8 0, .int .u8 0, .int .u8 0, .int .u8 0, .int .u8 0, .int .u8 0, .int .u8 0, .int .u8 0, .int .u8 0, .int .u8 0, .int .u8 0, .int .u8 0, .int .u8 0, .int .u8 0, .int .u8 0, .int .u8 0, .int .u8 0, .int .u8 0, .int .u8 0, .int .u8 0, .int .u8 0, .int .u8 0], .int .i64 0, .slice none 0 0, .int .i64 0, .agg #[.int .i64 0, .int .u8 0, .int .u8 0, .int .u8 0, .int .u8 0, .int .u8 0, .int .u8 0, .int .u8 0, .int .u8 0, .int .u8 0, .int .u8 0, .int .u8 0, .int .u8 0, .int .u8 0, .int .u8 0, .int .u8 0, .int .u8 0, .int .u8 0, .int .u8 0, .int .u8 0, .int .u8 0, .int .u8 0, .int .u8 0, .int .u8 0, .int .u8 0, .int .u8 0, .int .u8 0, .int .u8 0, .int .u8 0, .int .u8 0, .int .u8 0, .int .u8 0, .int .u8 0], .int .i64 0, .slice none 0 0] 8 started (by kernel_rfl) Tryd.func6 (by kernel_rfl) (by kernel_rfl) (by kernel_rfl) (by kernel_rfl) (by kernel_rfl)
    rfl (by kernel_rfl) (by kernel_rfl) (by kernel_rfl) (fun ds h => by match ds, h with | [a, b, c, d, e, f, g], _ => rfl) auditTells_walk

theorem AuditTells_row : Rows.AuditTellsSaid :=
  OpenClaim.holds_of_wide 6 Tryd.f6 rfl rfl rfl rfl rfl rfl rfl ⟨rfl, rfl, rfl, rfl, rfl⟩ rfl rfl rfl rfl rfl (by kernel_rfl) Tryd.func6 (by kernel_rfl)
    (of_decide_eq_true (by kernel_rfl)) (by unfold Func.isWrapper; rw [if_neg (of_decide_eq_false (by kernel_rfl))]; exact ⟨rfl, rfl⟩)
    (fun os started H enc _ => auditTells_lifted os started H enc)

theorem auditTells_noStand : ∀ t ∈ Tryd.f6.params.toList, Tryd.prog.wantsStandIn t = false :=
  List.all_eq_true.1 (show Tryd.f6.params.toList.all (fun t => !Tryd.prog.wantsStandIn t) = true by kernel_rfl) |> fun h t ht => by simpa using h t ht

/-- The statement: the card. -/
theorem AuditTells_holds : Rows.AuditTellsCardSaid :=
  Claim7.holds_tied_plain_at .later [] [.data, .handle] true (true, "ec4b0030401589c372505b2fbcdc828684b67c5fe44ac5d0ac5d3d12423e6049") true
    AuditTells_row (fun _ h => by cases h) (by kernel_rfl) (fun _ h => by cases h) auditTells_row_tie rfl ⟨rfl, rfl⟩ (by kernel_rfl) rfl
    (fun f fn hf hfn => by
      obtain rfl : f = 6 := Option.some.inj ((show Tryd.prog.funcNamed "moneyer/moneyerlaw5.AuditTells" = some 6 by kernel_rfl).symm.trans hf) |>.symm
      obtain rfl : fn = Tryd.f6 := (Option.some.inj (Tryd.func6.symm.trans hfn)).symm
      exact ⟨by kernel_rfl, fun j t ht => auditTells_noStand t (by
        have h2 : (Tryd.f6.params.toList)[j]? = some t := by simpa using ht
        exact List.mem_of_getElem? h2)⟩)
    (by kernel_rfl)
#print axioms AuditTells_holds

end Go.Proofs.YtkpbhbafapdboaaDoor
