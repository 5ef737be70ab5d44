/- AuditTwo: two who both are shown one root, at two places of as many, have no more, together, than it has; or two unlike texts have one digest. Condition: moneyer/sha.rounds reads as the program's text lays it (tied). -/
import Derived.Test.YtkpbhbafapdboaaDoorTwoF
namespace Go.Proofs.YtkpbhbafapdboaaDoor
open Go.RowKit Go.ChangeShapes Go.WideShapes Go.ChangeAt

set_option maxRecDepth 100000 in
/-- What the law's arguments are. -/
theorem auditTwo_walk {H : Type} {enc : TypeId × Value → H} (W : World) (args : Array Value) (ds : List (DataW H)) (ps : List MemPlace) (hg : TabAt W)
    (h : LawPre enc Tryd.prog Tryd.f4 W args ds ps) : Calls Tryd.prog 4 args W (LawPost W) := by
  obtain ⟨hA, ⟨base, hval⟩, hlt, hsz⟩ := h
  rw [Tryd.params4] at hA hval hsz
  obtain ⟨v0, l0, d0, m0, p0, r0, ea, rfl, rfl, h0, hA⟩ := trodAll_cons hA
  obtain ⟨v1, l1, d1, m1, p1, r1, rfl, rfl, rfl, h1, hA⟩ := trodAll_cons hA
  obtain ⟨v2, l2, d2, m2, p2, r2, rfl, rfl, rfl, h2, hA⟩ := trodAll_cons hA
  obtain ⟨v3, l3, d3, m3, p3, r3, rfl, rfl, rfl, h3, hA⟩ := trodAll_cons hA
  obtain ⟨v4, l4, d4, m4, p4, r4, rfl, rfl, rfl, h4, hA⟩ := trodAll_cons hA
  obtain ⟨v5, l5, d5, m5, p5, r5, rfl, rfl, rfl, h5, hA⟩ := trodAll_cons hA
  obtain ⟨v6, l6, d6, m6, p6, r6, rfl, rfl, rfl, h6, hA⟩ := trodAll_cons hA
  obtain ⟨rfl, rfl, rfl⟩ := trodAll_nil hA
  obtain rfl : args = #[v0, v1, v2, v3, v4, v5, v6] := by
    cases args
    simpa using ea
  obtain ⟨t, rfl, ht⟩ := open_tot (hval 0 _ v0 rfl rfl) h0
  obtain ⟨a1, len1, cap1, rfl⟩ := okWide_slice Tryd.underlying26 (hval 1 _ v1 rfl rfl)
  obtain ⟨fu1, hf1⟩ := h1
  have hc1 : len1 ≤ cap1 := by
    rcases Go.Deep.open_slice Tryd.underlying26 hf1 with ⟨e, -⟩ | ⟨a, len, cap, m, k, D, Pl, e, -, hl, -⟩
    · simp [Value.cells] at e
      omega
    · simp [Value.cells] at e
      omega
  obtain ⟨A1, n1, c1, ts1, e1, hs1, hd1, -⟩ := open_tots hf1
  simp [Value.cells] at e1
  obtain ⟨rfl, rfl, rfl⟩ := e1
  obtain ⟨x2, rfl, rfl, rfl, _⟩ := open_int Tryd.underlying3 (hval 2 _ v2 rfl rfl) h2
  obtain ⟨t3, rfl, ht3⟩ := open_tot (hval 3 _ v3 rfl rfl) h3
  obtain ⟨a4, len4, cap4, rfl⟩ := okWide_slice Tryd.underlying26 (hval 4 _ v4 rfl rfl)
  obtain ⟨fu4, hf4⟩ := h4
  have hc4 : len4 ≤ cap4 := by
    rcases Go.Deep.open_slice Tryd.underlying26 hf4 with ⟨e, -⟩ | ⟨a, len, cap, m, k, D, Pl, e, -, hl, -⟩
    · simp [Value.cells] at e
      omega
    · simp [Value.cells] at e
      omega
  obtain ⟨A4, n4, c4, ts4, e4, hs4, hd4, -⟩ := open_tots hf4
  simp [Value.cells] at e4
  obtain ⟨rfl, rfl, rfl⟩ := e4
  obtain ⟨x5, rfl, rfl, rfl, _⟩ := open_int Tryd.underlying3 (hval 5 _ v5 rfl rfl) h5
  obtain ⟨x6, rfl, rfl, rfl, _⟩ := open_int Tryd.underlying3 (hval 6 _ v6 rfl rfl) h6
  exact atwo_any t t3 ht ht3 x2 x5 x6 ts1 ts4 hd1 hd4 a1 a4 len1 len4 cap1 cap4 hc1 hc4 W hs1 hs4 (rounds_of_tab hg)

set_option maxRecDepth 100000 in
theorem auditTwo_lifted (os : Os) (started : os.Started) (H : Type) (enc : TypeId × Value → H) :
    ReturnsInHanded {} Tryd.checked os 4 .any (fun w args => (Rows.auditTwoSpec.pre enc Tryd.prog Tryd.f4 [] false w args ∧ laidMetH Tryd.prog tabList w) ∧ sizedMet enc Tryd.prog Tryd.f4 (OpenSpec.ofChange Rows.auditTwoSpec) false w args)
      (Rows.auditTwoSpec.post enc Tryd.prog Tryd.f4 false true false false) :=
  tab_lifted (n := 7) #[.agg #[.int .i64 0, .int .u8 0, .int .u8 0, .int .u8 0, .int .u8 0, .int .u8 0, .int .u8 0, .int .u8 0, .int .u8 0, .int .u8 0, .int .u8 0, .int .u8 0, .int .u8 0, .int .u8 0, .int .u8 0, .int .u8 0, .int .u8 0, .int .u8 0, .int .u8 0, .int .u8 0, .int .u8 0, .int .u8 0, .int .u8 0, .int .u8 0, .int .u8 0, .int .u8 0, .int .u8 0, .int .u8 0, .int .u8 0, .int .u8 0, .int .u8 0, .int .u8 0, .int .u8 0], .slice none 0 0, .int .i64 0, .agg #[.int .i64 0, .int .u8 0, .int .u8 0, .int .u8 0, .int .u8 0, .int .u8 0, .int .u8 0, .int .u8 0, .int .u8 0, .int .u8 0, .int .u8 0, .int .u8 0, .int .u8 0, .int .u8 0, .int .u8 0, .int .u8 0, .int .u8 0, .int .u8 0, .int .u8 0, .int .u8 0, .int .u8 0, .int .u8 0, .int .u8 0, .int .u8 0, .int .u8 0, .int .u8 0, .int .u8 0, .int .u8 0, .int .u8 0, .int .u8 0, .int .u8 0, .int .u8 0, .int .u8 0], .slice none 0 0, .int .i64 0, .int .i64 0] 8 started (by kernel_rfl) Tryd.func4 (by kernel_rfl) (by kernel_rfl) (by kernel_rfl) (by kernel_rfl) (by kernel_rfl)
    rfl (by kernel_rfl) (by kernel_rfl) (by kernel_rfl) (fun ds h => by match ds, h with | [a, b, c, d, e, f, g], _ => rfl) auditTwo_walk

theorem AuditTwo_row : Rows.AuditTwoSaid :=
  OpenClaim.holds_of_wide 4 Tryd.f4 rfl rfl rfl rfl rfl rfl rfl ⟨rfl, rfl, rfl, rfl, rfl⟩ rfl rfl rfl rfl rfl (by kernel_rfl) Tryd.func4 (by kernel_rfl)
    (of_decide_eq_true (by kernel_rfl)) (by unfold Func.isWrapper; rw [if_neg (of_decide_eq_false (by kernel_rfl))]; exact ⟨rfl, rfl⟩)
    (fun os started H enc _ => auditTwo_lifted os started H enc)

theorem auditTwo_noStand : ∀ t ∈ Tryd.f4.params.toList, Tryd.prog.wantsStandIn t = false :=
  List.all_eq_true.1 (show Tryd.f4.params.toList.all (fun t => !Tryd.prog.wantsStandIn t) = true by kernel_rfl) |> fun h t ht => by simpa using h t ht

/-- The statement: the card. -/
theorem AuditTwo_holds : Rows.AuditTwoCardSaid :=
  Claim7.holds_tied_plain_at .later [] [.data] true (true, "ec4b0030401589c372505b2fbcdc828684b67c5fe44ac5d0ac5d3d12423e6049") true
    AuditTwo_row (fun _ h => by cases h) (by kernel_rfl) (fun _ h => by cases h) auditTwo_row_tie rfl ⟨rfl, rfl⟩ (by kernel_rfl) rfl
    (fun f fn hf hfn => by
      obtain rfl : f = 4 := Option.some.inj ((show Tryd.prog.funcNamed "moneyer/moneyerlaw5.AuditTwo" = some 4 by kernel_rfl).symm.trans hf) |>.symm
      obtain rfl : fn = Tryd.f4 := (Option.some.inj (Tryd.func4.symm.trans hfn)).symm
      exact ⟨by kernel_rfl, fun j t ht => auditTwo_noStand t (by
        have h2 : (Tryd.f4.params.toList)[j]? = some t := by simpa using ht
        exact List.mem_of_getElem? h2)⟩)
    (by kernel_rfl)
#print axioms AuditTwo_holds

end Go.Proofs.YtkpbhbafapdboaaDoor
