/- AuditProves: each one's total, folded with its path, is the root of all; whose sum is that of all. Condition: moneyer/sha.rounds reads as the program's text lays it (tied). -/
import Derived.Test.YtkpbhbafapdboaaDoorAudU
namespace Go.Proofs.YtkpbhbafapdboaaDoor
open Go.RowKit Go.ChangeShapes Go.WideShapes Go.ChangeAt

set_option maxRecDepth 100000 in
/-- What the law's arguments are. -/
theorem auditProves_walk {H : Type} {enc : TypeId × Value → H} (W : World) (args : Array Value) (ds : List (DataW H)) (ps : List MemPlace) (hg : TabAt W)
    (h : LawPre enc Tryd.prog Tryd.f5 W args ds ps) : Calls Tryd.prog 5 args W (LawPost W) := by
  obtain ⟨hA, ⟨base, hval⟩, hlt, hsz⟩ := h
  rw [Tryd.params5] at hA hval hsz
  obtain ⟨v0, v1, d0, d1, p0, p1, rfl, rfl, rfl, h0, h1⟩ := trodAll_two hA
  obtain ⟨a0, len0, cap0, rfl⟩ := okWide_slice Tryd.underlying26 (hval 0 _ v0 rfl rfl)
  obtain ⟨x1, rfl, rfl, rfl, _⟩ := open_int Tryd.underlying3 (hval 1 _ v1 rfl rfl) h1
  obtain ⟨fu, hf⟩ := h0
  have hc : len0 ≤ cap0 := by
    rcases Go.Deep.open_slice Tryd.underlying26 hf with ⟨e, -⟩ | ⟨a, len, cap, m, k, D, Pl, e, -, hl, -⟩
    · simp [Value.cells] at e
      omega
    · simp [Value.cells] at e
      omega
  obtain ⟨A, n, c, ts, e, hs, hd, -⟩ := open_tots hf
  simp [Value.cells] at e
  obtain ⟨rfl, rfl, rfl⟩ := e
  by_cases hq : (rootR ts).2 = 0
  · exact proves_ok ts hd x1 a0 len0 cap0 W hc hs (rounds_of_tab hg) hq
  · exact proves_bad ts hd x1 a0 len0 cap0 W hc hs (rounds_of_tab hg) hq

set_option maxRecDepth 100000 in
theorem auditProves_lifted (os : Os) (started : os.Started) (H : Type) (enc : TypeId × Value → H) :
    ReturnsInHanded {} Tryd.checked os 5 .any (fun w args => (Rows.auditProvesSpec.pre enc Tryd.prog Tryd.f5 [] false w args ∧ laidMetH Tryd.prog tabList w) ∧ sizedMet enc Tryd.prog Tryd.f5 (OpenSpec.ofChange Rows.auditProvesSpec) false w args)
      (Rows.auditProvesSpec.post enc Tryd.prog Tryd.f5 false true false false) :=
  tab_lifted (n := 2) #[.slice none 0 0, .int .i64 0] 8 started (by kernel_rfl) Tryd.func5 (by kernel_rfl) (by kernel_rfl) (by kernel_rfl) (by kernel_rfl) (by kernel_rfl)
    rfl (by kernel_rfl) (by kernel_rfl) (by kernel_rfl) (fun ds h => by match ds, h with | [a, b], _ => rfl) auditProves_walk

theorem AuditProves_row : Rows.AuditProvesSaid :=
  OpenClaim.holds_of_wide 5 Tryd.f5 rfl rfl rfl rfl rfl rfl rfl ⟨rfl, rfl, rfl, rfl, rfl⟩ rfl rfl rfl rfl rfl (by kernel_rfl) Tryd.func5 (by kernel_rfl)
    (of_decide_eq_true (by kernel_rfl)) (by unfold Func.isWrapper; rw [if_neg (of_decide_eq_false (by kernel_rfl))]; exact ⟨rfl, rfl⟩)
    (fun os started H enc _ => auditProves_lifted os started H enc)

theorem auditProves_noStand : ∀ t ∈ Tryd.f5.params.toList, Tryd.prog.wantsStandIn t = false :=
  List.all_eq_true.1 (show Tryd.f5.params.toList.all (fun t => !Tryd.prog.wantsStandIn t) = true by kernel_rfl) |> fun h t ht => by simpa using h t ht

/-- The statement: the card. -/
theorem AuditProves_holds : Rows.AuditProvesCardSaid :=
  Claim7.holds_tied_plain_at .later [] [.data] true (true, "ec4b0030401589c372505b2fbcdc828684b67c5fe44ac5d0ac5d3d12423e6049") true
    AuditProves_row (fun _ h => by cases h) (by kernel_rfl) (fun _ h => by cases h) auditProves_row_tie rfl ⟨rfl, rfl⟩ (by kernel_rfl) rfl
    (fun f fn hf hfn => by
      obtain rfl : f = 5 := Option.some.inj ((show Tryd.prog.funcNamed "moneyer/moneyerlaw5.AuditProves" = some 5 by kernel_rfl).symm.trans hf) |>.symm
      obtain rfl : fn = Tryd.f5 := (Option.some.inj (Tryd.func5.symm.trans hfn)).symm
      exact ⟨by kernel_rfl, fun j t ht => auditProves_noStand t (by
        have h2 : (Tryd.f5.params.toList)[j]? = some t := by simpa using ht
        exact List.mem_of_getElem? h2)⟩)
    (by kernel_rfl)
#print axioms AuditProves_holds

end Go.Proofs.YtkpbhbafapdboaaDoor
