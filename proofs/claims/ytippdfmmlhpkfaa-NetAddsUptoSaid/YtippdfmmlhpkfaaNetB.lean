/- NetAdds, of arguments of a bounded bulk: what each is to get by two lists of debts is what it is to get by the one and by the other one. -/
import Derived.Test.YtippdfmmlhpkfaaNetA
import Derived.Test.YtippdfmmlhpkfaaUpto
namespace Go.Proofs.Ytippdfmmlhpkfaa
open Go.RowKit Go.ChangeShapes Go.WideShapes Go.ChangeAt

/-- What the law's arguments are. -/
theorem netAdds_walk {H : Type} {enc : TypeId × Value → H} (W : World) (args : Array Value) (ds : List (DataW H)) (ps : List MemPlace) (hk : Rows.uptoSmall H ds = true)
    (h : LawPre enc Try.prog Try.f4 W args ds ps) : Calls Try.prog 4 args W (LawPost W) := by
  obtain ⟨hA, ⟨base, hval⟩, hlt, hsz⟩ := h
  rw [Try.params4] at hA hval hsz
  obtain ⟨v0, v1, d0, d1, p0, p1, rfl, rfl, rfl, h0, h1⟩ := trodAll_two hA
  obtain ⟨a0, len0, cap0, rfl⟩ := okWide_slice Try.underlying22 (hval 0 _ v0 rfl rfl)
  obtain ⟨a1, len1, cap1, rfl⟩ := okWide_slice Try.underlying22 (hval 1 _ v1 rfl rfl)
  obtain ⟨f0, h0⟩ := h0
  obtain ⟨f1, h1⟩ := h1
  obtain ⟨A0, n0, c0, xs, e0, hD, hI, hx⟩ := open_debts h0
  obtain ⟨A1, n1, c1, ys, e1, hD1, hI1, hx1⟩ := open_debts h1
  simp [Value.cells] at e0 e1
  obtain ⟨rfl, rfl, rfl⟩ := e0
  obtain ⟨rfl, rfl, rfl⟩ := e1
  exact adds_any xs ys a0 a1 len0 len1 cap0 cap1 W hD hD1 hI hI1 (bulk_slice hk (by simp) hx) (bulk_slice hk (by simp) hx1)

set_option maxRecDepth 100000 in
theorem netAdds_lifted (os : Os) (started : os.Started) (H : Type) (enc : TypeId × Value → H) (F : Stop.Interp) :
    ReturnsInHanded {} Try.checked os 4 .any ((Rows.OpenSpec.upto Rows.netAddsSpec).pre6 enc Try.prog Try.f4 Rows.netAddsUptoRow.domain false) (((Rows.OpenSpec.upto Rows.netAddsSpec).at F).post enc Try.prog Try.f4 false true false false) :=
  law_upto (C := Try.checked) (B := 4) (n := 2) Try.own started (by kernel_rfl) Try.func4
      (OpenSpec.witness (enc := enc) (C := Try.checked) (s := Rows.OpenSpec.upto Rows.netAddsSpec) (k := Rows.uptoSmall) rfl false ⟨#[], #[.slice none 0 0, .slice none 0 0], []⟩ 8 (by kernel_rfl) (by kernel_rfl) (by kernel_rfl)
        (x := ([.nil, .nil], [], [])) (by kernel_rfl) rfl (by kernel_rfl))
      rfl Try.underlying4 (by kernel_rfl) Try.laidOut (by kernel_rfl) (by kernel_rfl) (fun ds h => by match ds, h with | [a, b], _ => rfl) netAdds_walk

set_option maxRecDepth 100000 in
/-- The statement. -/
theorem NetAdds_holds : Rows.NetAddsUptoSaid :=
  OpenClaim.holds_of_cond 4 Try.f4 rfl rfl rfl rfl rfl rfl rfl ⟨rfl, rfl, rfl, rfl, rfl⟩ rfl rfl rfl rfl rfl (by kernel_rfl) Try.func4 (by kernel_rfl)
    (of_decide_eq_true (by kernel_rfl)) (by unfold Func.isWrapper; first | (rw [if_pos (by decide +kernel)]; kernel_rfl) | (rw [if_neg (by decide +kernel)]; exact ⟨rfl, rfl⟩))
    (fun os started H enc _ F => netAdds_lifted os started H enc F)
#print axioms NetAdds_holds
end Go.Proofs.Ytippdfmmlhpkfaa
