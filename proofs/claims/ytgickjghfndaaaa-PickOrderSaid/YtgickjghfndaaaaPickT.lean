/- PickOrder: from the last to the first what Exact, and what Great, tells is as much, and as many; one coin more never makes Exact more. No condition. -/
import Derived.Test.YtgickjghfndaaaaPickS
import Derived.Test.YtgickjghfndaaaaOpen
namespace Go.Proofs.Ytgickjghfndaaaa
open Go.RowKit Go.ChangeShapes Go.WideShapes Go.ChangeAt

/-- What the law's arguments are. -/
theorem pickOrder_walk {H : Type} {enc : TypeId × Value → H} (W : World) (args : Array Value) (ds : List (DataW H)) (ps : List MemPlace)
    (h : LawPre enc Try.prog Try.f4 W args ds ps) : Calls Try.prog 4 args W (LawPost W) := by
  obtain ⟨hA, ⟨base, hval⟩, hlt, hsz⟩ := h
  rw [Try.params4] at hA hval hsz
  obtain ⟨v0, l0, d0, m0, p0, r0, ea, rfl, rfl, h0, hA⟩ := trodAll_cons hA
  obtain ⟨v1, l1, d1, m1, p1, r1, rfl, rfl, rfl, h1, hA⟩ := trodAll_cons hA
  obtain ⟨v2, l2, d2, m2, p2, r2, rfl, rfl, rfl, h2, hA⟩ := trodAll_cons hA
  obtain ⟨rfl, rfl, rfl⟩ := trodAll_nil hA
  obtain rfl : args = #[v0, v1, v2] := by
    cases args
    simpa using ea
  obtain ⟨A0, n0, c0, z0, rfl, hc0, _, hs0, wz0, hx0⟩ := open_intSlice (hval 0 _ v0 rfl rfl) h0 (fun x hx => hlt x (by simp [hx]))
  obtain ⟨x1, rfl, rfl, rfl, _⟩ := open_int Try.underlying3 (hval 1 _ v1 rfl rfl) h1
  obtain ⟨x2, rfl, rfl, rfl, _⟩ := open_int Try.underlying3 (hval 2 _ v2 rfl rfl) h2
  exact order_any z0 A0 n0 c0 x1 x2 W hs0 (reach_ints hsz (j := 0) rfl rfl Try.underlying22 (by kernel_rfl) hx0)


set_option maxRecDepth 100000 in
theorem pickOrder_lifted (os : Os) (started : os.Started) (H : Type) (enc : TypeId × Value → H) :
    ReturnsInHanded {} Try.checked os 4 .any (Rows.pickOrderSpec.pre6 enc Try.prog Try.f4 Rows.pickOrderRow.domain false) (Rows.pickOrderSpec.post enc Try.prog Try.f4 false true false false) :=
  law_lifted (C := Try.checked) (B := 4) (n := 3) Try.own started (by kernel_rfl) Try.func4
      (ChangeSpec.witness6 (enc := enc) (C := Try.checked) false ⟨#[], #[.slice none 0 0, .int .i64 0, .int .i64 0], []⟩ 8 (by kernel_rfl) (by kernel_rfl) (by kernel_rfl) (by kernel_rfl))
      rfl Try.underlying4 (by kernel_rfl) Try.laidOut (by kernel_rfl) (by kernel_rfl) (fun ds h => by match ds, h with | [a, b, c], _ => rfl) pickOrder_walk

/-- The statement. -/
theorem PickOrder_holds : Rows.PickOrderSaid :=
  OpenClaim.holds_of_wide 4 Try.f4 rfl rfl rfl rfl rfl rfl rfl ⟨rfl, rfl, rfl, rfl, rfl⟩ rfl rfl rfl rfl rfl (by kernel_rfl) Try.func4 (by kernel_rfl)
    (of_decide_eq_true (by kernel_rfl)) (by unfold Func.isWrapper; first | (rw [if_pos (by decide +kernel)]; kernel_rfl) | (rw [if_neg (by decide +kernel)]; exact ⟨rfl, rfl⟩))
    (fun os started H enc _ => pickOrder_lifted os started H enc)
#print axioms PickOrder_holds

end Go.Proofs.Ytgickjghfndaaaa
