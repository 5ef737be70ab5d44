/- PickLeast: of all choices that are enough none is less than what Exact tells, nor as much with fewer; so neither First nor Great is. No condition. -/
import Derived.Test.YtgickjghfndaaaaPickQ
import Derived.Test.YtgickjghfndaaaaOpen
namespace Go.Proofs.Ytgickjghfndaaaa
open Go.RowKit Go.ChangeShapes Go.WideShapes Go.ChangeAt

section
variable {H : Type} {en : TypeId × Value → H} {W : World} {spare : Nat → Bool} {held : Bool}
theorem trod_b (n : Nat) (cs : List Value) (y : DataW H × List MemPlace) (hl : cs.length = 1)
    (hf : DataW.trod en Try.prog W 0 spare held n 4 cs = some y) : ∃ d : Bool, cs = encB d ∧ True := by
  match cs, hl with
  | [c0], _ =>
    obtain ⟨a0, e0, _⟩ := DataW.trod_bool Try.underlying4 hf
    simp at e0
    subst e0
    exact ⟨a0, rfl, trivial⟩
end
/-- What the law's arguments are. -/
theorem pickLeast_walk {H : Type} {enc : TypeId × Value → H} (W : World) (args : Array Value) (ds : List (DataW H)) (ps : List MemPlace)
    (h : LawPre enc Try.prog Try.f5 W args ds ps) : Calls Try.prog 5 args W (LawPost W) := by
  obtain ⟨hA, ⟨base, hval⟩, hlt, hsz⟩ := h
  rw [Try.params5] at hA hval hsz
  obtain ⟨v0, l0, d0, m0, p0, r0, ea, rfl, rfl, h0, hA⟩ := trodAll_cons hA
  obtain ⟨v1, l1, d1, m1, p1, r1, rfl, rfl, rfl, h1, hA⟩ := trodAll_cons hA
  obtain ⟨v2, l2, d2, m2, p2, r2, rfl, rfl, rfl, h2, hA⟩ := trodAll_cons hA
  obtain ⟨rfl, rfl, rfl⟩ := trodAll_nil hA
  obtain rfl : args = #[v0, v1, v2] := by
    cases args
    simpa using ea
  obtain ⟨A0, n0, c0, z0, rfl, hc0, _, hs0, wz0, hx0⟩ := open_intSlice (hval 0 _ v0 rfl rfl) h0 (fun x hx => hlt x (by simp [hx]))
  obtain ⟨x1, rfl, rfl, rfl, _⟩ := open_int Try.underlying3 (hval 1 _ v1 rfl rfl) h1
  obtain ⟨a2, len2, cap2, rfl⟩ := okWide_slice Try.underlying23 (hval 2 _ v2 rfl rfl)
  obtain ⟨f2, h2⟩ := h2
  obtain ⟨I, mm, c3, bs, e2, hB, -, -⟩ := open_recs Try.underlying23 (by kernel_rfl) (by decide) encB_len false trod_b h2
  simp [Value.cells] at e2
  obtain ⟨rfl, rfl, rfl⟩ := e2
  exact least_any z0 A0 n0 c0 x1 bs a2 len2 cap2 W hs0 hB


set_option maxRecDepth 100000 in
theorem pickLeast_lifted (os : Os) (started : os.Started) (H : Type) (enc : TypeId × Value → H) :
    ReturnsInHanded {} Try.checked os 5 .any (Rows.pickLeastSpec.pre6 enc Try.prog Try.f5 Rows.pickLeastRow.domain false) (Rows.pickLeastSpec.post enc Try.prog Try.f5 false true false false) :=
  law_lifted (C := Try.checked) (B := 4) (n := 3) Try.own started (by kernel_rfl) Try.func5
      (ChangeSpec.witness6 (enc := enc) (C := Try.checked) false ⟨#[], #[.slice none 0 0, .int .i64 0, .slice none 0 0], []⟩ 8 (by kernel_rfl) (by kernel_rfl) (by kernel_rfl) (by kernel_rfl))
      rfl Try.underlying4 (by kernel_rfl) Try.laidOut (by kernel_rfl) (by kernel_rfl) (fun ds h => by match ds, h with | [a, b, c], _ => rfl) pickLeast_walk

/-- The statement. -/
theorem PickLeast_holds : Rows.PickLeastSaid :=
  OpenClaim.holds_of_wide 5 Try.f5 rfl rfl rfl rfl rfl rfl rfl ⟨rfl, rfl, rfl, rfl, rfl⟩ rfl rfl rfl rfl rfl (by kernel_rfl) Try.func5 (by kernel_rfl)
    (of_decide_eq_true (by kernel_rfl)) (by unfold Func.isWrapper; first | (rw [if_pos (by decide +kernel)]; kernel_rfl) | (rw [if_neg (by decide +kernel)]; exact ⟨rfl, rfl⟩))
    (fun os started H enc _ => pickLeast_lifted os started H enc)
#print axioms PickLeast_holds

end Go.Proofs.Ytgickjghfndaaaa
