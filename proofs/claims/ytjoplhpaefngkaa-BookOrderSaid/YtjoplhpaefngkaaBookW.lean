/- BookOrder: two entries that are both posted in either order leave the same accounts. No condition. -/
import Derived.Test.YtjoplhpaefngkaaBookV
namespace Go.Proofs.Ytjoplhpaefngkaa
open Go.RowKit Go.ChangeShapes Go.WideShapes Go.ChangeAt

/-- What the law's arguments are. -/
theorem bookOrder_walk {H : Type} {enc : TypeId × Value → H} (W : World) (args : Array Value) (ds : List (DataW H)) (ps : List MemPlace)
    (h : LawPre enc Try.prog Try.f5 W args ds ps) : Calls Try.prog 5 args W (LawPost W) := by
  obtain ⟨hA, ⟨base, hval⟩, hlt, hsz⟩ := h
  rw [Try.params5] at hA hval hsz
  obtain ⟨v0, v1, v2, d0, d1, d2, p0, p1, p2, rfl, rfl, rfl, h0, h1, h2⟩ := trodAll_three hA
  obtain ⟨a0, len0, cap0, rfl⟩ := okWide_slice Try.underlying22 (hval 0 _ v0 rfl rfl)
  obtain ⟨a1, len1, cap1, rfl⟩ := okWide_slice Try.underlying23 (hval 1 _ v1 rfl rfl)
  obtain ⟨a2, len2, cap2, rfl⟩ := okWide_slice Try.underlying23 (hval 2 _ v2 rfl rfl)
  obtain ⟨f0, h0⟩ := h0
  obtain ⟨f1, h1⟩ := h1
  obtain ⟨f2, h2⟩ := h2
  obtain ⟨A0, n0, c0, e0, hE⟩ := open_lists h0
  obtain ⟨A1, n1, c1, xs, e1, hX⟩ := open_lines h1
  obtain ⟨A2, n2, c2, ys, e2, hY⟩ := open_lines h2
  simp [Value.cells] at e0 e1 e2
  obtain ⟨rfl, rfl, rfl⟩ := e0
  obtain ⟨rfl, rfl, rfl⟩ := e1
  obtain ⟨rfl, rfl, rfl⟩ := e2
  exact order_any a0 a1 a2 len0 len1 len2 cap0 cap1 cap2 xs ys W hE hX hY

set_option maxRecDepth 100000 in
theorem bookOrder_lifted (os : Os) (started : os.Started) (H : Type) (enc : TypeId × Value → H) :
    ReturnsInHanded {} Try.checked os 5 .any (Rows.bookOrderSpec.pre6 enc Try.prog Try.f5 Rows.bookOrderRow.domain false) (Rows.bookOrderSpec.post enc Try.prog Try.f5 false true false false) :=
  law_lifted (C := Try.checked) (B := 4) (n := 3) Try.own started (by kernel_rfl) Try.func5
      (ChangeSpec.witness6 (enc := enc) (C := Try.checked) false ⟨#[], #[.slice none 0 0, .slice none 0 0, .slice none 0 0], []⟩ 8 (by kernel_rfl) (by kernel_rfl) (by kernel_rfl) (by kernel_rfl))
      rfl Try.underlying4 (by kernel_rfl) Try.laidOut (by kernel_rfl) (by kernel_rfl) (fun ds h => by match ds, h with | [a, b, c], _ => rfl) bookOrder_walk

/-- The statement. -/
theorem BookOrder_holds : Rows.BookOrderSaid :=
  OpenClaim.holds_of_wide 5 Try.f5 rfl rfl rfl rfl rfl rfl rfl ⟨rfl, rfl, rfl, rfl, rfl⟩ rfl rfl rfl rfl rfl (by kernel_rfl) Try.func5 (by kernel_rfl)
    (of_decide_eq_true (by kernel_rfl)) (by unfold Func.isWrapper; first | (rw [if_pos (by decide +kernel)]; kernel_rfl) | (rw [if_neg (by decide +kernel)]; exact ⟨rfl, rfl⟩))
    (fun os started H enc _ => bookOrder_lifted os started H enc)
#print axioms BookOrder_holds
end Go.Proofs.Ytjoplhpaefngkaa
