/- The frame of every law of a door seat: as Frame's, and errors.errorType reads as the program's text lays it. -/
import Derived.Test.YtgickjghfndaaaaDoorTold
import Derived.ChangeVars
import Derived.JoinedOf
import Derived.LaidLaws
import Derived.LaidHandle
import Derived.Stop.Joined
import Derived.Test.YtgickjghfndaaaaDoorTie
import Derived.Test.YtgickjghfndaaaaDoorCards
import Derived.SevenTiedAt
namespace Go.Proofs.YtgickjghfndaaaaDoor
open Go.RowKit Go.ChangeShapes Go.WideShapes Go.ChangeAt

theorem Tryd.et : Tryd.prog.globalNamed "errors.errorType" = some 0 := by kernel_rfl
theorem Tryd.rt : (Tryd.prog.cutTypes.find? (·.1 == "internal/reflectlite.rtype")).map (·.2) = some 83 := by kernel_rfl
theorem Tryd.oneRow : ((List.range 147).filter fun t => Tryd.prog.rowNamed t [101, 114, 114, 111, 114]) = [28] := by kernel_rfl
theorem Tryd.size : Tryd.prog.types.size = 147 := by kernel_rfl

/-- The list that every row of this seat bears. -/
def laidList : List (String × DataW Unit) := [("errors.errorType", Rows.laid_errors_errorType)]

theorem handle_of_laid {W : World} (h : laidMetH Tryd.prog laidList W) : ErrVar W := by
  have h' : laidMet Tryd.prog [] W ∧ handlesMet Tryd.prog laidList W := h
  obtain ⟨name, u, ty, e1, e2, e3, e4, e5⟩ := h'.2 _ (List.mem_singleton.2 rfl)
  have en : name = [101, 114, 114, 111, 114] := (Option.some.inj e1).symm
  subst en
  obtain rfl := Option.some.inj (Tryd.rt.symm.trans e2)
  have hm : ty ∈ (List.range 147).filter fun t => Tryd.prog.rowNamed t [101, 114, 114, 111, 114] := List.mem_filter.2 ⟨List.mem_range.2 (by rw [← Tryd.size]; exact e3), e4⟩
  rw [Tryd.oneRow] at hm
  obtain rfl := List.mem_singleton.1 hm
  have hh : typeHandle Tryd.prog 28 = .pointer (some ⟨1, 28, none⟩) := by kernel_rfl
  rw [hh] at e5
  unfold ErrVar
  simpa using World.var?_cell Tryd.et e5 0

noncomputable def laidWorld (os : Os) : World :=
  let w0 := World.holding Tryd.prog os ⟨#[], #[], []⟩
  { w0 with heap := w0.heap.modify 0 fun
      | .cells _ t frozen => .cells #[.iface 83 (.agg #[.pointer (some ⟨1, 28, none⟩)])] t frozen
      | o => o }
theorem laidWorld_met (os : Os) (args : Array Value) : laidMetH Tryd.prog laidList ((laidWorld os).forCall (fun _ _ => 0) ⟨#[], args, []⟩).memory :=
  laidMetH_of_parts (laidMet_nil _ _) (by kernel_rfl)

section
variable {H : Type} {enc : TypeId × Value → H}
set_option maxRecDepth 100000 in
theorem door_lifted {os : Os} {f : FuncId} {fn : Func} {s : ChangeSpec} {n : Nat} (args0 : Array Value) (fuel : Nat)
    (started : os.Started) (noInit : Tryd.checked.prog.inits.idxOf? f = none) (hfn : Tryd.checked.prog.funcs[f]? = some fn)
    (w1 : ((laidWorld os).forCall (fun _ _ => 0) ⟨#[], args0, []⟩).variablesB Tryd.checked.prog = true)
    (w2 : ((((laidWorld os).forCall (fun _ _ => 0) ⟨#[], args0, []⟩).heap.toList.drop Tryd.checked.prog.globals.size).take ((begin Tryd.checked.prog (fun _ _ => 0) default).world.heap.size - Tryd.checked.prog.globals.size) =
      (begin Tryd.checked.prog (fun _ _ => 0) default).world.heap.toList.drop Tryd.checked.prog.globals.size))
    (w3 : Input.okWideB Tryd.checked.prog ((laidWorld os).forCall (fun _ _ => 0) ⟨#[], args0, []⟩) f ⟨#[], args0, []⟩ = true)
    (w4 : s.preB enc Tryd.checked.prog fn [] false ((laidWorld os).forCall (fun _ _ => 0) ⟨#[], args0, []⟩).memory args0 fuel = true)
    (w5 : s.sizedB enc Tryd.checked.prog fn false ((laidWorld os).forCall (fun _ _ => 0) ⟨#[], args0, []⟩).memory args0 fuel = true)
    (hv : s.vars = []) (hr : fn.resultTypes = #[4])
    (hrec : fn.params.toList.all (fun t => Tryd.prog.readableRec t && decide (t < Tryd.prog.types.size)) = true) (hn : fn.params.toList.length = n)
    (hs : ∀ ds : List (DataW H), ds.length = n → s.fn H ds = { results := [.lit (.bool true)], args := ds })
    (walk : ∀ (W : World) (args : Array Value) (ds : List (DataW H)) (ps : List MemPlace), ErrVar W → LawPre enc Tryd.prog fn W args ds ps → Calls Tryd.prog f args W (LawPost W)) :
    ReturnsInHanded {} Tryd.checked os f .any (fun w args => (s.pre enc Tryd.prog fn [] false w args ∧ laidMetH Tryd.prog laidList w) ∧ sizedMet enc Tryd.prog fn (OpenSpec.ofChange s) false w args)
      (s.post enc Tryd.prog fn false true false false) := by
  refine returnsInHanded_of_change_and (C := Tryd.checked) (X := fun w _ => laidMetH Tryd.prog laidList w) (fun _ _ _ hh h => h.of_heap hh) Tryd.own started noInit hfn
    (ChangeSpec.witness_at (enc := enc) (C := Tryd.checked) (os := os) (X := fun w _ => laidMetH Tryd.prog laidList w) false (laidWorld os) args0 fuel rfl w1 w2 w3 w4 w5 (laidWorld_met os _)) ?_
  intro W base args ds gs before hval hW _ hsz hL _
  have hW' := hW
  obtain ⟨p, q, hA, hV, rfl, _, _⟩ := hW
  rw [hv] at hV
  obtain ⟨rfl, rfl⟩ := trodVars_none hV
  simp only [List.append_nil] at hW'
  have hlt : ∀ x ∈ p, x.block < W.heap.size := fun x hx => by simpa using hW'.lt x hx
  have hsz' : (DataW.weightsEach Tryd.checked.prog fn.params.toList ds).all (· ≤ reachBytes) = true := by
    have e1 : s.plain.varTypes Tryd.checked.prog = [] := by simp [ChangeSpec.plain, DataSpec.varTypes, hv]
    rw [e1] at hsz
    simpa using hsz
  refine (walk W args ds p (handle_of_laid hL) ⟨hA, ⟨base, hval⟩, hlt, hsz'⟩).mono fun e W' h => ?_
  obtain ⟨rfl, hb⟩ := h
  have hlen := (trodAll_len hA).1.trans hn
  have hfs : s.fn H (ds ++ []) = { results := [.lit (.bool true)], args := ds } := by rw [List.append_nil]; exact hs ds hlen
  refine ⟨_, rfl, ds, [], p, [], p, [], hW', ?_, ?_, ?_, hb.frame _, fun h => by cases h⟩
  · rw [hfs, hr]
    exact trodAll_mk1 (shut_bool Tryd.underlying4 true)
  · rw [hfs]
    exact trodAll_below Tryd.laidOut hb hrec hA hlt
  · rw [hfs, hv]
    rfl
end
end Go.Proofs.YtgickjghfndaaaaDoor
