/- The frame of every law that reads the table of rounds and errors.errorType: as Frame's, and both read as the program's text lays them. -/
import Derived.Test.YtbpabjhcjffkmaaGreatDoorTab
import Derived.Test.YtbpabjhcjffkmaaGreatDoorErr
namespace Go.Proofs.YtbpabjhcjffkmaaGreatDoor
open Go.RowKit Go.ChangeShapes Go.WideShapes Go.ChangeAt

/-- The list that these rows bear. -/
def bothList : List (String × DataW Unit) := [("moneyer/sha.rounds", Rows.laid_moneyer_sha_rounds), ("errors.errorType", Rows.laid_errors_errorType)]
theorem both_of_laid {W : World} (h : laidMetH Tryz.prog bothList W) : TabAt W ∧ ErrVar W := by
 have h' : laidMet Tryz.prog [("moneyer/sha.rounds", Rows.laid_moneyer_sha_rounds)] W ∧ handlesMet Tryz.prog laidList W := h
 exact ⟨tab_of_laid h'.1, handle_of_laid ⟨(laidMet_nil _ _ : laidMet Tryz.prog [] W), h'.2⟩⟩
noncomputable def bothWorld (os : Os) : World :=
 let w0 := World.holding Tryz.prog os ⟨#[], #[], []⟩
 { w0 with heap := (w0.heap.modify 1 fun
   | .cells _ t frozen => .cells (tableZ.map fun z => Value.int .u32 z).toArray t frozen
   | o => o).modify 0 fun
   | .cells _ t frozen => .cells #[.iface 179 (.agg #[.pointer (some ⟨3, 37, none⟩)])] t frozen
   | o => o }
set_option maxRecDepth 100000 in
theorem bothWorld_met (os : Os) (args : Array Value) : laidMetH Tryz.prog bothList ((bothWorld os).forCall (fun _ _ => 0) ⟨#[], args, []⟩).memory :=
 laidMetH_of_parts (laidMet_of_run' 8 (by kernel_rfl) (by kernel_rfl) : laidMet Tryz.prog [("moneyer/sha.rounds", Rows.laid_moneyer_sha_rounds)] _) (by kernel_rfl)

section
variable {H : Type} {enc : TypeId × Value → H}
set_option maxRecDepth 100000 in
theorem both_lifted {os : Os} {f : FuncId} {fn : Func} {s : ChangeSpec} {n : Nat} (args0 : Array Value) (fuel : Nat)
  (started : os.Started) (noInit : Tryz.checked.prog.inits.idxOf? f = none) (hfn : Tryz.checked.prog.funcs[f]? = some fn)
  (w1 : ((bothWorld os).forCall (fun _ _ => 0) ⟨#[], args0, []⟩).variablesB Tryz.checked.prog = true)
  (w2 : ((((bothWorld os).forCall (fun _ _ => 0) ⟨#[], args0, []⟩).heap.toList.drop Tryz.checked.prog.globals.size).take ((begin Tryz.checked.prog (fun _ _ => 0) default).world.heap.size - Tryz.checked.prog.globals.size) =
   (begin Tryz.checked.prog (fun _ _ => 0) default).world.heap.toList.drop Tryz.checked.prog.globals.size))
  (w3 : Input.okWideB Tryz.checked.prog ((bothWorld os).forCall (fun _ _ => 0) ⟨#[], args0, []⟩) f ⟨#[], args0, []⟩ = true)
  (w4 : s.preB enc Tryz.checked.prog fn [] false ((bothWorld os).forCall (fun _ _ => 0) ⟨#[], args0, []⟩).memory args0 fuel = true)
  (w5 : s.sizedB enc Tryz.checked.prog fn false ((bothWorld os).forCall (fun _ _ => 0) ⟨#[], args0, []⟩).memory args0 fuel = true)
  (hv : s.vars = []) (hr : fn.resultTypes = #[4])
  (hrec : fn.params.toList.all (fun t => Tryz.prog.readableRec t && decide (t < Tryz.prog.types.size)) = true) (hn : fn.params.toList.length = n)
  (hs : ∀ ds : List (DataW H), ds.length = n → s.fn H ds = { results := [.lit (.bool true)], args := ds })
  (walk : ∀ (W : World) (args : Array Value) (ds : List (DataW H)) (ps : List MemPlace), TabAt W → ErrVar W → LawPre enc Tryz.prog fn W args ds ps → Calls Tryz.prog f args W (LawPost W)) :
  ReturnsInHanded {} Tryz.checked os f .any (fun w args => (s.pre enc Tryz.prog fn [] false w args ∧ laidMetH Tryz.prog bothList w) ∧ sizedMet enc Tryz.prog fn (OpenSpec.ofChange s) false w args)
   (s.post enc Tryz.prog fn false true false false) := by
 refine returnsInHanded_of_change_and (C := Tryz.checked) (X := fun w _ => laidMetH Tryz.prog bothList w) (fun _ _ _ hh h => h.of_heap hh) Tryz.own started noInit hfn
  (ChangeSpec.witness_at (enc := enc) (C := Tryz.checked) (os := os) (X := fun w _ => laidMetH Tryz.prog bothList w) false (bothWorld os) args0 fuel rfl w1 w2 w3 w4 w5 (bothWorld_met os _)) ?_
 intro W base args ds gs before hval hW _ hsz hL _
 have hW' := hW
 obtain ⟨p, q, hA, hV, rfl, _, _⟩ := hW
 rw [hv] at hV
 obtain ⟨rfl, rfl⟩ := trodVars_none hV
 simp only [List.append_nil] at hW'
 have hlt : ∀ x ∈ p, x.block < W.heap.size := fun x hx => by simpa using hW'.lt x hx
 have hsz' : (DataW.weightsEach Tryz.checked.prog fn.params.toList ds).all (· ≤ reachBytes) = true := by
  have e1 : s.plain.varTypes Tryz.checked.prog = [] := by simp [ChangeSpec.plain, DataSpec.varTypes, hv]
  rw [e1] at hsz
  simpa using hsz
 refine (walk W args ds p (both_of_laid hL).1 (both_of_laid hL).2 ⟨hA, ⟨base, hval⟩, hlt, hsz'⟩).mono fun e W' h => ?_
 obtain ⟨rfl, hb⟩ := h
 have hlen := (trodAll_len hA).1.trans hn
 have hfs : s.fn H (ds ++ []) = { results := [.lit (.bool true)], args := ds } := by rw [List.append_nil]; exact hs ds hlen
 refine ⟨_, rfl, ds, [], p, [], p, [], hW', ?_, ?_, ?_, hb.frame _, fun h => by cases h⟩
 ·rw [hfs, hr]
  exact trodAll_mk1 (shut_bool Tryz.underlying4 true)
 ·rw [hfs]
  exact trodAll_below Tryz.laidOut hb hrec hA hlt
 ·rw [hfs, hv]
  rfl
end
end Go.Proofs.YtbpabjhcjffkmaaGreatDoor
