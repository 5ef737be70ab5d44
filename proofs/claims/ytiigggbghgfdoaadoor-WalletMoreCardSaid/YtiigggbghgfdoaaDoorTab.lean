/- The frame of every law that reads the table of rounds: as Frame's, and moneyer/sha.rounds reads as the program's text lays it. -/
import Derived.Test.YtiigggbghgfdoaaDoorFrame
import Derived.Lib.LaidTab
import Derived.ChangeVars
import Derived.JoinedOf
import Derived.LaidLaws
import Derived.LaidHandle
import Derived.Stop.Joined
import Derived.Test.YtiigggbghgfdoaaDoorTie
import Derived.Test.YtiigggbghgfdoaaDoorCards
import Derived.SevenTiedAt
namespace Go.Proofs.YtiigggbghgfdoaaDoor
open Go.RowKit Go.ChangeShapes Go.WideShapes Go.ChangeAt

/-- The table's words. -/
def tableZ : List Int := [1116352408, 1899447441, 3049323471, 3921009573, 961987163, 1508970993, 2453635748, 2870763221, 3624381080, 310598401, 607225278, 1426881987, 1925078388, 2162078206, 2614888103, 3248222580, 3835390401, 4022224774, 264347078, 604807628, 770255983, 1249150122, 1555081692, 1996064986, 2554220882, 2821834349, 2952996808, 3210313671, 3336571891, 3584528711, 113926993, 338241895, 666307205, 773529912, 1294757372, 1396182291, 1695183700, 1986661051, 2177026350, 2456956037, 2730485921, 2820302411, 3259730800, 3345764771, 3516065817, 3600352804, 4094571909, 275423344, 430227734, 506948616, 659060556, 883997877, 958139571, 1322822218, 1537002063, 1747873779, 1955562222, 2024104815, 2227730452, 2361852424, 2428436474, 2756734187, 3204031479, 3329325298]
/-- The list that these rows bear. -/
def tabList : List (String × DataW Unit) := [("moneyer/sha.rounds", Rows.laid_moneyer_sha_rounds)]
theorem tab_named : Tryd.prog.globalNamed "moneyer/sha.rounds" = some 1 := by kernel_rfl
theorem tab_type : (Tryd.prog.globals[1]?).map (·.type) = some 104 := by kernel_rfl
/-- The table stands in memory. -/
def TabAt (w : World) : Prop := ∃ T fr, w.heap[1]? = some (.cells (tableZ.map fun z => Value.int .u32 z).toArray T fr) ∧ 1 < w.heap.size
theorem tab_of_laid {W : World} (h : laidMetH Tryd.prog tabList W) : TabAt W := by
  have h' : laidMet Tryd.prog (("moneyer/sha.rounds", Lib.tabData .u32 tableZ) :: []) W := h
  have ht := Lib.tabIs_of_head tab_named tab_type Tryd.underlying104 Tryd.underlying95 (by kernel_rfl) (by kernel_rfl) h'
  unfold Lib.TabIs World.var? at ht
  rw [tab_named] at ht
  simp only [Option.bind_some] at ht
  cases hb : W.heap[1]? with
  | none => rw [hb] at ht; simp at ht
  | some o =>
    rw [hb] at ht
    cases o <;> simp only [Option.some.injEq, reduceCtorEq] at ht
    subst ht
    exact ⟨_, _, hb, (Array.getElem?_eq_some_iff.1 hb).1⟩

noncomputable def tabWorld (os : Os) : World :=
  let w0 := World.holding Tryd.prog os ⟨#[], #[], []⟩
  { w0 with heap := w0.heap.modify 1 fun
      | .cells _ t frozen => .cells (tableZ.map fun z => Value.int .u32 z).toArray t frozen
      | o => o }
set_option maxRecDepth 100000 in
theorem tabWorld_met (os : Os) (args : Array Value) : laidMetH Tryd.prog tabList ((tabWorld os).forCall (fun _ _ => 0) ⟨#[], args, []⟩).memory :=
  (laidMet_of_run' 8 (by kernel_rfl) (by kernel_rfl) : laidMet Tryd.prog tabList _)

section
variable {H : Type} {enc : TypeId × Value → H}
set_option maxRecDepth 100000 in
theorem tab_lifted {os : Os} {f : FuncId} {fn : Func} {s : ChangeSpec} {n : Nat} (args0 : Array Value) (fuel : Nat)
    (started : os.Started) (noInit : Tryd.checked.prog.inits.idxOf? f = none) (hfn : Tryd.checked.prog.funcs[f]? = some fn)
    (w1 : ((tabWorld os).forCall (fun _ _ => 0) ⟨#[], args0, []⟩).variablesB Tryd.checked.prog = true)
    (w2 : ((((tabWorld os).forCall (fun _ _ => 0) ⟨#[], args0, []⟩).heap.toList.drop Tryd.checked.prog.globals.size).take ((begin Tryd.checked.prog (fun _ _ => 0) default).world.heap.size - Tryd.checked.prog.globals.size) =
      (begin Tryd.checked.prog (fun _ _ => 0) default).world.heap.toList.drop Tryd.checked.prog.globals.size))
    (w3 : Input.okWideB Tryd.checked.prog ((tabWorld os).forCall (fun _ _ => 0) ⟨#[], args0, []⟩) f ⟨#[], args0, []⟩ = true)
    (w4 : s.preB enc Tryd.checked.prog fn [] false ((tabWorld os).forCall (fun _ _ => 0) ⟨#[], args0, []⟩).memory args0 fuel = true)
    (w5 : s.sizedB enc Tryd.checked.prog fn false ((tabWorld os).forCall (fun _ _ => 0) ⟨#[], args0, []⟩).memory args0 fuel = true)
    (hv : s.vars = []) (hr : fn.resultTypes = #[4])
    (hrec : fn.params.toList.all (fun t => Tryd.prog.readableRec t && decide (t < Tryd.prog.types.size)) = true) (hn : fn.params.toList.length = n)
    (hs : ∀ ds : List (DataW H), ds.length = n → s.fn H ds = { results := [.lit (.bool true)], args := ds })
    (walk : ∀ (W : World) (args : Array Value) (ds : List (DataW H)) (ps : List MemPlace), TabAt W → LawPre enc Tryd.prog fn W args ds ps → Calls Tryd.prog f args W (LawPost W)) :
    ReturnsInHanded {} Tryd.checked os f .any (fun w args => (s.pre enc Tryd.prog fn [] false w args ∧ laidMetH Tryd.prog tabList w) ∧ sizedMet enc Tryd.prog fn (OpenSpec.ofChange s) false w args)
      (s.post enc Tryd.prog fn false true false false) := by
  refine returnsInHanded_of_change_and (C := Tryd.checked) (X := fun w _ => laidMetH Tryd.prog tabList w) (fun _ _ _ hh h => h.of_heap hh) Tryd.own started noInit hfn
    (ChangeSpec.witness_at (enc := enc) (C := Tryd.checked) (os := os) (X := fun w _ => laidMetH Tryd.prog tabList w) false (tabWorld os) args0 fuel rfl w1 w2 w3 w4 w5 (tabWorld_met os _)) ?_
  intro W base args ds gs before hval hW _ hsz hL _
  have hW' := hW
  obtain ⟨p, q, hA, hV, rfl, _, _⟩ := hW
  rw [hv] at hV
  obtain ⟨rfl, rfl⟩ := trodVars_none hV
  simp only [List.append_nil] at hW'
  have hlt : ∀ x ∈ p, x.block < W.heap.size := fun x hx => by simpa using hW'.lt x hx
  have hsz' : (DataW.weightsEach Tryd.checked.prog fn.params.toList ds).all (· ≤ reachBytes) = true := by
    have e1 : s.plain.varTypes Tryd.checked.prog = [] := by simp [ChangeSpec.plain, DataSpec.varTypes, hv]
    rw [e1] at hsz
    simpa using hsz
  refine (walk W args ds p (tab_of_laid hL) ⟨hA, ⟨base, hval⟩, hlt, hsz'⟩).mono fun e W' h => ?_
  obtain ⟨rfl, hb⟩ := h
  have hlen := (trodAll_len hA).1.trans hn
  have hfs : s.fn H (ds ++ []) = { results := [.lit (.bool true)], args := ds } := by rw [List.append_nil]; exact hs ds hlen
  refine ⟨_, rfl, ds, [], p, [], p, [], hW', ?_, ?_, ?_, hb.frame _, fun h => by cases h⟩
  · rw [hfs, hr]
    exact trodAll_mk1 (shut_bool Tryd.underlying4 true)
  · rw [hfs]
    exact trodAll_below Tryd.laidOut hb hrec hA hlt
  · rw [hfs, hv]
    rfl
end
end Go.Proofs.YtiigggbghgfdoaaDoor
