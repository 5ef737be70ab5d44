/- moneyersame.Error and plain.Told: an error's number: nil's is 0, an Errno's its own. errors.As is walked at a concrete target. Condition: errors.errorType reads as the program's text lays it. The frame of every law of a door seat: as Frame's, and errors.errorType reads as the program's text lays it. The program's ways of telling an error's number, as the statements use them. Condition: errors.errorType reads as the program's text lays it. -/
import Derived.Test.YtbpabjhcjffkmaaGreatDoorFrame
import Derived.LaidEql
import Derived.Stop.Asserts
import Derived.RowKitTokens
import Derived.ChangeVars
import Derived.JoinedOf
import Derived.LaidLaws
import Derived.LaidHandle
import Derived.Stop.Joined
import Derived.Test.YtbpabjhcjffkmaaGreatDoorTie
import Derived.Test.YtbpabjhcjffkmaaGreatDoorCards
import Derived.SevenTiedAt
import Derived.Test.YtbpabjhcjffkmaaGreatDoorRec
/- moneyersame.Error and plain.Told: an error's number: nil's is 0, an Errno's its own. errors.As is walked at a concrete target. Condition: errors.errorType reads as the program's text lays it. -/
namespace Go.Proofs.YtbpabjhcjffkmaaGreatDoor
open Go.RowKit Go.Extern.Stop Go.Stop Go.Extern

/-- The variable errors.errorType holds the handle of the type error. -/
def ErrVar (w : World) : Prop := w.cell? ⟨0, 0, none⟩ = some (.iface 179 (.agg #[.pointer (some ⟨3, 37, none⟩)]))
theorem errVar_lt {w : World} (h : ErrVar w) : 0 < w.heap.size := by
 rcases Nat.lt_or_ge 0 w.heap.size with h0 | h0
 ·exact h0
 ·simp [ErrVar, World.cell?, Array.getElem?_eq_none h0] at h
theorem ErrVar.below {w w' : World} {B : Nat} (h : ErrVar w) (hB : 0 < B) (hb : Below B w w') : ErrVar w' := (hb.cell (p := ⟨0, 0, none⟩) hB).trans h
theorem Tryz.valueOfP (t : Addr) (w : World) : (ReflectliteValue.unpack (.iface 125 (.pointer (some t)))).run Tryz.prog w
  = .ok (.agg #[.pointer (some ⟨3, 125, none⟩), .pointer (some ⟨w.heap.size, 0, none⟩), .int .u64 150]) (w.alloc (.cells #[.pointer (some t)] 125)) := by kernel_rfl
theorem Tryz.typeP (a : Addr) (w : World) : (ReflectliteValue.methodAny (ReflectliteValue.valueError "reflectlite.Value.Type" 0) (fun t _ _ _ => ReflectliteType.toType t) #[.agg #[.pointer (some ⟨3, 125, none⟩), .pointer (some a), .int .u64 150]]).run Tryz.prog w
  = .ok (.iface 179 (.agg #[.pointer (some ⟨3, 125, none⟩)])) w := by kernel_rfl
theorem Tryz.methodKind (h : Value) (w : World) : (Go.method 344 179 (.agg #[h]) "Kind").run Tryz.prog w = .ok (175, h) w := by kernel_rfl
theorem Tryz.kindP (w : World) : ((ReflectliteType.abiMethod fun t => (fun a : Nat => Value.int IntKind.u8 (a : Int)) <$> Rtype.kind t) #[.pointer (some ⟨3, 125, none⟩)]).run Tryz.prog w = .ok (.int .u8 22) w := by kernel_rfl
theorem Tryz.kindE (w : World) : ((ReflectliteType.abiMethod fun t => (fun a : Nat => Value.int IntKind.u8 (a : Int)) <$> Rtype.kind t) #[.pointer (some ⟨3, 33, none⟩)]).run Tryz.prog w = .ok (.int .u8 2) w := by kernel_rfl
theorem rlm (z : Sem Value) (f : TypeId → Addr → Nat → Nat → Sem Value) (v : Value) :
  ReflectliteValue.method z f #[v] = (do match ← ReflectliteValue.parts v with | none => z | some (t, a, fl) => f t a fl (fl % 32)) := rfl
theorem Tryz.partsP (a : Addr) (w : World) : (ReflectliteValue.parts (.agg #[.pointer (some ⟨3, 125, none⟩), .pointer (some a), .int .u64 150])).run Tryz.prog w = .ok (some (125, a, 150)) w := by kernel_rfl
theorem Tryz.isNilP (a p : Addr) (W : World) (ha : W.cell? a = some (.pointer (some p))) :
  (ReflectliteValue.method (ReflectliteValue.valueError "reflectlite.Value.IsNil" 0) ReflectliteValue.isNil #[.agg #[.pointer (some ⟨3, 125, none⟩), .pointer (some a), .int .u64 150]]).run Tryz.prog W = .ok (.bool false) W := by
 rw [rlm]
 simp only [Sem.run_bind, Tryz.partsP, Result.andThen]
 simp [ReflectliteValue.isNil, loadVar, isAgg, underlying, Tryz.underlying125, ha, Result.andThen]
theorem Tryz.methodElem (h : Value) (w : World) : (Go.method 344 179 (.agg #[h]) "Elem").run Tryz.prog w = .ok (185, .agg #[h]) w := by kernel_rfl
theorem Tryz.methodImplements (h : Value) (w : World) : (Go.method 344 179 (.agg #[h]) "Implements").run Tryz.prog w = .ok (186, .agg #[h]) w := by kernel_rfl
theorem Tryz.methodAssignableTo (h : Value) (w : World) : (Go.method 344 179 (.agg #[h]) "AssignableTo").run Tryz.prog w = .ok (183, .agg #[h]) w := by kernel_rfl
theorem Tryz.elemP (w : World) : (ReflectliteType.method ReflectliteType.elem #[.agg #[.pointer (some ⟨3, 125, none⟩)]]).run Tryz.prog w = .ok (.iface 179 (.agg #[.pointer (some ⟨3, 33, none⟩)])) w := by kernel_rfl
theorem Tryz.implementsE (w : World) : (ReflectliteType.relation "Implements" ReflectliteType.implements_ #[.agg #[.pointer (some ⟨3, 33, none⟩)], .iface 179 (.agg #[.pointer (some ⟨3, 37, none⟩)])]).run Tryz.prog w = .ok (.bool true) w := by kernel_rfl
theorem Tryz.typeOfE (v : Value) (w : World) : (ReflectliteType.typeOf #[.iface 33 v]).run Tryz.prog w = .ok (.iface 179 (.agg #[.pointer (some ⟨3, 33, none⟩)])) w := by kernel_rfl
theorem Tryz.assignableE (w : World) : (ReflectliteType.relation "AssignableTo" ReflectliteType.assignableTo #[.agg #[.pointer (some ⟨3, 33, none⟩)], .iface 179 (.agg #[.pointer (some ⟨3, 33, none⟩)])]).run Tryz.prog w = .ok (.bool true) w := by kernel_rfl
theorem Tryz.valueOfE (n : Int) (w : World) : (ReflectliteValue.unpack (.iface 33 (.int .i64 n))).run Tryz.prog w
  = .ok (.agg #[.pointer (some ⟨3, 33, none⟩), .pointer (some ⟨w.heap.size, 0, none⟩), .int .u64 130]) (w.alloc (.cells #[.int .i64 n] 33)) := by kernel_rfl
theorem Tryz.elemOfP (w : World) : (Rtype.elem? 125).run Tryz.prog w = .ok (some 33) w := by kernel_rfl
theorem Tryz.mkE (p : Addr) (w : World) : (ReflectliteValue.mk 33 p ReflectliteValue.flagAddr).run Tryz.prog w = .ok (.agg #[.pointer (some ⟨3, 33, none⟩), .pointer (some p), .int .u64 386]) w := by kernel_rfl
theorem Tryz.elemVP (a p : Addr) (W : World) (ha : W.cell? a = some (.pointer (some p))) :
  (ReflectliteValue.method (ReflectliteValue.valueError "reflectlite.Value.Elem" 0) ReflectliteValue.elem #[.agg #[.pointer (some ⟨3, 125, none⟩), .pointer (some a), .int .u64 150]]).run Tryz.prog W
   = .ok (.agg #[.pointer (some ⟨3, 33, none⟩), .pointer (some p), .int .u64 386]) W := by
 rw [rlm]
 simp only [Sem.run_bind, Tryz.partsP, Result.andThen]
 simp [ReflectliteValue.elem, loadVar, isAgg, underlying, Tryz.underlying125, ha, Result.andThen, Tryz.elemOfP, Tryz.mkE]
theorem rls (v x : Value) : ReflectliteValue.set #[v, x] = (do
  let (some (dst, a, fl), some (src, b, _)) := (← ReflectliteValue.parts v, ← ReflectliteValue.parts x)
   | unsupported (.noEntry "extern/(internal/reflectlite.Value).Set.zeroValue")
  if fl / ReflectliteValue.flagAddr % 2 == 0 then unsupported (.noEntry "extern/(internal/reflectlite.Value).Set.unaddressable")
  let val ← loadVar src b
  if ← Rtype.directlyAssignable dst src then storeVar dst a val
  else if ← Rtype.implements dst src then
   if (← Rtype.kind src) == 20 then
    match val with
    | .nilIface => unsupported (.noEntry "extern/reflectlite: a nil value of one interface type handed on as a value of another")
    | _ => storeVar dst a val
   else storeVar dst a (.iface src val)
  else panicString ("reflectlite.Set: value of type " ++ (← Rtype.spelt src) ++ " is not assignable to type " ++ (← Rtype.spelt dst))
  pure (.tuple #[])) := rfl
theorem Tryz.partsEa (a : Addr) (w : World) : (ReflectliteValue.parts (.agg #[.pointer (some ⟨3, 33, none⟩), .pointer (some a), .int .u64 386])).run Tryz.prog w = .ok (some (33, a, 386)) w := by kernel_rfl
theorem Tryz.partsE (a : Addr) (w : World) : (ReflectliteValue.parts (.agg #[.pointer (some ⟨3, 33, none⟩), .pointer (some a), .int .u64 130])).run Tryz.prog w = .ok (some (33, a, 130)) w := by kernel_rfl
theorem Tryz.directE (w : World) : (Rtype.directlyAssignable 33 33).run Tryz.prog w = .ok true w := by kernel_rfl
theorem Tryz.setE (ta b : Addr) (n : Int) (old : Value) (W : World) (hb : W.cell? b = some (.int .i64 n)) (ht : W.cell? ta = some old) (hf : W.frozen? ta = false) :
  (ReflectliteValue.set #[.agg #[.pointer (some ⟨3, 33, none⟩), .pointer (some ta), .int .u64 386], .agg #[.pointer (some ⟨3, 33, none⟩), .pointer (some b), .int .u64 130]]).run Tryz.prog W
   = .ok (.tuple #[]) (W.setCell ta (.int .i64 n)) := by
 rw [rls]
 simp only [Sem.run_bind, Tryz.partsEa, Tryz.partsE, Result.andThen]
 simp [ReflectliteValue.flagAddr, loadVar, isAgg, underlying, Tryz.underlying33, hb, Result.andThen, Tryz.directE, storeVar, Value.cells, storeCells, Addr.add]
 rw [run_store Tryz.prog W ta _ _ (by rfl)]
 simp [ht, hf]
set_option maxHeartbeats 4000000 in
theorem as_hit (n : Int) (t : Addr) (old : Value) (w : World) (hg : ErrVar w) (ht0 : w.cell? t = some old) (hf0 : w.frozen? t = false) :
  Calls Tryz.prog 85 #[.iface 33 (.int .i64 n), .iface 125 (.pointer (some t))] w fun ev w' => ev = .returned (.bool true) ∧ ((((w.alloc (.cells #[.pointer (some t)] 125)).alloc (.cells #[.pointer (some ⟨3, 125, none⟩), .pointer (some ⟨w.heap.size, 0, none⟩), .int .u64 150] 153)).alloc (.cells #[.pointer (some ⟨3, 125, none⟩), .pointer (some ⟨w.heap.size, 0, none⟩), .int .u64 150] 153)).alloc (.cells #[.int .i64 n] 33)).setCell t (.int .i64 n) = w' := by
 have h6 := @run_callFunc_extern Tryz.prog 120 _ (fun args => ReflectliteValue.unpack (args.getD 0 (.tuple #[]))) Tryz.func120 (by kernel_rfl) (by kernel_rfl) (by kernel_rfl) (by kernel_rfl)
 have h7 := @run_callFunc_extern Tryz.prog 121 _ (ReflectliteValue.methodAny (ReflectliteValue.valueError "reflectlite.Value.Type" 0) (fun t _ _ _ => ReflectliteType.toType t)) Tryz.func121 (by kernel_rfl) (by kernel_rfl) (by kernel_rfl) (by kernel_rfl)
 have h8 := @run_callFunc_extern Tryz.prog 122 _ (ReflectliteValue.method (ReflectliteValue.valueError "reflectlite.Value.IsNil" 0) ReflectliteValue.isNil) Tryz.func122 (by kernel_rfl) (by kernel_rfl) (by kernel_rfl) (by kernel_rfl)
 have h27 := @run_callFunc_extern Tryz.prog 175 _ (ReflectliteType.abiMethod fun t => do pure (.int .u8 (← Rtype.kind t))) Tryz.func175 (by kernel_rfl) (by kernel_rfl) (by kernel_rfl) (by kernel_rfl)
 have h37 := @run_callFunc_extern Tryz.prog 185 _ (ReflectliteType.method ReflectliteType.elem) Tryz.func185 (by kernel_rfl) (by kernel_rfl) (by kernel_rfl) (by kernel_rfl)
 have h38 := @run_callFunc_extern Tryz.prog 186 _ (ReflectliteType.relation "Implements" ReflectliteType.implements_) Tryz.func186 (by kernel_rfl) (by kernel_rfl) (by kernel_rfl) (by kernel_rfl)
 have h10 := @run_callFunc_extern Tryz.prog 135 _ ReflectliteType.typeOf Tryz.func135 (by kernel_rfl) (by kernel_rfl) (by kernel_rfl) (by kernel_rfl)
 have h35 := @run_callFunc_extern Tryz.prog 183 _ (ReflectliteType.relation "AssignableTo" ReflectliteType.assignableTo) Tryz.func183 (by kernel_rfl) (by kernel_rfl) (by kernel_rfl) (by kernel_rfl)
 have h11 := @run_callFunc_extern Tryz.prog 136 _ (ReflectliteValue.method (ReflectliteValue.valueError "reflectlite.Value.Elem" 0) ReflectliteValue.elem) Tryz.func136 (by kernel_rfl) (by kernel_rfl) (by kernel_rfl) (by kernel_rfl)
 have h12 := @run_callFunc_extern Tryz.prog 137 _ ReflectliteValue.set Tryz.func137 (by kernel_rfl) (by kernel_rfl) (by kernel_rfl) (by kernel_rfl)
 have tO := Tryz.typeOfE
 have mA := Tryz.methodAssignableTo
 have aE := Tryz.assignableE
 have vE := Tryz.valueOfE
 have f6 := Tryz.valueOfP
 have f7 := Tryz.typeP
 have mK := Tryz.methodKind
 have mE := Tryz.methodElem
 have mI := Tryz.methodImplements
 have kP := Tryz.kindP
 have kE := Tryz.kindE
 have eP := Tryz.elemP
 have iE := Tryz.implementsE
 have n8 := Tryz.isNilP ⟨w.heap.size, 0, none⟩ t ((w.alloc (.cells #[.pointer (some t)] 125)).alloc (.cells #[.pointer (some ⟨3, 125, none⟩), .pointer (some ⟨w.heap.size, 0, none⟩), .int .u64 150] 153)) (by simp)
 have hlt := errVar_lt hg
 have hg2 : ((w.alloc (.cells #[.pointer (some t)] 125)).alloc (.cells #[.pointer (some ⟨3, 125, none⟩), .pointer (some ⟨w.heap.size, 0, none⟩), .int .u64 150] 153)).cell? ⟨0, 0, none⟩ = some (.iface 179 (.agg #[.pointer (some ⟨3, 37, none⟩)])) := by
  rw [World.cell?_alloc_lt _ _ ⟨0, 0, none⟩ (by simp <;> omega), World.cell?_alloc_lt _ _ ⟨0, 0, none⟩ hlt]; exact hg
 have htl : t.block < w.heap.size := by
  rcases Nat.lt_or_ge t.block w.heap.size with h | h
  ·exact h
  ·simp [World.cell?, Array.getElem?_eq_none h] at ht0
 have el := Tryz.elemVP ⟨w.heap.size, 0, none⟩ t (((w.alloc (.cells #[.pointer (some t)] 125)).alloc (.cells #[.pointer (some ⟨3, 125, none⟩), .pointer (some ⟨w.heap.size, 0, none⟩), .int .u64 150] 153)).alloc (.cells #[.pointer (some ⟨3, 125, none⟩), .pointer (some ⟨w.heap.size, 0, none⟩), .int .u64 150] 153)) (by rw [World.cell?_alloc_lt _ _ ⟨w.heap.size, 0, none⟩ (by simp <;> omega)]; simp)
 have st := Tryz.setE t ⟨w.heap.size + 1 + 1 + 1, 0, none⟩ n old ((((w.alloc (.cells #[.pointer (some t)] 125)).alloc (.cells #[.pointer (some ⟨3, 125, none⟩), .pointer (some ⟨w.heap.size, 0, none⟩), .int .u64 150] 153)).alloc (.cells #[.pointer (some ⟨3, 125, none⟩), .pointer (some ⟨w.heap.size, 0, none⟩), .int .u64 150] 153)).alloc (.cells #[.int .i64 n] 33))
  (by rw [World.cell?_alloc_at _ _ _ _ (by simp)]; rfl)
  (by rw [World.cell?_alloc_lt _ _ t (by simp <;> omega), World.cell?_alloc_lt _ _ t (by simp <;> omega), World.cell?_alloc_lt _ _ t (by simp <;> omega), World.cell?_alloc_lt _ _ t htl]; exact ht0)
  (by rw [World.frozen?_alloc_old _ _ t (by simp <;> omega), World.frozen?_alloc_old _ _ t (by simp <;> omega), World.frozen?_alloc_old _ _ t (by simp <;> omega), World.frozen?_alloc_old _ _ t (Nat.ne_of_lt htl)]; exact hf0)
 clear hg
 go_enter Tryz.func85, Tryz.ntmps85
 go_wp2
 refine wp_loop_rounds 1 ?_
 rw [rounds_succ]
 go_wp2
 go_ret
 exact ⟨rfl, rfl⟩
/-- Told: nil's number is 0. -/
theorem told_nil (w : World) : Calls Tryz.prog 38 #[.nilIface] w fun e w' => e = .returned (.int .i64 0) ∧ w = w' := by
 go_enter Tryz.func38, Tryz.ntmps38
 go_wp2
 go_ret
 exact ⟨rfl, rfl⟩
/-- Told: an Errno's is its own. -/
theorem told_errno (n : Int) (w : World) (hg : ErrVar w) : Calls Tryz.prog 38 #[.iface 33 (.int .i64 n)] w fun e w' => e = .returned (.int .i64 n) ∧ Below w.heap.size w w' := by
 have hlt := errVar_lt hg
 have hg2 : ErrVar (w.alloc (.cells #[.int .i64 0] 33)) := (World.cell?_alloc_lt _ _ ⟨0, 0, none⟩ hlt).trans hg
 clear hg
 go_enter Tryz.func38, Tryz.ntmps38
 go_wp2_with fail
 refine (as_hit n ⟨w.heap.size, 0, none⟩ (.int .i64 0) _ hg2 (by simp) (by simp)).mono ?_
 rintro e w1 ⟨rfl, rfl⟩
 go_wp2
 go_ret
 exact ⟨rfl, (((((Below.refl _ _).alloc (Nat.le_refl _) _).alloc (by simp <;> omega) _).alloc (by simp <;> omega) _).alloc (by simp <;> omega) _).alloc (by simp <;> omega) _⟩

end Go.Proofs.YtbpabjhcjffkmaaGreatDoor

/- The frame of every law of a door seat: as Frame's, and errors.errorType reads as the program's text lays it. -/
namespace Go.Proofs.YtbpabjhcjffkmaaGreatDoor
open Go.RowKit Go.ChangeShapes Go.WideShapes Go.ChangeAt

theorem Tryz.et : Tryz.prog.globalNamed "errors.errorType" = some 0 := by kernel_rfl
theorem Tryz.rt : (Tryz.prog.cutTypes.find? (·.1 == "internal/reflectlite.rtype")).map (·.2) = some 179 := by kernel_rfl
theorem Tryz.oneRow : ((List.range 244).filter fun t => Tryz.prog.rowNamed t [101, 114, 114, 111, 114]) = [37] := by kernel_rfl
theorem Tryz.size : Tryz.prog.types.size = 244 := by kernel_rfl
/-- The list that every row of this seat bears. -/
def laidList : List (String × DataW Unit) := [("errors.errorType", Rows.laid_errors_errorType)]
theorem handle_of_laid {W : World} (h : laidMetH Tryz.prog laidList W) : ErrVar W := by
 have h' : laidMet Tryz.prog [] W ∧ handlesMet Tryz.prog laidList W := h
 obtain ⟨name, u, ty, e1, e2, e3, e4, e5⟩ := h'.2 _ (List.mem_singleton.2 rfl)
 have en : name = [101, 114, 114, 111, 114] := (Option.some.inj e1).symm
 subst en
 obtain rfl := Option.some.inj (Tryz.rt.symm.trans e2)
 have hm : ty ∈ (List.range 244).filter fun t => Tryz.prog.rowNamed t [101, 114, 114, 111, 114] := List.mem_filter.2 ⟨List.mem_range.2 (by rw [← Tryz.size]; exact e3), e4⟩
 rw [Tryz.oneRow] at hm
 obtain rfl := List.mem_singleton.1 hm
 have hh : typeHandle Tryz.prog 37 = .pointer (some ⟨3, 37, none⟩) := by kernel_rfl
 rw [hh] at e5
 unfold ErrVar
 simpa using World.var?_cell Tryz.et e5 0

section
variable {H : Type} {enc : TypeId × Value → H}
end
end Go.Proofs.YtbpabjhcjffkmaaGreatDoor

/- The program's ways of telling an error's number, as the statements use them. Condition: errors.errorType reads as the program's text lays it. -/
namespace Go.Proofs.YtbpabjhcjffkmaaGreatDoor
open Go.RowKit Go.ChangeShapes Go.WideShapes Go.ChangeAt

/-- An error of the program: nil (0), or an Errno of a number that is not 0. -/
def errOf (k : Int) : Value := if k = 0 then .nilIface else .iface 33 (.int .i64 k)
theorem errOf_no {k : Int} (h : k ≠ 0) : errOf k = .iface 33 (.int .i64 k) := by unfold errOf; rw [if_neg h]
def PostTold (k : Int) (w : World) (e : Ending) (w' : World) : Prop := e = .returned (.int .i64 k) ∧ Below w.heap.size w w'
theorem told_any (k : Int) (w : World) (hg : ErrVar w) : Calls Tryz.prog 38 #[errOf k] w (PostTold k w) := by
 by_cases hk : k = 0
 ·subst hk
  exact (told_nil w).mono fun e w' ⟨h1, h2⟩ => ⟨h1, h2 ▸ Below.refl _ _⟩
 ·rw [errOf_no hk]
  exact told_errno k w hg
def PostErr (k j : Int) (w : World) (e : Ending) (w' : World) : Prop := e = .returned (.bool (k == j)) ∧ Below w.heap.size w w'
theorem error_any (k j : Int) (w : World) (hg : ErrVar w) : Calls Tryz.prog 7 #[errOf k, .int .i64 j] w (PostErr k j w) := by
 generalize hv : errOf k = v
 have Hv := aside hv
 clear hv
 go_enter Tryz.func7, Tryz.ntmps7
 go_wp2_with fail
 refine (show Calls _ _ #[v] _ _ from Hv.out ▸ told_any k _ hg).mono ?_
 rintro e w1 ⟨rfl, hb⟩
 go_wp2
 go_ret
 exact ⟨rfl, hb⟩
theorem error_at {k j : Int} {v : Value} {w : World} (hv : errOf k = v) (hg : ErrVar w) : Calls Tryz.prog 7 #[v, .int .i64 j] w (PostErr k j w) := by
 subst hv
 exact error_any k j w hg
end Go.Proofs.YtbpabjhcjffkmaaGreatDoor
