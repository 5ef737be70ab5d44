/- The frame of a law of the second form: as Frame's, where the arguments are of a bounded bulk. No condition of its own: each premise is named in the theorem. -/
import Derived.Test.YtippdfmmlhpkfaaFrame
import Derived.JoinedCond
import Derived.Deep.CondSized
namespace Go.Proofs.Ytippdfmmlhpkfaa
open Go.RowKit Go.ChangeShapes Go.WideShapes Go.ChangeAt

section
variable {H : Type} {enc : TypeId × Value → H} {P : Program}
theorem law_upto {C : Checked} {os : Os} {f : FuncId} {fn : Func} {s : ChangeSpec} {F : Stop.Interp} {conds : List PathCond} {B : TypeId} {n : Nat}
    (own : ownKnob C.prog.godebug = none) (started : os.Started) (noInit : C.prog.inits.idxOf? f = none) (hfn : C.prog.funcs[f]? = some fn)
    (witness : ∃ (w : World) (tape : Tape) (i : Input), w.os = os ∧ (w.forCall tape i).Shaped C.prog ∧ i.vars = [] ∧ Input.okWide C.prog (w.forCall tape i) .any w.heap.size f i ∧
      (Rows.OpenSpec.upto s).pre6 enc C.prog fn conds false (w.forCall tape i).memory i.args ∧ Assume.holds {} C.prog (lone (Frame.enter C.prog f i.args .normal) [] (w.forCall tape i)))
    (hv : s.vars = []) (hB : C.prog.underlying B = some .bool) (hr : fn.resultTypes = #[B]) (hl : laidOutB C.prog = true)
    (hrec : fn.params.toList.all (fun t => C.prog.readableRec t && decide (t < C.prog.types.size)) = true) (hn : fn.params.toList.length = n)
    (hs : ∀ ds : List (DataW H), ds.length = n → s.fn H ds = { results := [.lit (.bool true)], args := ds })
    (walk : ∀ (W : World) (args : Array Value) (ds : List (DataW H)) (ps : List MemPlace), Rows.uptoSmall H ds = true → LawPre enc C.prog fn W args ds ps → Calls C.prog f args W (LawPost W)) :
    ReturnsInHanded {} C os f .any ((Rows.OpenSpec.upto s).pre6 enc C.prog fn conds false) (((Rows.OpenSpec.upto s).at F).post enc C.prog fn false true false false) := by
  refine returnsInHanded_of_cond_sized (s := Rows.OpenSpec.upto s) (k := Rows.uptoSmall) rfl own started noInit hfn witness ?_
  intro W base args ds gs before hval hW _ hk hsz _
  have hW' := hW
  obtain ⟨p, q, hA, hV, rfl, _, _⟩ := hW
  have hv' : (Rows.OpenSpec.upto s).vars = [] := hv
  rw [hv'] at hV
  obtain ⟨rfl, rfl⟩ := trodVars_none hV
  simp only [List.append_nil] at hW' hk
  have hW'' : DataW.Whole enc C.prog fn.params.toList s.vars false W args.toList ds [] p := hW'
  have hlt : ∀ x ∈ p, x.block < W.heap.size := fun x hx => by simpa using hW'.lt x hx
  have hsz' : (DataW.weightsEach C.prog fn.params.toList ds).all (· ≤ reachBytes) = true := by
    have e1 : (Rows.OpenSpec.upto s).bare.plain.varTypes C.prog = [] := by show s.plain.varTypes C.prog = []; simp [ChangeSpec.plain, DataSpec.varTypes, hv]
    rw [e1] at hsz
    simpa using hsz
  refine (walk W args ds p hk ⟨hA, ⟨base, hval⟩, hlt, hsz'⟩).mono fun e W' h => ?_
  obtain ⟨rfl, hb⟩ := h
  have hlen := (trodAll_len hA).1.trans hn
  have hfs : s.fn H (ds ++ []) = { results := [.lit (.bool true)], args := ds } := by rw [List.append_nil]; exact hs ds hlen
  show ∃ v, Ending.returned (Value.bool true) = .returned v ∧ s.post enc C.prog fn false true false false W args v W'
  refine ⟨_, rfl, ds, [], p, [], p, [], hW'', ?_, ?_, ?_, hb.frame _, fun h => by cases h⟩
  · rw [hfs, hr]
    exact trodAll_mk1 (shut_bool hB true)
  · rw [hfs]
    exact trodAll_below hl hb hrec hA hlt
  · rw [hfs, hv]
    rfl
end
theorem bulk_one {H : Type} (d : DataW H) : 1 ≤ Rows.uptoBulk d := by
  cases d with
  | lit l => cases l <;> simp [Rows.uptoBulk]
  | nil => simp [Rows.uptoBulk]
  | ptr d => simp [Rows.uptoBulk]
  | slice elems spare => simp [Rows.uptoBulk]
  | agg parts => simp [Rows.uptoBulk]
  | iface t d => simp [Rows.uptoBulk]
  | map entries => simp [Rows.uptoBulk]
  | held h => simp [Rows.uptoBulk]
theorem bulk_part {H : Type} {d : DataW H} {l : List (DataW H)} (h : d ∈ l) : Rows.uptoBulk d ≤ Rows.uptoBulkAll l := by
  induction l with
  | nil => cases h
  | cons x r ih =>
    simp only [Rows.uptoBulkAll]
    cases List.mem_cons.1 h with
    | inl e => subst e; omega
    | inr e => have := ih e; omega
theorem bulk_len {H : Type} (l : List (DataW H)) : l.length ≤ Rows.uptoBulkAll l := by
  induction l with
  | nil => simp [Rows.uptoBulkAll]
  | cons x r ih => have := bulk_one x; simp only [Rows.uptoBulkAll, List.length_cons]; omega
theorem bulk_all {H : Type} {l : List (DataW H)} (hk : Rows.uptoSmall H l = true) : Rows.uptoBulkAll l ≤ 1048576 := of_decide_eq_true hk
/-- A slice's elements are no more than the bound. -/
theorem bulk_slice {H : Type} {ds : List (DataW H)} (hk : Rows.uptoSmall H ds = true) {d : DataW H} (hd : d ∈ ds) {n : Nat} (hx : (d = .nil ∧ n = 0) ∨ ∃ el sp, d = .slice el sp ∧ el.length = n) : n ≤ 1048576 := by
  rcases hx with ⟨_, rfl⟩ | ⟨el, sp, rfl, rfl⟩
  · omega
  · have h1 := bulk_all hk
    have h2 := bulk_part hd
    have h3 := bulk_len el
    simp only [Rows.uptoBulk] at h2
    omega
end Go.Proofs.Ytippdfmmlhpkfaa
