/- The memory of pick.chooser: a map keyed by questions, of which each answer is right. Conditions: named in each theorem. -/
import Derived.Test.YtgickjghfndaaaaDoorPickH
import Derived.Maps.Own
import Derived.DeepKeys4
import Derived.MapViews
import Derived.ChangeSame
import Derived.Deep.AppendLies
namespace Go.Proofs.YtgickjghfndaaaaDoor
open Go.RowKit Go.ChangeShapes Go.WideShapes Go.ChangeAt
open Go.WideElems (Fit)
open Go.Maps (Keyed)

def kv (a t : Int) : Value := .agg #[.int .i64 a, .int .i64 t]
def cv (z : Cho) : Value := .agg #[.int .i64 z.s, .int .i64 z.k, .bool z.tk, .bool z.can]
theorem kv_inj {a t b u : Int} (h : kv a t = kv b u) : a = b ∧ t = u := by
  unfold kv at h
  simp at h
  exact h
set_option maxRecDepth 100000 in
theorem qLaid : laidOutB Tryd.prog = true := by kernel_rfl
theorem qWide : (match Tryd.prog.underlying 62 with | some (.array _ _) | some (.struct _) => true | _ => false) = true := by kernel_rfl
set_option maxRecDepth 100000 in
theorem qDeep : Tryd.prog.keyTypeAt (Tryd.prog.types.size + 1) 62 = true := by kernel_rfl
theorem qRow : (62 : TypeId) < Tryd.prog.types.size := of_decide_eq_true (by kernel_rfl)
theorem qCells : Tryd.prog.cellsOf 62 = 2 := by kernel_rfl
theorem iCells : Tryd.prog.cellsOf 3 = 1 := by kernel_rfl
set_option maxRecDepth 100000 in
theorem qKeyed : Keyed Tryd.prog 62 := Keyed.of_law (deep_law_laid qLaid (m := 2) (by omega) qRow (by kernel_rfl) qWide)
set_option maxRecDepth 100000 in
theorem zeroC (w : World) : (zeroValue 55).run Tryd.prog w = .ok (cv ⟨0, 0, false, false⟩) w := by kernel_rfl
set_option maxRecDepth 100000 in
theorem key_of {a t : Int} (ha : (Lit.int .i64 a).wf = true) (ht : (Lit.int .i64 t).wf = true) : ∃ kl, keyOf Tryd.prog 62 (kv a t) = some kl := by
  have hf : (kv a t).formed Tryd.prog 62 = true := by
    unfold kv
    simp [Value.formed, Tryd.underlying62, qCells]
  have hd : DataW.Trod (H := Unit) (fun _ => ()) Tryd.prog default 0 (fun _ => true) true 62 (kv a t) (.agg [.lit (.int .i64 a), .lit (.int .i64 t)]) [] := by
    refine ⟨2, ?_⟩
    refine trod_struct2_mk Tryd.underlying62 (y0 := (.lit (.int .i64 a), [])) (y1 := (.lit (.int .i64 t), [])) (by rw [qCells]; rfl) ?_ ?_
    · simp [kv, Value.cells, DataW.trod, Tryd.underlying3, iCells, ha]
    · simp [kv, Value.cells, DataW.trod, Tryd.underlying3, iCells, ht]
  exact ⟨_, (keyOf_asKey qDeep qWide hf hd).1⟩
def R0 : Value → Option (DataW Unit × List MemPlace) := fun _ => some (.nil, [])
/-- Block b is a map of at most n entries each of which answers its question rightly. -/
def Memo (w : World) (b n : Nat) (ns : List Int) : Prop := ∃ es clock, w.heap[b]? = some (.map es clock) ∧ Fit Tryd.prog 62 R0 es clock ∧ es.size ≤ n ∧ ∀ x ∈ es.toList, ∀ (a : Nat) (t : Int), x.key = kv a t → x.val = cv (bestF (ns.drop a) t)
theorem memo_made (w : World) (ns : List Int) : Memo (w.alloc (.map #[] 0)) w.heap.size 0 ns := by
  obtain ⟨es, clock, h1, h2, h3, _⟩ := World.ownsMap_made w Tryd.prog 62 R0
  have h4 : es.size = 0 := by omega
  have h5 : es = #[] := Array.eq_empty_of_size_eq_zero h4
  subst h5
  exact ⟨#[], clock, h1, h2, by simp, by simp⟩
theorem Memo.lt {w : World} {b n : Nat} {ns : List Int} (h : Memo w b n ns) : b < w.heap.size := by
  obtain ⟨es, clock, hb, _⟩ := h
  exact (Array.getElem?_eq_some_iff.1 hb).1
theorem Memo.same {w w' : World} {b n : Nat} {ns : List Int} (h : Memo w b n ns) (hb : w'.heap[b]? = w.heap[b]?) : Memo w' b n ns := by
  obtain ⟨es, clock, h1, h2⟩ := h
  exact ⟨es, clock, hb.trans h1, h2⟩
theorem Memo.more {w : World} {b n m : Nat} {ns : List Int} (h : Memo w b n ns) (hm : n ≤ m) : Memo w b m ns := by
  obtain ⟨es, clock, h1, h2, h3, h4⟩ := h
  exact ⟨es, clock, h1, h2, by omega, h4⟩
theorem Memo.grown {w w' : World} {b n : Nat} {ns : List Int} {row : Option Nat} (h : Memo w b n ns) (hg : w.grownBy w' row) (hne : some b ≠ row) : Memo w' b n ns := h.same (hg.block b h.lt hne)
/-- 'm[q]': what comes is right where it is there. -/
theorem Memo.look {w : World} {b n : Nat} {ns : List Int} (h : Memo w b n ns) {a : Nat} {t : Int} (ha : (Lit.int .i64 (a : Int)).wf = true) (ht : (Lit.int .i64 t).wf = true) :
    ∃ (z : Cho) (ok : Bool), (ok = true → z = bestF (ns.drop a) t) ∧ ∀ w', w'.heap[b]? = w.heap[b]? → (Instr.lookup 51 (.map (some b)) (kv a t) true).run Tryd.prog w' = .ok (.tuple #[cv z, .bool ok]) w' := by
  obtain ⟨es, clock, h1, h2, h3, h4⟩ := h
  obtain ⟨kl, hk⟩ := key_of ha ht
  rcases Maps.fit_look (w := w) true qKeyed Tryd.underlying51 (zeroC w) h1 h2 hk with ⟨_, h6, _⟩ | ⟨e0, y, h6, h7, _, _⟩
  · refine ⟨⟨0, 0, false, false⟩, false, by simp, fun w' hw => ?_⟩
    rcases Maps.fit_look (w := w') true qKeyed Tryd.underlying51 (zeroC w') (hw.trans h1) h2 hk with ⟨h5, _⟩ | ⟨e1, _, h8, h9, _⟩
    · exact h5
    · exact absurd h9 (h6 e1 h8)
  · refine ⟨bestF (ns.drop a) t, true, fun _ => rfl, fun w' hw => ?_⟩
    rcases Maps.fit_look (w := w') true qKeyed Tryd.underlying51 (zeroC w') (hw.trans h1) h2 hk with ⟨_, h8, _⟩ | ⟨e1, _, h8, h9, h10, _⟩
    · exact absurd h7 (h8 e0 h6)
    · rw [h10, if_pos rfl, h4 e1 h8 a t h9]
/-- 'm[q] = x', the right answer. -/
theorem Memo.put {w : World} {b n : Nat} {ns : List Int} (h : Memo w b n ns) (hn : n < maxLen) {a : Nat} {t : Int} (ha : (Lit.int .i64 (a : Int)).wf = true) (ht : (Lit.int .i64 t).wf = true) {z : Cho} (hz : z = bestF (ns.drop a) t) :
    ∃ w', (Instr.mapUpdate 51 (.map (some b)) (kv a t) (cv z)).run Tryd.prog w = .ok () w' ∧ Memo w' b (n + 1) ns ∧ w.grownBy w' (some b) := by
  have hown : w.ownsMap Tryd.prog 62 R0 b n (.map ((h.choose.toList.map (Go.WideElems.rg Tryd.prog 62 R0)).foldr DataW.insert [])) := by
    obtain ⟨clock, h1, h2, h3, _⟩ := h.choose_spec
    exact ⟨_, clock, h1, h2, h3, rfl⟩
  obtain ⟨clock, h1, h2, h3, h4⟩ := h.choose_spec
  obtain ⟨kl, hk⟩ := key_of ha ht
  obtain ⟨w1, hr1, ho1, hg1⟩ := hown.update qKeyed Tryd.underlying51 hn (val := cv z) hk (d := .nil) (ps := []) rfl
  obtain ⟨es', clock', hr2, hf2, _, _, _, hm2⟩ := Maps.fit_store (R' := R0) qKeyed Tryd.underlying51 h1 h2 (Nat.lt_of_le_of_lt h3 hn) (val := cv z) (fun _ _ _ _ hz => hz) hk (yv := (.nil, [])) rfl
  rw [hr2] at hr1
  have hw : ChangeMaps.setBlock w b (.map es' clock') = w1 := by injection hr1
  refine ⟨w1, by rw [← hw]; exact hr2, ?_, hg1⟩
  obtain ⟨es3, clock3, k1, _, k3, _⟩ := ho1
  rw [← hw] at k1
  have k4 : (ChangeMaps.setBlock w b (.map es' clock')).heap[b]? = some (.map es' clock') := ChangeMaps.heap_setBlock_same h1 _
  rw [k4] at k1
  injection k1 with k1
  injection k1 with k1 k2
  refine ⟨es', clock', by rw [← hw]; exact k4, hf2, by rw [k1]; exact k3, fun x hx a' t' hkx => ?_⟩
  rcases hm2 x hx with ⟨g1, _⟩ | ⟨g1, g2⟩
  · exact h4 x g1 a' t' hkx
  · rw [hkx] at g1
    obtain ⟨e1, e2⟩ := kv_inj g1
    have e1 : a' = a := by omega
    subst e1 e2
    rw [g2, hz]
def orL : List Int → Int
  | [] => 0
  | a :: r => if a ≠ 0 then a else orL r
theorem orL_at {zs : List Int} {i : Nat} (h : i < zs.length) : orL (zs.drop i) = if nth zs i ≠ 0 then nth zs i else orL (zs.drop (i + 1)) := by
  rw [nth_get h, List.drop_eq_getElem_cons h]
  rfl
set_option maxHeartbeats 4000000 in
set_option maxRecDepth 100000 in
theorem or_any (zs : List Int) (A : Option Addr) (n c : Nat) (hn : n ≤ 1000) (w : World) (h : ISl w w.heap.size A n zs) :
    Calls Tryd.prog 34 #[.slice A n c] w (fun e w' => e = .returned (.int .i64 (orL zs)) ∧ w' = w) := by
  have hl := ISl.len h
  obtain ⟨R, hR⟩ : ∃ R, R = orL zs := ⟨_, rfl⟩
  rw [← hR]
  have HR := aside hR
  have HL := aside hl
  have H := aside h
  clear hR hl h
  go_enter Tryd.func34, Tryd.ntmps34
  go_wp2
  go_loopw [8] (fun v8 wr => ∃ i : Nat, i ≤ n ∧ v8 = .int .i64 i ∧ wr = w ∧ Hid (R = orL (zs.drop i))) (fun v8 _ => n - (Go.RowKit.intOf v8).toNat)
  case atStart => exact ⟨0, Nat.zero_le _, rfl, rfl, HR⟩
  case round =>
    obtain ⟨i, hi, rfl, hw, HI⟩ := hrel
    try subst hw
    by_cases hin : i < n
    · obtain ⟨b, o, hAe, hbl, hc⟩ := ISl.at_ H.out hin
      have e := orL_at (zs := zs) (i := i) (by have := HL.out; omega)
      have i0 : (i : Int) < (n : Int) := by omega
      obtain ⟨x, hx⟩ : ∃ x, x = nth zs i := ⟨_, rfl⟩
      rw [← hx] at hc e
      by_cases hz : x = 0
      · rw [if_neg (by simp [hz])] at e
        have HI2 : Hid (R = orL (zs.drop (i + 1))) := aside (HI.out.trans e)
        subst hAe
        have hz2 : (x != 0) = false := by simp [hz]
        clear e hbl hx
        subst hz
        go_wp2
        exact ⟨⟨i + 1, by omega, by go_num, by trivial, HI2⟩, by simp [Go.RowKit.intOf]; omega⟩
      · rw [if_pos hz] at e
        have hRx := HI.out.trans e
        subst hAe
        have hz2 : (x != 0) = true := by simp [hz]
        have HRx := aside hRx
        clear e hbl hx hRx
        go_wp2
        (try simp only [Exit.inBlock, Exit.then])
        refine bodyPost_ret (v := .int .i64 x) (by simp only [results, Tryd.results34]; go_simp) rfl ?_
        exact ⟨by rw [HRx.out], rfl⟩
    · obtain rfl : n = i := by omega
      have e : zs.drop n = [] := List.drop_of_length_le (by have := HL.out; omega)
      have HRx : Hid (R = 0) := aside (by rw [HI.out, e]; rfl)
      have i0 : ((n : Int) < (n : Int)) = False := by simp
      clear e
      go_wp2
      (try simp only [Exit.inBlock, Exit.then])
      refine bodyPost_ret (v := .int .i64 0) (by simp only [results, Tryd.results34]; go_simp) rfl ?_
      exact ⟨by rw [HRx.out], rfl⟩
theorem lex_or (a b c d : Int) : orL [cmpI a c, cmpI b d] ≤ 0 ↔ Lex a b c d := by
  unfold Lex
  simp only [orL]
  unfold cmpI
  repeat' split
  all_goals (first | omega | (simp at *; omega))
end Go.Proofs.YtgickjghfndaaaaDoor
