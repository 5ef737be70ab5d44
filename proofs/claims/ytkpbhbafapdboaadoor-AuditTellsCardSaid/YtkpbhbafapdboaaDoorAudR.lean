/- A leaf's path: audit.Path: the walk. Conditions: named in each theorem. -/
import Derived.Test.YtkpbhbafapdboaaDoorAudQ
import Derived.Test.YtkpbhbafapdboaaDoorAudN
namespace Go.Proofs.YtkpbhbafapdboaaDoor
open Go.RowKit Go.ChangeShapes Go.WideShapes Go.ChangeAt Go.Sort

theorem totInfo3 : (Tryd.prog.info? 25).map (fun i => (i.zero, i.size, i.bytes)) = some (some (.agg (totR 0 zeroD)), 33, 40) := by kernel_rfl
def TOwn (w : World) (base : Nat) (v : Value) (n : Nat) (ts : List Tot) : Prop := w.ownsRow base 25 33 v n (ts.flatMap totE)
theorem TOwn.push {w : World} {base : Nat} {v : Value} {n : Nat} {ts : List Tot} {t : Tot} (ht : t.2.length = 32) (h : w.ownsRow base 25 33 v n (ts.flatMap totE ++ (totR t.1 t.2).toList)) : TOwn w base v n (ts ++ [t]) := by
  unfold TOwn
  rw [List.flatMap_append]
  have e : [t].flatMap totE = (totR t.1 t.2).toList := by simp [totR, totE_eq ht]
  rw [e]
  exact h
theorem TOwn.row {w : World} {base g n c : Nat} {ts : List Tot} (h : TOwn w base (.slice (some ⟨g, 0, none⟩) n c) n ts) (hd : ∀ t ∈ ts, Dig t.2) : TRow w g ts.toArray ∧ ts.length = n ∧ base ≤ g := by
  have hs : TSl w w.heap.size (some ⟨g, 0, none⟩) n ts := Sl.own h
  have hl := FSl.len totE_len (by decide) hs
  have hb : base ≤ g := (h.lt g rfl).1
  obtain ⟨-, ho⟩ := h
  rcases ho with ⟨h0, -⟩ | ⟨g', cap, cur, e, -, hh, -⟩
  · simp at h0
  · simp only [Value.slice.injEq, Option.some.injEq, Addr.mk.injEq, true_and, and_true] at e
    obtain ⟨rfl, rfl⟩ := e
    refine ⟨fun k hk => ?_, hl, hb⟩
    have hk' : k < ts.length := by simpa using hk
    obtain ⟨b, off, e, _, hr, hdk⟩ := TSl.at_ hs hd (show k < n by omega)
    injection e with e
    injection e with e1 e2
    subst e1 e2
    rw [Nat.zero_add] at hr
    have ek : ts.getD k noTot = ts.toArray[k]! := by
      rw [List.getD_eq_getElem?_getD, List.getElem?_eq_getElem hk', getElem!_pos _ k hk]
      rfl
    rw [ek] at hr hdk
    refine ⟨hr, fun j hj => ⟨hr.isSome j (by rw [totL_len hdk.1]; exact hj), frozen_of_row w g _ _ _ hh⟩, hdk⟩
theorem TRow.sl {w : World} {g : Nat} {dk : Array Tot} (h : TRow w g dk) (hg : g < w.heap.size) : TSl w w.heap.size (some ⟨g, 0, none⟩) dk.size dk.toList := by
  refine TSl.of (by simp) hg fun j u hu => ?_
  have hj : j < dk.size * 33 := by
    have := (List.getElem?_eq_some_iff.1 hu).1
    rw [flat_len totE_len] at this
    simpa using this
  have hk : j / 33 < dk.size := (Nat.div_lt_iff_lt_mul (by decide)).2 hj
  have hr : j % 33 < 33 := Nat.mod_lt _ (by decide)
  have hdm : j / 33 * 33 + j % 33 = j := by rw [Nat.mul_comm]; exact Nat.div_add_mod j 33
  have hgt := flat_get totE_len noTot dk.toList (k := j / 33) (j := j % 33) (by simpa using hk) hr
  rw [hdm, hu] at hgt
  have ek : dk.toList.getD (j / 33) noTot = dk[j / 33]! := by
    rw [List.getD_eq_getElem?_getD, getElem!_pos dk (j / 33) hk]
    simp [hk]
  obtain ⟨c1, _, c3⟩ := h _ hk
  rw [ek, totE_eq c3.1] at hgt
  have := c1 (j % 33) u hgt.symm
  rw [hdm] at this
  rw [Nat.zero_add]
  exact this
theorem revT_own (ts : List Tot) (hd : ∀ t ∈ ts, Dig t.2) (A : Option Addr) (n c base : Nat) (w : World) (hn : n ≤ 1000000) (h : TOwn w base (.slice A n c) n ts) :
    Calls Tryd.prog 28 #[.slice A n c] w (fun e w' => e = .returned (.tuple #[]) ∧ TSl w' w'.heap.size A n ts.reverse ∧ Below base w w') := by
  cases A with
  | none =>
    have hn0 : n = 0 ∧ ts = [] := by
      obtain ⟨hl, ho⟩ := h
      rcases ho with ⟨-, h0⟩ | ⟨g', cap, cur, e, -⟩
      · rw [flat_len totE_len] at hl
        exact ⟨h0, List.eq_nil_of_length_eq_zero (by omega)⟩
      · simp at e
    obtain ⟨rfl, rfl⟩ := hn0
    clear h hn hd
    go_enter Tryd.func28, Tryd.ntmps28
    go_wp2_with fail
    refine wp_loop_rounds 1 ?_
    rw [rounds_succ]
    go_wp2
    refine bodyPost_end (results_none rfl _ _ _) rfl ?_
    exact ⟨rfl, Sl.nil_, Below.refl _ _⟩
  | some a =>
    obtain ⟨g, rfl⟩ : ∃ g, a = ⟨g, 0, none⟩ := by
      obtain ⟨-, ho⟩ := h
      rcases ho with ⟨h0, -⟩ | ⟨g', cap, cur, e, -⟩
      · simp at h0
      · simp only [Value.slice.injEq, Option.some.injEq] at e
        exact ⟨g', e.1⟩
    obtain ⟨hT, hl, hg⟩ := h.row hd
    have hlt : g < w.heap.size := (h.lt g rfl).2
    have hr := revT_arr g c base hg ts.toArray w hT (by simpa [hl] using hn)
    rw [show ts.toArray.size = n by simpa using hl] at hr
    refine hr.mono ?_
    rintro e w' ⟨rfl, h1, h2⟩
    refine ⟨rfl, ?_, h2⟩
    have h3 := h1.sl (Nat.lt_of_lt_of_le hlt h2.size)
    rw [show ts.toArray.reverse.size = n by simpa using hl, show ts.toArray.reverse.toList = ts.reverse by simp] at h3
    exact h3
theorem pathT_more : ∀ (f g : Nat) (i : Nat) (ts : List Tot), ts.length ≤ f → ts.length ≤ g → ts.length ≤ 256 → pathT f i ts = pathT g i ts
  | 0, 0, _, _, _, _, _ => rfl
  | 0, g + 1, i, ts, h, _, _ => by
    unfold pathT
    rw [if_pos (by omega)]
  | f + 1, 0, i, ts, _, h, _ => by
    unfold pathT
    rw [if_pos (by omega)]
  | f + 1, g + 1, i, ts, h1, h2, h3 => by
    unfold pathT
    by_cases hn : ts.length ≤ 1
    · rw [if_pos hn, if_pos hn]
    · rw [if_neg hn, if_neg hn]
      have hh := half_lt (n := ts.length) (by omega) h3
      rw [pathT_more f g i (ts.take (halfN ts.length)) (by rw [List.length_take]; omega) (by rw [List.length_take]; omega) (by rw [List.length_take]; omega),
        pathT_more f g (i - halfN ts.length) (ts.drop (halfN ts.length)) (by rw [List.length_drop]; omega) (by rw [List.length_drop]; omega) (by rw [List.length_drop]; omega)]
def path0 (i : Nat) (ts : List Tot) : List Tot := pathT 257 i ts
theorem path0_one (i : Nat) (ts : List Tot) (h : ts.length ≤ 1) : path0 i ts = [] := by
  show pathT (256 + 1) i ts = []
  unfold pathT
  rw [if_pos h]
theorem path0_step (i : Nat) (ts : List Tot) (h : 2 ≤ ts.length) (hn : ts.length ≤ 256) : path0 i ts =
    if i < halfN ts.length then (rootF 257 (ts.drop (halfN ts.length))).1 :: path0 i (ts.take (halfN ts.length)) else (rootF 257 (ts.take (halfN ts.length))).1 :: path0 (i - halfN ts.length) (ts.drop (halfN ts.length)) := by
  have hh := half_lt h hn
  have m1 := pathT_more 256 257 i (ts.take (halfN ts.length)) (by rw [List.length_take]; omega) (by rw [List.length_take]; omega) (by rw [List.length_take]; omega)
  have m2 := pathT_more 256 257 (i - halfN ts.length) (ts.drop (halfN ts.length)) (by rw [List.length_drop]; omega) (by rw [List.length_drop]; omega) (by rw [List.length_drop]; omega)
  unfold path0
  rw [← m1, ← m2]
  show pathT (256 + 1) i ts = _
  conv => lhs; unfold pathT
  rw [if_neg (by omega)]
theorem pathT_dig : ∀ (f i : Nat) (ts : List Tot), (∀ t ∈ ts, Dig t.2) → ∀ t ∈ pathT f i ts, Dig t.2
  | 0, _, _, _, t, ht => by cases ht
  | f + 1, i, ts, h, t, ht => by
    unfold pathT at ht
    split at ht
    · cases ht
    · split at ht
      · rcases List.mem_cons.1 ht with rfl | ht
        · exact rootF_dig 257 _ (fun x hx => h x (List.mem_of_mem_drop hx))
        · exact pathT_dig f i _ (fun x hx => h x (List.mem_of_mem_take hx)) t ht
      · rcases List.mem_cons.1 ht with rfl | ht
        · exact rootF_dig 257 _ (fun x hx => h x (List.mem_of_mem_take hx))
        · exact pathT_dig f _ _ (fun x hx => h x (List.mem_of_mem_drop hx)) t ht
end Go.Proofs.YtkpbhbafapdboaaDoor
