/- What comes in: totals; nothing is less than nothing: the walk of AuditBounds. Conditions: named in each theorem. -/
import Derived.Test.YtkpbhbafapdboaaDoorAudK
import Derived.Test.YtkpbhbafapdboaaDoorOpen
import Derived.Test.YtkpbhbafapdboaaDoorTab
namespace Go.Proofs.YtkpbhbafapdboaaDoor
open Go.RowKit Go.ChangeShapes Go.WideShapes Go.ChangeAt

theorem rounds_of_tab {w : World} (h : TabAt w) : RoundsAt w := by
  obtain ⟨T, fr, h1, h2⟩ := h
  exact ⟨T, fr, h1, h2⟩
theorem byte_of_wf {x : Int} (h : (Lit.int .u8 x).wf = true) : ∃ n : Nat, x = n ∧ n < 256 := by
  have e1 : IntKind.u8.min = 0 := by decide
  have e2 : IntKind.u8.max = 255 := by decide
  simp [Lit.wf, e1, e2] at h
  exact ⟨x.toNat, by omega, by omega⟩
set_option maxRecDepth 100000 in
theorem trod_dig {H : Type} {en : TypeId × Value → H} {W : World} {spare : Nat → Bool} {held : Bool} (n : Nat) (cs : List Value) (y : DataW H × List MemPlace) (hl : cs.length = 32)
    (hf : DataW.trod en Tryd.prog W 0 spare held n 23 cs = some y) : ∃ d : List Nat, cs = d.map (fun (x : Nat) => Value.int .u8 (x : Int)) ∧ Dig d := by
  have hC1 : Tryd.prog.cellsOf 5 = 1 := by kernel_rfl
  obtain ⟨xs, m, _, _, _, hlen, hf⟩ := DataW.trod_array Tryd.underlying23 hf
  rw [hC1] at hf
  have hp : ∀ i, i < 32 → ∃ x : Nat, cs[i]? = some (.int .u8 (x : Int)) ∧ x < 256 := by
    intro i hi
    have h := hf i hi
    rw [List.getElem?_eq_getElem (by omega)] at h
    obtain ⟨a, e, _, w⟩ := DataW.trod_int Tryd.underlying5 h
    obtain ⟨x, rfl, hx⟩ := byte_of_wf w
    refine ⟨x, ?_, hx⟩
    have h2 : (cs.drop (i * 1)).take 1 = [cs[i]] := by
      rw [Nat.mul_one, List.drop_eq_getElem_cons (by omega), List.take_succ_cons, List.take_zero]
    rw [h2] at e
    injection e with e
    rw [List.getElem?_eq_getElem (by omega), e]
  letI : Inhabited Nat := ⟨0⟩
  obtain ⟨X, hX⟩ := Go.Deep.choose_lt hp
  refine ⟨(List.range 32).map X, ?_, by simp, ?_⟩
  · apply List.ext_getElem?
    intro i
    by_cases hi : i < 32
    · rw [(hX i hi).1]
      simp [hi]
    · rw [List.getElem?_eq_none (by omega), List.getElem?_eq_none (by simp; omega)]
  · intro x hx
    obtain ⟨i, hi, rfl⟩ := List.mem_map.1 hx
    exact (hX i (List.mem_range.1 hi)).2
set_option maxRecDepth 100000 in
theorem trod_tot {H : Type} {en : TypeId × Value → H} {W : World} {spare : Nat → Bool} {held : Bool} (n : Nat) (cs : List Value) (y : DataW H × List MemPlace) (hl : cs.length = 33)
    (hf : DataW.trod en Tryd.prog W 0 spare held n 25 cs = some y) : ∃ t : Tot, cs = totE t ∧ Dig t.2 := by
  have hC1 : Tryd.prog.cellsOf 3 = 1 := by kernel_rfl
  have hC2 : Tryd.prog.cellsOf 23 = 32 := by kernel_rfl
  obtain ⟨xs, m, _, _, _, hlen, hf⟩ := DataW.trod_struct Tryd.underlying25 hf
  match cs, hl with
  | c0 :: r, hr =>
    match xs, hlen with
    | [y0, y1], _ =>
      have h0 := hf 0 _ rfl
      have h1 := hf 1 _ rfl
      simp [hC1, hC2] at h0 h1
      have hr' : r.length = 32 := by simpa using hr
      obtain ⟨a0, e0, _, _⟩ := DataW.trod_int Tryd.underlying3 h0
      obtain ⟨d, e1, hd⟩ := trod_dig m (r.take 32) y1 (by rw [List.length_take]; omega) h1
      rw [List.take_of_length_le (by omega)] at e1
      simp at e0
      subst e0 e1
      exact ⟨(a0, d), by rw [totE_eq hd.1]; rfl, hd⟩
set_option maxRecDepth 100000 in
theorem open_tots {H : Type} {en : TypeId × Value → H} {W : World} {spare : Nat → Bool} {held : Bool} {fuel : Nat} {cs : List Value} {x : DataW H × List MemPlace}
    (h : DataW.trod en Tryd.prog W 0 spare held fuel 26 cs = some x) : ∃ A n c ts, cs = [.slice A n c] ∧ TSl W W.heap.size A n ts ∧ (∀ t ∈ ts, Dig t.2) ∧ ((x.1 = .nil ∧ n = 0) ∨ ∃ el sp, x.1 = .slice el sp ∧ el.length = n) :=
  open_recs Tryd.underlying26 (by kernel_rfl) (by decide) totE_len noTot trod_tot h
set_option maxRecDepth 100000 in
theorem open_tot {H : Type} {enc : TypeId × Value → H} {W : World} {r : Reach} {b0 : Nat} {spare : Nat → Bool} {held : Bool} {v : Value} {d : DataW H} {p : List MemPlace}
    (hv : Value.okWide Tryd.prog W r b0 25 v) (h : DataW.Trod enc Tryd.prog W 0 spare held 25 v d p) : ∃ t : Tot, v = tV t ∧ Dig t.2 := by
  have hC : Tryd.prog.cellsOf 25 = 33 := by kernel_rfl
  obtain ⟨⟨l⟩, rfl, hsz⟩ := okWide_struct Tryd.underlying25 hv
  rw [hC] at hsz
  obtain ⟨fuel, hf⟩ := h
  obtain ⟨t, e, hd⟩ := trod_tot fuel l _ (by simpa using hsz) hf
  refine ⟨t, ?_, hd⟩
  rw [e, totE_eq hd.1]
  rfl

/-- All sums together. -/
def sumT : List Tot → Int
  | [] => 0
  | p :: r => p.1 + sumT r
theorem nodeR_sum {l r u : Tot} (h : nodeR l r = (u, 0)) : Mny l.1 ∧ Mny r.1 ∧ u.1 = l.1 + r.1 ∧ Mny u.1 := by
  unfold nodeR at h
  by_cases hq : addQ l.1 r.1 = 0
  · rw [if_pos hq] at h
    obtain ⟨h1, h2, h3⟩ := addQ_zero.1 hq
    injection h with h
    subst h
    exact ⟨h1, h2, rfl, by have g1 := h1.1; have g2 := h2.1; show 0 ≤ l.1 + r.1; omega, h3⟩
  · rw [if_neg hq] at h
    injection h with _ h
    exact absurd h hq
theorem foldP_sum : ∀ (path : List Tot) (W : List Bool) (t r : Tot), foldP t W path = (r, 0) → path.length ≤ W.length → Mny t.1 → (∀ p ∈ path, 0 ≤ p.1) ∧ r.1 = t.1 + sumT path ∧ Mny r.1
  | [], W, t, r, h, _, hm => by
    have e : foldP t W [] = (t, 0) := by cases W <;> rfl
    rw [e] at h
    injection h with h
    subst h
    exact ⟨fun p hp => (by cases hp), (by simp [sumT]), hm⟩
  | p :: ps, [], _, _, _, hl, _ => by simp at hl
  | p :: ps, b :: bs, t, r, h, hl, hm => by
    unfold foldP at h
    obtain ⟨u, q, hu⟩ : ∃ u q, (if b then nodeR t p else nodeR p t) = (u, q) := ⟨_, _, rfl⟩
    rw [hu] at h
    by_cases hq : q = 0
    · subst hq
      rw [if_pos rfl] at h
      have hs : 0 ≤ p.1 ∧ u.1 = t.1 + p.1 ∧ Mny u.1 := by
        cases b with
        | true =>
          obtain ⟨_, h2, h3, h4⟩ := nodeR_sum hu
          exact ⟨h2.1, h3, h4⟩
        | false =>
          obtain ⟨h1, _, h3, h4⟩ := nodeR_sum hu
          exact ⟨h1.1, by rw [h3, Int.add_comm], h4⟩
      obtain ⟨g1, g2, g3⟩ := foldP_sum ps bs u r h (by simpa using hl) hs.2.2
      refine ⟨fun x hx => ?_, ?_, g3⟩
      · rcases List.mem_cons.1 hx with rfl | hx
        · exact hs.1
        · exact g1 x hx
      · rw [g2, hs.2.1]
        simp only [sumT]
        omega
    · rw [if_neg hq] at h
      injection h with _ h
      exact absurd h hq
/-- What is folded holds no less than all that is told. -/
theorem foldR_sum {t r : Tot} {i n : Int} {path : List Tot} (h : foldR t i n path = (r, 0)) : 0 ≤ t.1 ∧ (∀ p ∈ path, 0 ≤ p.1) ∧ r.1 = t.1 + sumT path ∧ Mny r.1 ∧ path.length ≤ 256 := by
  unfold foldR at h
  split at h
  · injection h with _ h; cases h
  split at h
  · injection h with _ h; cases h
  rename_i hl
  split at h
  · injection h with _ h; cases h
  rename_i hm
  have hl' := Decidable.not_not.1 hl
  obtain ⟨h1, h2, h3⟩ := foldP_sum path _ t r h (by rw [List.length_reverse, hl']; exact Nat.le_refl _) (Decidable.not_not.1 hm)
  exact ⟨(Decidable.not_not.1 hm).1, h1, h2, h3, by rw [hl']; exact wayL_len 256 _ _⟩
theorem sumT_take {ts : List Tot} {k : Nat} (h : k < ts.length) : sumT (ts.take (k + 1)) = sumT (ts.take k) + (ts.getD k noTot).1 := by
  rw [take_next noTot h]
  have : ∀ l : List Tot, ∀ x, sumT (l ++ [x]) = sumT l + x.1 := by
    intro l x
    induction l with
    | nil => simp [sumT]
    | cons y r ih => simp only [List.cons_append, sumT, ih]; omega
  exact this _ _
theorem sumT_le : ∀ (ts : List Tot) (k : Nat), (∀ t ∈ ts, 0 ≤ t.1) → 0 ≤ sumT (ts.take k) ∧ sumT (ts.take k) ≤ sumT ts
  | [], k, _ => by simp [sumT]
  | t :: r, 0, h => by
    have h1 := sumT_le r r.length (fun x hx => h x (List.mem_cons_of_mem _ hx))
    have h2 := h t (List.mem_cons_self ..)
    rw [List.take_length] at h1
    simp only [List.take_zero, sumT]
    omega
  | t :: r, k + 1, h => by
    have h1 := sumT_le r k (fun x hx => h x (List.mem_cons_of_mem _ hx))
    have h2 := h t (List.mem_cons_self ..)
    simp only [List.take_succ_cons, sumT]
    omega

set_option maxHeartbeats 4000000 in
set_option maxRecDepth 100000 in
theorem bounds_any (t : Tot) (ht : Dig t.2) (i n : Int) (path : List Tot) (hp : ∀ x ∈ path, Dig x.2) (A : Option Addr) (m c : Nat) (w : World) (h : TSl w w.heap.size A m path) (hg : RoundsAt w) :
    Calls Tryd.prog 3 #[tV t, .int .i64 i, .int .i64 n, .slice A m c] w (LawPost w) := by
  unfold LawPost
  have hml := FSl.len totE_len (by decide) h
  have HG := aside hg
  have HSl := aside h
  have HT := aside ht
  obtain ⟨r, q, hr⟩ : ∃ r q, foldR t i n path = (r, q) := ⟨_, _, rfl⟩
  have HFd : Hid (∀ w', TSl w' w'.heap.size A m path → RoundsAt w' → Calls Tryd.prog 8 #[.agg (totR t.1 t.2), .int .i64 i, .int .i64 n, .slice A m c] w' (fun e w'' => e = .returned (.tuple #[tV r, errA q]) ∧ Below w'.heap.size w' w'')) := aside (fun w' h1 h2 => by
    have hf := fold_any t ht i n path hp A m c w' h1 h2
    rw [hr] at hf
    exact hf)
  have HDr : Hid (Dig r.2) := aside (by
    have hd := foldR_dig t ht i n path hp
    rw [hr] at hd
    exact hd)
  have HR := aside hr
  have HP := aside hp
  clear h hg ht hp hr
  go_enter Tryd.func3, Tryd.ntmps3
  go_upto_region 1 with fail
  change Code.wp _ _ _ _ (w.alloc (.cells (totR t.1 t.2) 25))
  have T0' : TotAt (w.alloc (.cells (totR t.1 t.2) 25)) w.heap.size t.1 t.2 := TotAt.new w _ _
  have hB1 : Below w.heap.size w (w.alloc (.cells (totR t.1 t.2) 25)) := below_more (Below.refl _ _) _
  generalize (w.alloc (.cells (totR t.1 t.2) 25)) = w1 at T0' hB1 ⊢
  have T0 := aside T0'
  have HB1 := aside hB1
  clear T0' hB1
  obtain ⟨N, hN⟩ : ∃ N, N = w.heap.size := ⟨_, rfl⟩
  have EN := aside hN
  rw [← hN] at T0 ⊢
  clear hN
  go_upto_region 4 with (first
    | (go_at_call 7; refine (audited_any w1 (HG.out.below HB1.out)).mono ?_; rintro e w2 ⟨rfl, hb2⟩; have HB2 : Hid (Below w.heap.size w w2) := aside (HB1.out.trans (hb2.mono HB1.out.size)); have T02 : Hid (TotAt w2 N t.1 t.2) := aside (T0.out.below hb2 T0.out.lt); clear hb2)
    | fail)
  go_upto_region 5 with (first
    | (refine wpList_load_row rfl 25 (.tmp 4) rfl N rfl 25 (totR t.1 t.2) (0, 0) _ T02.out Tryd.underlying25 rfl (totInfo HT.out.1) ?_)
    | (go_at_call 8; refine (HFd.out w2 ((Sl.below HSl.out HB2.out).more HB2.out.size) (HG.out.below HB2.out)).mono ?_; rintro e w3 ⟨rfl, hb3⟩; have HB3 : Hid (Below w.heap.size w w3) := aside (HB2.out.trans (hb3.mono HB2.out.size)); have T03 : Hid (TotAt w3 N t.1 t.2) := aside (T02.out.below hb3 T02.out.lt); have R3 := TotAt.new w3 0 zeroD; clear hb3)
    | (refine wpList_store_row rfl 25 (.tmp 10) (.tmp 23) rfl w3.heap.size (totR r.1 r.2) rfl rfl 25 (totR 0 zeroD) R3 (totInfo HDr.out.1) (tot_same rfl HDr.out.1) (totR_one _ _) ?_)
    | fail)
  have T0' : TotAt ((w3.alloc (.cells (totR 0 zeroD) 25)).setRow w3.heap.size (totR r.1 r.2)) N t.1 t.2 := (T03.out.alloc _).otherRow _ (Nat.ne_of_lt T03.out.lt)
  have T10' : TotAt ((w3.alloc (.cells (totR 0 zeroD) 25)).setRow w3.heap.size (totR r.1 r.2)) w3.heap.size r.1 r.2 := R3.setRow
  have hB4 : Below w.heap.size w ((w3.alloc (.cells (totR 0 zeroD) 25)).setRow w3.heap.size (totR r.1 r.2)) := below_setRow (HB3.out.alloc HB3.out.size _) _ HB3.out.size _
  change Code.wp _ _ _ _ ((w3.alloc (.cells (totR 0 zeroD) 25)).setRow w3.heap.size (totR r.1 r.2))
  clear R3
  generalize ((w3.alloc (.cells (totR 0 zeroD) 25)).setRow w3.heap.size (totR r.1 r.2)) = w4 at T0' T10' hB4 ⊢
  have c0 := T0'.sum
  have c10 := T10'.sum
  have HB4 := aside hB4
  clear T0' T10' hB4 T0 T02 T03 HFd HB1 HB2 HB3
  generalize w3.heap.size = M at c10 ⊢
  by_cases hq : q = 0
  rotate_left
  · rw [show errA q = .iface 40 (.int .i64 q) by unfold errA; rw [if_neg hq]]
    clear hq HR
    go_wp2
    go_ret
    exact ⟨rfl, HB4.out⟩
  subst hq
  rw [show errA 0 = .nilIface from rfl]
  obtain ⟨s1, s2, s3, ⟨s4, s5⟩, s6⟩ := foldR_sum HR.out
  have e1 : (t.1 < 0) = False := by simp only [eq_iff_iff, iff_false]; omega
  have hm256 : m ≤ 256 := by omega
  have HS2 := aside s2
  have HS3 := aside s3
  have HS1 := aside s1
  clear s2 s3 s1 HR s6
  go_upto_region 11 with fail
  go_loopw [12, 13] (fun x12 x13 wr => ∃ (k : Nat) (z : Int), k ≤ m ∧ x12 = .int .i64 z ∧ Hid (z = t.1 + sumT (path.take k)) ∧ x13 = .int .i64 k ∧ wr = w4) (fun _ x13 _ => m - (Go.RowKit.intOf x13).toNat)
  case atStart => exact ⟨0, t.1, by omega, rfl, aside (by simp [sumT]), rfl, rfl⟩
  case round =>
    obtain ⟨k, z, hk, rfl, HZ, rfl, rfl⟩ := hrel
    have hzt := sumT_le path k HS2.out
    have z0 : 0 ≤ z := by rw [HZ.out]; have := HS1.out; omega
    have z1 : z ≤ r.1 := by rw [HZ.out, HS3.out]; omega
    clear hzt
    by_cases k1 : k < m
    · have k1' : (k : Int) < (m : Int) := by omega
      obtain ⟨pb, po, hA, hpb, hpr, hpd⟩ := TSl.at_ HSl.out HP.out k1
      have hpn : 0 ≤ (path.getD k noTot).1 := HS2.out _ (getD_mem (ls := path) (k := k) noTot (by omega))
      have hk0 : wr.cell? ⟨pb, po + k * 33, none⟩ = some (.int .i64 (path.getD k noTot).1) := (HB4.out.cell (p := ⟨pb, po + k * 33, none⟩) hpb).trans (hpr 0 _ rfl)
      have HZ2 : Hid (z + (path.getD k noTot).1 = t.1 + sumT (path.take (k + 1))) := aside (by rw [HZ.out, sumT_take (by omega)]; omega)
      have hz2 := (sumT_le path (k + 1) HS2.out).2
      have z2 : z + (path.getD k noTot).1 ≤ r.1 := by rw [HZ2.out, HS3.out]; omega
      generalize (path.getD k noTot).1 = a at hpn hk0 HZ2 z2
      have e2 : (a < 0) = False := by simp only [eq_iff_iff, iff_false]; omega
      have e3 : IntKind.i64.wrap (z + a) = z + a := by rw [IntKind.wrap_i64]; omega
      have hk00 : (0 : Int) ≤ (k : Int) := by omega
      clear hz2 hpr hpd HZ
      subst hA
      go_wp2_with fail
      exact ⟨⟨k + 1, z + a, by omega, rfl, HZ2, by go_num, trivial⟩, by simp [Go.RowKit.intOf]; omega⟩
    · obtain rfl : k = m := by omega
      have k1' : ((k : Int) < (k : Int)) = False := by simp
      have hz : z = r.1 := by
        rw [HZ.out, HS3.out]
        congr 2
        rw [← hml, List.take_length]
      subst hz
      clear k1 hk z1 HZ
      go_wp2
      go_ret
      exact ⟨rfl, HB4.out⟩
end Go.Proofs.YtkpbhbafapdboaaDoor
