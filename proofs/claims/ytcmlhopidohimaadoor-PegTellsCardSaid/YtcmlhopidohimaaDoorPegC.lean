/- One taken out: slices.Delete at piles: the walk. Conditions: named in each theorem. -/
import Derived.Test.YtcmlhopidohimaaDoorPegB
namespace Go.Proofs.YtcmlhopidohimaaDoor
open Go.RowKit Go.ChangeShapes Go.WideShapes Go.ChangeAt

theorem run_append_sz {P : Program} (w : World) (t ty elem : TypeId) (sz : Nat) (g o n cap : Nat) (a : Addr) (m c : Nat) (cur : List Value) (tt : TypeId) (cs : List Value)
    (hu : P.underlying t = some (.slice elem)) (hs : (P.info? elem).map (·.size) = some sz)
    (hg : w.heap[g]? = some (.cells cur.toArray tt (0, 0))) (hn : cs.length = m * sz)
    (hsrc : ∀ j v, cs[j]? = some v → w.cell? (a.add j) = some v) (hroom : n + m ≤ cap) (hfit : o + n * sz + cs.length ≤ cur.length) (h1 : ∀ v ∈ cs, v.oneCell' = true) :
    (Builtin.append_ #[t, t] ty #[.slice (some ⟨g, o, none⟩) n cap, .slice (some a) m c]).run P w = .ok (.slice (some ⟨g, o, none⟩) (n + m) cap) (w.setRow g (splice cur (o + n * sz) cs).toArray) := by
  have hst := run_storeCells_at P g (o + n * sz) tt cs 0 cur.toArray w hg (by simpa using hfit) h1
  cases hq : P.info? elem with
  | none => simp [hq] at hs
  | some i =>
    have hi : i.size = sz := by simpa [hq] using hs
    have hfc := run_firstCells_some (P := P) w sz m a m c cs hn hsrc
    simp [Builtin.append_, run_underlying hu, sizeOf, typeInfo, hq, hi, Builtin.lenOf, hroom, hfc, Addr.add_lit, hst, splice]
theorem step_append_sz {P : Program} {ops : Array Oper} {o : Oper} {a : Act} {w : World} {K : Act → World → Prop} {Q : Exit → Act → World → Prop} {E : Prop} (hgd : o.guard = none) (d s : Operand) (t : TypeId)
    (ho : o.op = .call { callee := .builtin .append, args := #[d, s], argTypes := #[t, t] }) (elem : TypeId) (sz : Nat) (hu : P.underlying t = some (.slice elem)) (hsz : (P.info? elem).map (·.size) = some sz)
    (g off n cap : Nat) (ad : Addr) (m c : Nat) (hd : a.eval d = .slice (some ⟨g, off, none⟩) n cap) (hs : a.eval s = .slice (some ad) m c)
    (cur : List Value) (tt : TypeId) (hg : w.heap[g]? = some (.cells cur.toArray tt (0, 0))) (cs : List Value) (hn : cs.length = m * sz)
    (hsrc : ∀ j v, cs[j]? = some v → w.cell? (ad.add j) = some v) (hroom : n + m ≤ cap) (hfit : off + n * sz + cs.length ≤ cur.length) (h1 : ∀ v ∈ cs, v.oneCell' = true)
    (h : K (a.put o.dst (.slice (some ⟨g, off, none⟩) (n + m) cap)) (w.setRow g (splice cur (off + n * sz) cs).toArray)) : if Region.wanted o (yielded ops a.tmps) = true then Oper.wp P o a w K Q else E := by
  have hw : Region.wanted o (yielded ops a.tmps) = true := by simp [Region.wanted, hgd]
  rw [if_pos hw]
  have hrun := run_append_sz (P := P) w t o.type elem sz g off n cap ad m c cur tt cs hu hsz hg hn hsrc hroom hfit h1
  unfold Oper.wp
  simp [execOp, ho, resolve, invoke, builtin, hd, hs, hrun, Result.andThen]
  exact h
/-- One struct's cells made zero. -/
theorem run_clear_sz {P : Program} (w : World) (t ty e : TypeId) (z : Value) (zs : List Value) (hu : P.underlying t = some (.slice e)) (hz : ∀ w, (zeroValue e).run P w = .ok z w) (hzs : (Builtin.zeroCells z.cells 1).toList = zs)
    (g o c : Nat) (cur : List Value) (tt : TypeId) (hg : w.heap[g]? = some (.cells cur.toArray tt (0, 0))) (hfit : o + zs.length ≤ cur.length) (h1 : ∀ v ∈ zs, v.oneCell' = true) :
    (Builtin.clear_ #[t] ty #[.slice (some ⟨g, o, none⟩) 1 c]).run P w = .ok (.tuple #[]) (w.setRow g (splice cur o zs).toArray) := by
  have hst := run_storeCells_at P g o tt zs 0 cur.toArray w hg (by simpa using hfit) h1
  simp [Builtin.clear_, run_underlying hu, hz, hzs, hst, splice]
/-- What was shifted down by one, the last made zero. -/
theorem shift_down {cur a x b z : List Value} {i n s : Nat} (hcur : cur.take ((n + 1) * s) = a ++ x ++ b) (ha : a.length = i * s) (hx : x.length = s) (hb : b.length = (n - i) * s) (hz : z.length = s) (hi : i ≤ n) (hl : (n + 1) * s ≤ cur.length) :
    (splice (splice cur (i * s) b) (n * s) z).take (n * s) = a ++ b := by
  have e2 : (n + 1) * s = n * s + s := Nat.succ_mul n s
  have e3 : (n - i) * s + i * s = n * s := by rw [← Nat.add_mul, Nat.sub_add_cancel hi]
  have ht : cur.take (i * s) = a := by
    have h := congrArg (List.take (i * s)) hcur
    rw [List.take_take, Nat.min_eq_left (by omega), List.append_assoc, List.take_left' ha] at h
    exact h
  have hs1 := splice_take (cur := cur) (off := i * s) (cs := b) (by omega)
  rw [ht, show i * s + b.length = n * s by omega] at hs1
  have hlen : (splice cur (i * s) b).length = cur.length := length_splice _ _ _ (by omega)
  unfold splice at hs1 hlen ⊢
  generalize cur.take (i * s) ++ (b ++ cur.drop (i * s + b.length)) = c1 at hs1 hlen
  rw [List.take_append_of_le_length (by rw [List.length_take]; omega), List.take_take, Nat.min_self]
  exact hs1

set_option maxHeartbeats 2000000 in
set_option maxRecDepth 100000 in
theorem deleteP_any (ps : List (Int × Int)) (i n : Nat) (hi : i ≤ n) (A : Option Addr) (c base : Nat) (w : World) (hown : OwnP w base (.slice A (n + 1) c) (n + 1) ps) (hn : n ≤ 1000) (_hbase : base ≤ w.heap.size) :
    Calls Tryd.prog 48 #[.slice A (n + 1) c, .int .i64 i, .int .i64 ((i + 1 : Nat) : Int)] w (fun e w' => ∃ A' c', e = .returned (.slice A' n c') ∧ OwnP w' base (.slice A' n c') n (ps.take i ++ ps.drop (i + 1)) ∧ Below base w w' ∧ Grew w w' (.slice A (n + 1) c) (.slice A' n c')) := by
  have hln : ps.length = n + 1 := by
    have := hown.1
    rw [flat_len encP_len] at this
    omega
  obtain ⟨g, cur, rfl, hbg, hg, hnc, hcm, hcl, hct⟩ := own_open hown (.inl (by omega))
  have hgl := (Array.getElem?_eq_some_iff.1 hg).1
  obtain ⟨x, hx⟩ : ∃ x, ps[i]? = some x := ⟨_, List.getElem?_eq_getElem (by omega)⟩
  have hdr : ps.drop i = x :: ps.drop (i + 1) := by
    rw [List.drop_eq_getElem_cons (by omega)]
    rw [List.getElem?_eq_getElem (by omega)] at hx
    injection hx with hx
    rw [hx]
  have hsplit : ps.flatMap encP = (ps.take i).flatMap encP ++ encP x ++ (ps.drop (i + 1)).flatMap encP := by
    rw [List.append_assoc, ← List.flatMap_cons, ← hdr, ← List.flatMap_append, List.take_append_drop]
  have hla : ((ps.take i).flatMap encP).length = i * 2 := by rw [flat_len encP_len, List.length_take]; omega
  have hlb : ((ps.drop (i + 1)).flatMap encP).length = (n - i) * 2 := by rw [flat_len encP_len, List.length_drop, hln]; omega
  have hcells : ∀ (j : Nat) (u : Value), cur[j]? = some u → w.cell? ⟨g, j, none⟩ = some u := fun j u hu => by simpa [World.cell?, hg] using hu
  rw [hsplit] at hct
  have hob : ∀ (j : Nat) (u : Value), ((ps.drop (i + 1)).flatMap encP)[j]? = some u → cur[(i + 1) * 2 + j]? = some u := by
    intro j u hu
    have hj := (List.getElem?_eq_some_iff.1 hu).1
    have h := congrArg (·[(i + 1) * 2 + j]?) hct
    simp only [List.getElem?_take] at h
    rw [if_pos (by omega), List.getElem?_append_right (by rw [List.length_append, hla, encP_len]; omega), List.length_append, hla, encP_len, show (i + 1) * 2 + j - (i * 2 + 2) = j by omega, hu] at h
    exact h
  have hsrc : ∀ (j : Nat) (u : Value), ((ps.drop (i + 1)).flatMap encP)[j]? = some u → w.drew.cell? ((⟨g, (i + 1) * 2, none⟩ : Addr).add j) = some u := by
    intro j u hu
    rw [add_plain]
    exact hcells _ _ (hob j u hu)
  have hz : ∀ w, (zeroValue 46).run Tryd.prog w = .ok (.agg #[.int .i64 0, .int .i64 0]) w := fun w => by kernel_rfl
  have hzs : (Builtin.zeroCells (Value.agg #[.int .i64 0, .int .i64 0]).cells 1).toList = [Value.int .i64 0, .int .i64 0] := by kernel_rfl
  have hf1 : 0 + i * 2 + ((ps.drop (i + 1)).flatMap encP).length ≤ cur.length := by rw [hlb, hcl]; omega
  have hl1 : (splice cur (0 + i * 2) ((ps.drop (i + 1)).flatMap encP)).length = cur.length := length_splice _ _ _ hf1
  have hf2 : n * 2 + [Value.int .i64 0, .int .i64 0].length ≤ (splice cur (0 + i * 2) ((ps.drop (i + 1)).flatMap encP)).length := by rw [hl1, hcl]; simp; omega
  have hsh : (splice (splice cur (0 + i * 2) ((ps.drop (i + 1)).flatMap encP)) (n * 2) [Value.int .i64 0, .int .i64 0]).take (n * 2) = (ps.take i).flatMap encP ++ (ps.drop (i + 1)).flatMap encP := by
    rw [Nat.zero_add]
    exact shift_down (s := 2) hct hla (encP_len x) hlb rfl hi (by rw [hcl]; omega)
  have hHc : ∀ d s : Operand, True := fun _ _ => trivial
  have HC1 : Hid (∀ (o : Oper) (ops : Array Oper) (a : Act) (K : Act → World → Prop) (Q : Exit → Act → World → Prop) (E : Prop) (d s : Operand) (c' : Nat) (ad : Addr), (ad = ⟨g, (i + 1) * 2, none⟩ ∨ n = i) → o.guard = none → o.op = .call { callee := .builtin .append, args := #[d, s], argTypes := #[22, 22] } →
      a.eval d = .slice (some ⟨g, 0, none⟩) i c → a.eval s = .slice (some ad) (n - i) c' →
      K (a.put o.dst (.slice (some ⟨g, 0, none⟩) n c)) (w.drew.setRow g (splice cur (0 + i * 2) ((ps.drop (i + 1)).flatMap encP)).toArray) → if Region.wanted o (yielded ops a.tmps) = true then Oper.wp Tryd.prog o a w.drew K Q else E) :=
    aside (fun o ops a K Q E d s c' ad had h1 h2 h3 h4 h5 => step_append_sz h1 d s 22 h2 46 2 Tryd.underlying22 sizeP g 0 i c ad (n - i) c' h3 h4 cur 46 hg ((ps.drop (i + 1)).flatMap encP) hlb (fun j u hu => by
      rcases had with rfl | had
      · exact hsrc j u hu
      · have h8 := (List.getElem?_eq_some_iff.1 hu).1
        omega) (by omega) hf1 (oneP (ps.drop (i + 1))) (by rw [show i + (n - i) = n by omega]; exact h5))
  have hg1 := setRow_heap w.drew g _ (splice cur (0 + i * 2) ((ps.drop (i + 1)).flatMap encP)).toArray _ _ hg
  have hg2 := setRow_heap _ g _ (splice (splice cur (0 + i * 2) ((ps.drop (i + 1)).flatMap encP)) (n * 2) [Value.int .i64 0, .int .i64 0]).toArray _ _ hg1
  have HRun : ∀ ty c', (Builtin.clear_ #[22] ty #[.slice (some ⟨g, n * 2, none⟩) 1 c']).run Tryd.prog (w.drew.setRow g (splice cur (0 + i * 2) ((ps.drop (i + 1)).flatMap encP)).toArray) = .ok (.tuple #[]) ((w.drew.setRow g (splice cur (0 + i * 2) ((ps.drop (i + 1)).flatMap encP)).toArray).setRow g (splice (splice cur (0 + i * 2) ((ps.drop (i + 1)).flatMap encP)) (n * 2) [Value.int .i64 0, .int .i64 0]).toArray) :=
    fun ty c' => run_clear_sz _ _ ty _ _ _ Tryd.underlying22 hz hzs g (n * 2) c' _ _ hg1 hf2 (by simp [Value.oneCell'])
  have HB : Hid (Below base w ((w.drew.setRow g (splice cur (0 + i * 2) ((ps.drop (i + 1)).flatMap encP)).toArray).setRow g (splice (splice cur (0 + i * 2) ((ps.drop (i + 1)).flatMap encP)) (n * 2) [Value.int .i64 0, .int .i64 0]).toArray)) := aside (below_setRow (below_setRow (below_drawn (Below.refl _ _) 1) hbg _) hbg _)
  have HGr : Hid (Grew w ((w.drew.setRow g (splice cur (0 + i * 2) ((ps.drop (i + 1)).flatMap encP)).toArray).setRow g (splice (splice cur (0 + i * 2) ((ps.drop (i + 1)).flatMap encP)) (n * 2) [Value.int .i64 0, .int .i64 0]).toArray) (.slice (some ⟨g, 0, none⟩) (n + 1) c) (.slice (some ⟨g, 0, none⟩) n c)) :=
    aside ⟨grown_trans (w1 := w.drew.setRow g _) ⟨rfl, rfl, rfl, by simp [World.setRow], fun k _ hk => setRow_other w.drew g k _ (fun e => hk (by rw [e]; rfl))⟩ (grown_row g _), .inl rfl⟩
  have HOw : Hid (OwnP ((w.drew.setRow g (splice cur (0 + i * 2) ((ps.drop (i + 1)).flatMap encP)).toArray).setRow g (splice (splice cur (0 + i * 2) ((ps.drop (i + 1)).flatMap encP)) (n * 2) [Value.int .i64 0, .int .i64 0]).toArray) base (.slice (some ⟨g, 0, none⟩) n c) n (ps.take i ++ ps.drop (i + 1))) :=
    aside (own_shut hbg hg2 (by omega) hcm (by rw [length_splice _ _ _ hf2, hl1, hcl]) (hsh.trans (by rw [List.flatMap_append])))
  generalize splice (splice cur (0 + i * 2) ((ps.drop (i + 1)).flatMap encP)) (n * 2) [Value.int .i64 0, .int .i64 0] = R2 at HB HGr HOw HRun
  generalize splice cur (0 + i * 2) ((ps.drop (i + 1)).flatMap encP) = R1 at HC1 HB HGr HOw HRun
  unfold maxLen at hcm
  obtain ⟨m, hm⟩ : ∃ m, m = n + 1 := ⟨_, rfl⟩
  clear hown hsplit hcells hob hln hx hdr hla hlb hct hcl hsrc hz hzs hf1 hl1 hf2 hsh hg1 hg2 hg hgl hHc
  have e1 : ((i : Int) == ((i + 1 : Nat) : Int)) = false := by simp only [beq_eq_false_iff_ne, ne_eq]; omega
  have hb1 : (0 : Int) ≤ (i : Int) + 1 := by omega
  have hin : i ≤ n := hi
  have hic : i ≤ c := by omega
  have hn1 : n ≤ c := by omega
  have hcn : ¬ c = n := by omega
  have s1 : n + 1 - n = 1 := by omega
  by_cases hci : c = i + 1
  · have had : n = i := by omega
    have hcp : (c = i + 1) = True := eq_true hci
    have HAd := aside had
    clear hci had
    go_enter Tryd.func48, Tryd.ntmps48
    go_wp2_with fail
    go_region_law (refine HC1.out _ _ _ _ _ _ (.tmp 22) (.tmp 25) (c - (i + 1)) ⟨g, 0, none⟩ (.inr HAd.out) rfl rfl (by simp [Act.eval, Act.put]) (by simp [Act.eval, Act.put]) ?_)
    go_wp2_with (simp only [HRun])
    go_ret
    exact ⟨_, _, rfl, HOw.out, HB.out, HGr.out⟩
  · have hcp : (c = i + 1) = False := eq_false hci
    clear hci
    go_enter Tryd.func48, Tryd.ntmps48
    go_wp2_with fail
    go_region_law (refine HC1.out _ _ _ _ _ _ (.tmp 22) (.tmp 25) (c - (i + 1)) ⟨g, (i + 1) * 2, none⟩ (.inl rfl) rfl rfl (by simp [Act.eval, Act.put]) (by simp [Act.eval, Act.put]) ?_)
    go_wp2_with (simp only [HRun])
    go_ret
    exact ⟨_, _, rfl, HOw.out, HB.out, HGr.out⟩
end Go.Proofs.YtcmlhopidohimaaDoor
