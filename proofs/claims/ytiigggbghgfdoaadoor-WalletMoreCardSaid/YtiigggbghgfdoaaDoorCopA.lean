/- What stays where a row of the call's own turns; slices.Clone at bytes; coin.copied: the walks. Conditions: named in each theorem. -/
import Derived.Test.YtiigggbghgfdoaaDoorCoinA
import Derived.Test.YtiigggbghgfdoaaDoorWalE
namespace Go.Proofs.YtiigggbghgfdoaaDoor
open Go.RowKit Go.ChangeShapes Go.WideShapes Go.ChangeAt

/-- It holds wherever the blocks from N on, but a row's own, are as they are. -/
def Stays (w : World) (N : Nat) (v : Value) (p : World → Prop) : Prop := ∀ w' : World, (∀ b, N ≤ b → v.ownBlock ≠ some b → b < w.heap.size → w'.heap[b]? = w.heap[b]?) → w.heap.size ≤ w'.heap.size → p w'
/-- It holds wherever the blocks from N on are as they are. -/
def Deps (w : World) (N : Nat) (p : World → Prop) : Prop := ∀ w' : World, (∀ b, N ≤ b → b < w.heap.size → w'.heap[b]? = w.heap[b]?) → w.heap.size ≤ w'.heap.size → p w'
theorem Stays.now {w : World} {N : Nat} {v : Value} {p : World → Prop} (h : Stays w N v p) : p w := h w (fun _ _ _ _ => rfl) (Nat.le_refl _)
theorem Stays.deps {w : World} {N : Nat} {v : Value} {p : World → Prop} (h : Stays w N v p) : Deps w N p := fun w' hw' hs' => h w' (fun b hb _ hl => hw' b hb hl) hs'
theorem Deps.now {w : World} {N : Nat} {p : World → Prop} (h : Deps w N p) : p w := h w (fun _ _ _ => rfl) (Nat.le_refl _)
theorem Stays.call {w w2 : World} {N : Nat} {v : Value} {p : World → Prop} (h : Stays w N v p) (hb : Below w.heap.size w w2) : Stays w2 N v p := fun w' hw' hs' =>
  h w' (fun b hb' hne hl => (hw' b hb' hne (Nat.lt_of_lt_of_le hl hb.size)).trans (hb.block b hl)) (Nat.le_trans hb.size hs')
theorem Stays.grown {w w2 : World} {N : Nat} {v v' : Value} {p : World → Prop} (h : Stays w N v p) (hg : w.grownBy w2 v.ownBlock) (ho : v'.ownBlock = v.ownBlock ∨ ∃ k, v'.ownBlock = some k ∧ w.heap.size ≤ k) : Stays w2 N v' p := fun w' hw' hs' =>
  h w' (fun b hb' hne hl => by
    have hne' : v'.ownBlock ≠ some b := by
      rcases ho with ho | ⟨k, ho, hk⟩
      · rw [ho]; exact hne
      · rw [ho]; intro e; injection e with e; omega
    exact (hw' b hb' hne' (Nat.lt_of_lt_of_le hl hg.size)).trans (hg.block b hl (fun e => hne e.symm))) (Nat.le_trans hg.size hs')
theorem Deps.stays {w : World} {N M : Nat} {v : Value} {p : World → Prop} (h : Deps w M p) (hN : N ≤ M) (hv : ∀ k, v.ownBlock = some k → k < M) : Stays w N v p := fun w' hw' hs' =>
  h w' (fun b hb hl => hw' b (Nat.le_trans hN hb) (fun e => by have := hv b e; omega) hl) hs'
theorem Deps.less {w : World} {N M : Nat} {p : World → Prop} (h : Deps w N p) (hM : M ≤ N) : Deps w M p := fun w' hw' hs' => h w' (fun b hb hl => hw' b (Nat.le_trans hM hb) hl) hs'
theorem own_deps {w : World} {base : Nat} {e : TypeId} {sz n c : Nat} {A : Option Addr} {xs : List Value} (h : w.ownsRow base e sz (.slice A n c) n xs) : Deps w base (fun x => Sl x x.heap.size sz A n xs) := by
  intro w' hw' hs'
  rcases h.2 with ⟨_, rfl⟩ | ⟨g, cap, cur, hv, hb, hg, hr⟩
  · exact ⟨h.1, fun hn => absurd hn (Nat.lt_irrefl _)⟩
  · have hl := (Array.getElem?_eq_some_iff.1 hg).1
    have h' : w'.ownsRow base e sz (.slice A n c) n xs := ⟨h.1, .inr ⟨g, cap, cur, hv, hb, (hw' g hb hl).trans hg, hr⟩⟩
    exact Sl.own h'
theorem one_bytes (bs : List Nat) : ∀ u ∈ bs.flatMap byV, u.oneCell' = true := fun u hu => by
  obtain ⟨x, -, hx⟩ := List.mem_flatMap.1 hu
  simp only [byV, List.mem_cons, List.not_mem_nil, or_false] at hx
  rcases hx with rfl
  rfl
set_option maxRecDepth 100000 in
theorem cloneY_any (bs : List Nat) (A : Option Addr) (n c : Nat) (w : World) (h : YSl w w.heap.size A n bs) (hn : n ≤ 1000000) :
    Calls Tryd.prog 59 #[.slice A n c] w (fun e w' => ∃ A' c', e = .returned (.slice A' n c') ∧ Deps w' w.heap.size (fun x => YSl x x.heap.size A' n bs) ∧ Below w.heap.size w w') := by
  have q22 : ∀ (w : World) (a : Option Addr) (n c n' c' : Nat), (binOp .eql 49 (.slice a n c) (.slice none n' c')).run Tryd.prog w = .ok (.bool a.isNone) w := fun w a n c n' c' => Lib.run_eql_slice_nil w _ _ a n c n' c' Tryd.underlying49
  have hln := YSl.len1 h
  cases A with
  | none =>
    have h0 : n = 0 := by
      rcases Nat.eq_zero_or_pos n with h0 | h0
      · exact h0
      · obtain ⟨_, _, e, _⟩ := Sl.cells h h0
        cases e
    subst h0
    have hx : bs = [] := List.eq_nil_of_length_eq_zero hln
    subst hx
    clear h hln
    go_enter Tryd.func59, Tryd.ntmps59
    go_wp2_with fail
    go_ret
    exact ⟨none, 0, rfl, fun _ _ _ => FSl.nil_, Below.refl _ _⟩
  | some ad =>
    have HSl : Hid (FSl byV 1 (w.alloc (.cells #[] 5)) w.heap.size (some ad) n bs) := aside (FSl.below h ((Below.refl _ _).alloc (Nat.le_refl _) _))
    have HO : Hid ((w.alloc (.cells #[] 5)).ownsRow w.heap.size 5 1 (.slice (some ⟨w.heap.size, 0, none⟩) 0 0) 0 []) := aside (World.ownsRow_made (base := w.heap.size) w #[] 0 (Nat.le_refl _) (by decide) rfl)
    have H1 := aside (one_bytes bs)
    clear h hln
    go_enter Tryd.func59, Tryd.ntmps59
    go_wp2_with (first
      | (at_builtin; refine wpList_concat rfl (.tmp 5) (.tmp 6) 49 rfl w.heap.size (.int .u8 0) 1 1 Tryd.underlying49 byteInfo rfl (by decide) _ 0 [] rfl HO.out w.heap.size (some ad) n c _ rfl HSl.out H1.out (by omega) (by unfold maxLen; omega) (by simp) ?_; intro G2 c2 w2 hc2 hc2' hown hb2 _; simp only [Nat.zero_add, List.nil_append] at hown hc2; have HO2 := aside hown; have HB2 : Hid (Below w.heap.size w w2) := aside (((Below.refl _ _).alloc (Nat.le_refl _) _).trans hb2); clear hown hb2)
      | fail)
    go_ret
    exact ⟨G2, c2, rfl, own_deps HO2.out, HB2.out⟩
theorem Deps.keep {w w1 : World} {N : Nat} {p : World → Prop} (h : Deps w N p) (hk : ∀ b, N ≤ b → b < w.heap.size → w1.heap[b]? = w.heap[b]?) (hs : w.heap.size ≤ w1.heap.size) : Deps w1 N p := fun w' hw' hs' =>
  h w' (fun b hb hl => (hw' b hb (Nat.lt_of_lt_of_le hl hs)).trans (hk b hb hl)) (Nat.le_trans hs hs')
theorem infoO : (Tryd.prog.info? 51).map (fun i => (i.zero, i.size, i.bytes)) = some (some (.agg #[.int .i64 0, .int .i64 0, .slice none 0 0]), 3, 40) := by kernel_rfl
set_option maxHeartbeats 20000000 in
set_option maxRecDepth 100000 in
theorem copied_any (rs : List ROp) (A : Option Addr) (n c : Nat) (w : World) (h : RSl w w.heap.size A n rs) (hn : n ≤ 60) (hd : ∀ r ∈ rs, r.dn ≤ 300) :
    Calls Tryd.prog 52 #[.slice A n c] w (fun e w' => ∃ A' c' rs', e = .returned (.slice A' n c') ∧ RDep w' w.heap.size A' n rs' ∧ rs'.map ROp.pl = rs.map ROp.pl ∧ Below w.heap.size w w') := by
  have hl := h.len
  have HL := aside hl
  have H := aside h
  have HD := aside hd
  have HB0 := aside (Below.refl w.heap.size w)
  have HO0 : Hid (w.ownsRow w.heap.size 51 3 (.slice none 0 0) 0 (([] : List ROp).flatMap encR)) := aside ⟨by simp, .inl ⟨rfl, rfl⟩⟩
  have HS0 : Hid (∀ r ∈ ([] : List ROp), Stays w w.heap.size (.slice none 0 0) (fun x => YSl x x.heap.size r.dA r.dn r.data)) := aside (fun r hr => by cases hr)
  have HP0 : Hid (([] : List ROp).map ROp.pl = (rs.take 0).map ROp.pl) := aside rfl
  clear hl h hd
  go_enter Tryd.func52, Tryd.ntmps52
  go_wp2_with fail
  go_loopw [3, 8] (fun v3 v8 wr => ∃ (k : Nat) (qs : List ROp) (A1 : Option Addr) (c1 : Nat), k ≤ n ∧ v8 = .int .i64 k ∧ v3 = .slice A1 k c1 ∧ Hid (wr.ownsRow w.heap.size 51 3 (.slice A1 k c1) k (qs.flatMap encR)) ∧ Hid (∀ r ∈ qs, Stays wr w.heap.size (.slice A1 k c1) (fun x => YSl x x.heap.size r.dA r.dn r.data)) ∧ Hid (qs.map ROp.pl = (rs.take k).map ROp.pl) ∧ Hid (Below w.heap.size w wr)) (fun _ v8 _ => n - (Go.RowKit.intOf v8).toNat)
  case atStart => exact ⟨0, [], none, 0, Nat.zero_le _, rfl, rfl, HO0, HS0, HP0, HB0⟩
  case round =>
    clear HB0 HO0 HS0 HP0
    obtain ⟨k, qs, A1, c1, hk, rfl, rfl, HO, HS, HP, HB⟩ := hrel
    by_cases hkn : k < n
    · have k0 : (k : Int) < (n : Int) := by omega
      have hwz := HB.out.size
      have R1 := H.out.below HB.out
      obtain ⟨b1, of1, e1, hb1, p0, p1, p2⟩ := R1.at_ hkn
      have hm1 := R1.mem hkn
      have hY1 := Sl.more (R1.data _ hm1) hwz
      have hdn := HD.out _ hm1
      have hn1 := pl_next (rs := rs) (k := k) (by have := HL.out; omega)
      generalize rs.getD k noR = r at *
      have HN1 := aside hn1
      have B2 : Hid (Below wr.heap.size wr (wr.alloc (.cells #[.int .i64 r.op, .int .i64 r.n, .slice r.dA r.dn r.dc] 51))) := aside ((Below.refl _ _).alloc (Nat.le_refl _) _)
      have DX : Hid ((wr.alloc (.cells #[.int .i64 r.op, .int .i64 r.n, .slice r.dA r.dn r.dc] 51)).heap[wr.heap.size]? = some (.cells #[.int .i64 r.op, .int .i64 r.n, .slice r.dA r.dn r.dc] 51 (0, 0))) := aside (heap_alloc_new _ _)
      have HY2 : Hid (YSl (wr.alloc (.cells #[.int .i64 r.op, .int .i64 r.n, .slice r.dA r.dn r.dc] 51)) (wr.alloc (.cells #[.int .i64 r.op, .int .i64 r.n, .slice r.dA r.dn r.dc] 51)).heap.size r.dA r.dn r.data) := aside (Sl.more (Sl.below hY1 B2.out) B2.out.size)
      subst e1
      clear hY1 hn1 hm1 R1 hkn
      go_upto_region 5 with fail
      change Code.wp _ _ _ _ (wr.alloc (.cells #[.int .i64 r.op, .int .i64 r.n, .slice r.dA r.dn r.dc] 51))
      generalize (wr.alloc (.cells #[.int .i64 r.op, .int .i64 r.n, .slice r.dA r.dn r.dc] 51)) = w2 at B2 DX HY2 ⊢
      obtain ⟨bx, hbx⟩ : ∃ bx, bx = wr.heap.size := ⟨_, rfl⟩
      have EBx := aside hbx
      rw [← hbx] at DX ⊢
      clear hbx
      have x2 : w2.cell? ⟨bx, 2, none⟩ = some (.slice r.dA r.dn r.dc) := by rw [cell_of_row _ _ 2 _ _ _ DX.out]; rfl
      have hl2 : bx < w2.heap.size := (Array.getElem?_eq_some_iff.1 DX.out).1
      go_wp2_with fail
      refine (cloneY_any r.data r.dA r.dn r.dc w2 HY2.out (by omega)).mono ?_
      rintro e w3 ⟨A2, c2, rfl, hdep, hb3⟩
      have DX3 := (hb3.block bx hl2).trans DX.out
      have y2 : w3.cell? ⟨bx, 2, none⟩ = some (.slice r.dA r.dn r.dc) := by rw [cell_of_row _ _ 2 _ _ _ DX3]; rfl
      have f2 : w3.frozen? ⟨bx, 2, none⟩ = false := by simp [World.frozen?, DX3]
      have HDx3 := aside DX3
      have HDep := aside hdep
      have HB3 := aside hb3
      clear DX3 hdep hb3 DX x2 p0 p1 p2
      go_upto_region 6 with fail
      have DX4 : Hid ((w3.setCell ⟨bx, 2, none⟩ (.slice A2 r.dn c2)).heap[bx]? = some (.cells #[.int .i64 r.op, .int .i64 r.n, .slice A2 r.dn c2] 51 (0, 0))) := aside (heap_setCell_same w3 bx 2 _ _ _ HDx3.out)
      have HB4 : Hid (Below wr.heap.size wr (w3.setCell ⟨bx, 2, none⟩ (.slice A2 r.dn c2))) := aside ((B2.out.trans (HB3.out.mono B2.out.size)).setCell (p := ⟨bx, 2, none⟩) (by rw [← EBx.out]; exact Nat.le_refl _) _)
      have HDep4 : Hid (Deps (w3.setCell ⟨bx, 2, none⟩ (.slice A2 r.dn c2)) w2.heap.size (fun x => YSl x x.heap.size A2 r.dn r.data)) := aside (HDep.out.keep (fun b hb _ => Below.heap_setCell w3 _ _ b (show b ≠ bx by omega)) (by simp))
      change Code.wp _ _ _ _ (w3.setCell ⟨bx, 2, none⟩ (.slice A2 r.dn c2))
      generalize (w3.setCell ⟨bx, 2, none⟩ (.slice A2 r.dn c2)) = w4 at DX4 HB4 HDep4 ⊢
      clear y2 f2 HDx3 HDep HB3
      have z0 : w4.cell? ⟨bx, 0, none⟩ = some (.int .i64 r.op) := by rw [cell_of_row _ _ 0 _ _ _ DX4.out]; rfl
      have z1 : w4.cell? ⟨bx, 1, none⟩ = some (.int .i64 r.n) := by rw [cell_of_row _ _ 1 _ _ _ DX4.out]; rfl
      have z2 : w4.cell? ⟨bx, 2, none⟩ = some (.slice A2 r.dn c2) := by rw [cell_of_row _ _ 2 _ _ _ DX4.out]; rfl
      have HO4 : Hid (w4.ownsRow w.heap.size 51 3 (.slice A1 k c1) k (qs.flatMap encR)) := aside (own_below HO.out HB4.out)
      have hz4 : w.heap.size ≤ w4.heap.size := Nat.le_trans hwz HB4.out.size
      have HN2 : Hid (Stays w4 w.heap.size (.slice A1 k c1) (fun x => YSl x x.heap.size A2 r.dn r.data)) := aside (HDep4.out.stays (by have := B2.out.size; omega) (fun j hj => by have := own_lt HO.out j hj; have := B2.out.size; omega))
      have HS4 : Hid (∀ r ∈ qs, Stays w4 w.heap.size (.slice A1 k c1) (fun x => YSl x x.heap.size r.dA r.dn r.data)) := aside (fun r hr => (HS.out r hr).call HB4.out)
      have HBw4 : Hid (Below w.heap.size w w4) := aside (HB.out.trans (HB4.out.mono hwz))
      clear HDep4 HS HO HB HB4
      go_wp2_with (first
        | (at_builtin; refine wpList_push rfl (.tmp 16) (.tmp 18) 30 rfl w.heap.size _ 3 40 Tryd.underlying30 infoO rfl (by decide) (.slice A1 k c1) k _ rfl rfl rfl rfl HO4.out (by omega) (by unfold maxLen; omega) hz4 ?_; intro A3 c3 w5 hc3 hc3' hown3 hb5 hz5 hg5)
        | fail)
      have HO5 : Hid (w5.ownsRow w.heap.size 51 3 (.slice A3 (k + 1) c3) (k + 1) ((qs ++ [(⟨r.op, r.n, A2, r.dn, c2, r.data⟩ : ROp)]).flatMap encR)) := aside (by rw [List.flatMap_append]; simpa [encR] using hown3)
      have HS5 : Hid (∀ q ∈ qs ++ [(⟨r.op, r.n, A2, r.dn, c2, r.data⟩ : ROp)], Stays w5 w.heap.size (.slice A3 (k + 1) c3) (fun x => YSl x x.heap.size q.dA q.dn q.data)) := aside (fun q hq => by
        rcases List.mem_append.1 hq with hq | hq
        · exact (HS4.out q hq).grown hg5.1 hg5.2
        · obtain rfl := List.mem_singleton.1 hq
          exact HN2.out.grown hg5.1 hg5.2)
      have HP5 : Hid ((qs ++ [(⟨r.op, r.n, A2, r.dn, c2, r.data⟩ : ROp)]).map ROp.pl = (rs.take (k + 1)).map ROp.pl) := aside (by
        rw [List.map_append, HP.out, HN1.out]
        rfl)
      exact ⟨⟨k + 1, _, A3, c3, by omega, by go_num, rfl, HO5, HS5, HP5, aside (HBw4.out.trans hb5)⟩, by simp [Go.RowKit.intOf]; omega⟩
    · obtain rfl : n = k := by omega
      have i0 : ((n : Int) < (n : Int)) = False := by simp
      clear hkn
      have hpl : qs.map ROp.pl = rs.map ROp.pl := by
        have := HP.out
        rwa [List.take_of_length_le (by have := HL.out; omega)] at this
      have hby : ∀ q ∈ qs, ∀ x ∈ q.data, x < 256 := fun q hq => by
        have h2 : q.pl ∈ rs.map ROp.pl := hpl ▸ List.mem_map_of_mem hq
        obtain ⟨r, hr, e⟩ := List.mem_map.1 h2
        have e3 : q.data = r.data := (Prod.mk.inj (Prod.mk.inj e).2).2.symm
        rw [e3]
        exact H.out.byt r hr
      have HPl := aside hpl
      have HBy := aside hby
      clear hpl hby
      go_wp2
      go_ret
      refine ⟨A1, c1, qs, rfl, fun w' hw' hs' => ⟨own_deps HO.out w' hw' hs', fun q hq => ?_, HBy.out⟩, HPl.out, HB.out⟩
      exact (HS.out q hq).deps w' hw' hs'
end Go.Proofs.YtiigggbghgfdoaaDoor
