/- What stays where a row of the call's own turns; slices.Clone at bytes; coin.copied: the walks. Conditions: named in each theorem. Bytes that grow, as one value: words. Conditions: named in each theorem. coin.Copy: the walk. Conditions: named in each theorem. -/
import Derived.Test.YtbpabjhcjffkmaaGreatDoorCoinA
import Derived.Test.YtbpabjhcjffkmaaGreatDoorWalE
import Derived.Great.BuildSlice
import Derived.Deep.MidRow
/- What stays where a row of the call's own turns; slices.Clone at bytes; coin.copied: the walks. Conditions: named in each theorem. -/
namespace Go.Proofs.YtbpabjhcjffkmaaGreatDoor
open Go.RowKit Go.ChangeShapes Go.WideShapes Go.ChangeAt

/-- It holds wherever the blocks from N on, but a row's own, are as they are. -/
def Stays (w : World) (N : Nat) (v : Value) (p : World → Prop) : Prop := ∀ w' : World, (∀ b, N ≤ b → v.ownBlock ≠ some b → b < w.heap.size → w'.heap[b]? = w.heap[b]?) → w.heap.size ≤ w'.heap.size → p w'
/-- It holds wherever the blocks from N on are as they are. -/
def Deps (w : World) (N : Nat) (p : World → Prop) : Prop := ∀ w' : World, (∀ b, N ≤ b → b < w.heap.size → w'.heap[b]? = w.heap[b]?) → w.heap.size ≤ w'.heap.size → p w'
theorem Stays.now {w : World} {N : Nat} {v : Value} {p : World → Prop} (h : Stays w N v p) : p w := h w (fun _ _ _ _ => rfl) (Nat.le_refl _)
theorem Stays.deps {w : World} {N : Nat} {v : Value} {p : World → Prop} (h : Stays w N v p) : Deps w N p := fun w' hw' hs' => h w' (fun b hb _ hl => hw' b hb hl) hs'
theorem Deps.now {w : World} {N : Nat} {p : World → Prop} (h : Deps w N p) : p w := h w (fun _ _ _ => rfl) (Nat.le_refl _)
theorem Stays.call {w w2 : World} {N : Nat} {v : Value} {p : World → Prop} (h : Stays w N v p) (hb : Below w.heap.size w w2) : Stays w2 N v p := fun w' hw' hs' =>
 h w' (fun b hb' hne hl => (hw' b hb' hne (Nat.lt_of_lt_of_le hl hb.size)).trans (hb.block b hl)) (Nat.le_trans hb.size hs')
theorem Stays.grown {w w2 : World} {N : Nat} {v v' : Value} {p : World → Prop} (h : Stays w N v p) (hg : w.grownBy w2 v.ownBlock) (ho : v'.ownBlock = v.ownBlock ∨ ∃ k, v'.ownBlock = some k ∧ w.heap.size ≤ k) : Stays w2 N v' p := fun w' hw' hs' =>
 h w' (fun b hb' hne hl => by
  have hne' : v'.ownBlock ≠ some b := by
   rcases ho with ho | ⟨k, ho, hk⟩
   ·rw [ho]; exact hne
   ·rw [ho]; intro e; injection e with e; omega
  exact (hw' b hb' hne' (Nat.lt_of_lt_of_le hl hg.size)).trans (hg.block b hl (fun e => hne e.symm))) (Nat.le_trans hg.size hs')
theorem Deps.stays {w : World} {N M : Nat} {v : Value} {p : World → Prop} (h : Deps w M p) (hN : N ≤ M) (hv : ∀ k, v.ownBlock = some k → k < M) : Stays w N v p := fun w' hw' hs' =>
 h w' (fun b hb hl => hw' b (Nat.le_trans hN hb) (fun e => by have := hv b e; omega) hl) hs'
theorem Deps.less {w : World} {N M : Nat} {p : World → Prop} (h : Deps w N p) (hM : M ≤ N) : Deps w M p := fun w' hw' hs' => h w' (fun b hb hl => hw' b (Nat.le_trans hM hb) hl) hs'
theorem own_deps {w : World} {base : Nat} {e : TypeId} {sz n c : Nat} {A : Option Addr} {xs : List Value} (h : w.ownsRow base e sz (.slice A n c) n xs) : Deps w base (fun x => Sl x x.heap.size sz A n xs) := by
 intro w' hw' hs'
 rcases h.2 with ⟨_, rfl⟩ | ⟨g, cap, cur, hv, hb, hg, hr⟩
 ·exact ⟨h.1, fun hn => absurd hn (Nat.lt_irrefl _)⟩
 ·have hl := (Array.getElem?_eq_some_iff.1 hg).1
  have h' : w'.ownsRow base e sz (.slice A n c) n xs := ⟨h.1, .inr ⟨g, cap, cur, hv, hb, (hw' g hb hl).trans hg, hr⟩⟩
  exact Sl.own h'
theorem one_bytes (bs : List Nat) : ∀ u ∈ bs.flatMap byV, u.oneCell' = true := fun u hu => by
 obtain ⟨x, -, hx⟩ := List.mem_flatMap.1 hu
 simp only [byV, List.mem_cons, List.not_mem_nil, or_false] at hx
 rcases hx with rfl
 rfl
set_option maxRecDepth 100000 in
theorem cloneY_any (bs : List Nat) (A : Option Addr) (n c : Nat) (w : World) (h : YSl w w.heap.size A n bs) (hn : n ≤ 1000000) :
  Calls Tryz.prog 69 #[.slice A n c] w (fun e w' => ∃ A' c', e = .returned (.slice A' n c') ∧ Deps w' w.heap.size (fun x => YSl x x.heap.size A' n bs) ∧ Below w.heap.size w w') := by
 have q22 : ∀ (w : World) (a : Option Addr) (n c n' c' : Nat), (binOp .eql 67 (.slice a n c) (.slice none n' c')).run Tryz.prog w = .ok (.bool a.isNone) w := fun w a n c n' c' => Lib.run_eql_slice_nil w _ _ a n c n' c' Tryz.underlying67
 have hln := YSl.len1 h
 cases A with
 | none =>
  have h0 : n = 0 := by
   rcases Nat.eq_zero_or_pos n with h0 | h0
   ·exact h0
   ·obtain ⟨_, _, e, _⟩ := Sl.cells h h0
    cases e
  subst h0
  have hx : bs = [] := List.eq_nil_of_length_eq_zero hln
  subst hx
  clear h hln
  go_enter Tryz.func69, Tryz.ntmps69
  go_wp2_with fail
  go_ret
  exact ⟨none, 0, rfl, fun _ _ _ => FSl.nil_, Below.refl _ _⟩
 | some ad =>
  have HSl : Hid (FSl byV 1 (w.alloc (.cells #[] 5)) w.heap.size (some ad) n bs) := aside (FSl.below h ((Below.refl _ _).alloc (Nat.le_refl _) _))
  have HO : Hid ((w.alloc (.cells #[] 5)).ownsRow w.heap.size 5 1 (.slice (some ⟨w.heap.size, 0, none⟩) 0 0) 0 []) := aside (World.ownsRow_made (base := w.heap.size) w #[] 0 (Nat.le_refl _) (by decide) rfl)
  have H1 := aside (one_bytes bs)
  clear h hln
  go_enter Tryz.func69, Tryz.ntmps69
  go_wp2_with (first
   | (at_builtin; refine wpList_concat rfl (.tmp 5) (.tmp 6) 67 rfl w.heap.size (.int .u8 0) 1 1 Tryz.underlying67 byteInfo rfl (by decide) _ 0 [] rfl HO.out w.heap.size (some ad) n c _ rfl HSl.out H1.out (by omega) (by unfold maxLen; omega) (by simp) ?_; intro G2 c2 w2 hc2 hc2' hown hb2 _; simp only [Nat.zero_add, List.nil_append] at hown hc2; have HO2 := aside hown; have HB2 : Hid (Below w.heap.size w w2) := aside (((Below.refl _ _).alloc (Nat.le_refl _) _).trans hb2); clear hown hb2)
   | fail)
  go_ret
  exact ⟨G2, c2, rfl, own_deps HO2.out, HB2.out⟩
theorem Deps.keep {w w1 : World} {N : Nat} {p : World → Prop} (h : Deps w N p) (hk : ∀ b, N ≤ b → b < w.heap.size → w1.heap[b]? = w.heap[b]?) (hs : w.heap.size ≤ w1.heap.size) : Deps w1 N p := fun w' hw' hs' =>
 h w' (fun b hb hl => (hw' b hb (Nat.lt_of_lt_of_le hl hs)).trans (hk b hb hl)) (Nat.le_trans hs hs')
theorem infoO : (Tryz.prog.info? 85).map (fun i => (i.zero, i.size, i.bytes)) = some (some (.agg #[.int .i64 0, .int .i64 0, .slice none 0 0]), 3, 40) := by kernel_rfl
set_option maxHeartbeats 20000000 in
set_option maxRecDepth 100000 in
theorem copied_any (rs : List ROp) (A : Option Addr) (n c : Nat) (w : World) (h : RSl w w.heap.size A n rs) (hn : n ≤ 60) (hd : ∀ r ∈ rs, r.dn ≤ 300) :
  Calls Tryz.prog 103 #[.slice A n c] w (fun e w' => ∃ A' c' rs', e = .returned (.slice A' n c') ∧ RDep w' w.heap.size A' n rs' ∧ rs'.map ROp.pl = rs.map ROp.pl ∧ Below w.heap.size w w') := by
 have hl := h.len
 have HL := aside hl
 have H := aside h
 have HD := aside hd
 have HB0 := aside (Below.refl w.heap.size w)
 have HO0 : Hid (w.ownsRow w.heap.size 85 3 (.slice none 0 0) 0 (([] : List ROp).flatMap encR)) := aside ⟨by simp, .inl ⟨rfl, rfl⟩⟩
 have HS0 : Hid (∀ r ∈ ([] : List ROp), Stays w w.heap.size (.slice none 0 0) (fun x => YSl x x.heap.size r.dA r.dn r.data)) := aside (fun r hr => by cases hr)
 have HP0 : Hid (([] : List ROp).map ROp.pl = (rs.take 0).map ROp.pl) := aside rfl
 clear hl h hd
 go_enter Tryz.func103, Tryz.ntmps103
 go_wp2_with fail
 go_loopw [3, 8] (fun v3 v8 wr => ∃ (k : Nat) (qs : List ROp) (A1 : Option Addr) (c1 : Nat), k ≤ n ∧ v8 = .int .i64 k ∧ v3 = .slice A1 k c1 ∧ Hid (wr.ownsRow w.heap.size 85 3 (.slice A1 k c1) k (qs.flatMap encR)) ∧ Hid (∀ r ∈ qs, Stays wr w.heap.size (.slice A1 k c1) (fun x => YSl x x.heap.size r.dA r.dn r.data)) ∧ Hid (qs.map ROp.pl = (rs.take k).map ROp.pl) ∧ Hid (Below w.heap.size w wr)) (fun _ v8 _ => n - (Go.RowKit.intOf v8).toNat)
 case atStart => exact ⟨0, [], none, 0, Nat.zero_le _, rfl, rfl, HO0, HS0, HP0, HB0⟩
 case round =>
  clear HB0 HO0 HS0 HP0
  obtain ⟨k, qs, A1, c1, hk, rfl, rfl, HO, HS, HP, HB⟩ := hrel
  by_cases hkn : k < n
  ·have k0 : (k : Int) < (n : Int) := by omega
   have hwz := HB.out.size
   have R1 := H.out.below HB.out
   obtain ⟨b1, of1, e1, hb1, p0, p1, p2⟩ := R1.at_ hkn
   have hm1 := R1.mem hkn
   have hY1 := Sl.more (R1.data _ hm1) hwz
   have hdn := HD.out _ hm1
   have hn1 := pl_next (rs := rs) (k := k) (by have := HL.out; omega)
   generalize rs.getD k noR = r at *
   have HN1 := aside hn1
   have B2 : Hid (Below wr.heap.size wr (wr.alloc (.cells #[.int .i64 r.op, .int .i64 r.n, .slice r.dA r.dn r.dc] 85))) := aside ((Below.refl _ _).alloc (Nat.le_refl _) _)
   have DX : Hid ((wr.alloc (.cells #[.int .i64 r.op, .int .i64 r.n, .slice r.dA r.dn r.dc] 85)).heap[wr.heap.size]? = some (.cells #[.int .i64 r.op, .int .i64 r.n, .slice r.dA r.dn r.dc] 85 (0, 0))) := aside (heap_alloc_new _ _)
   have HY2 : Hid (YSl (wr.alloc (.cells #[.int .i64 r.op, .int .i64 r.n, .slice r.dA r.dn r.dc] 85)) (wr.alloc (.cells #[.int .i64 r.op, .int .i64 r.n, .slice r.dA r.dn r.dc] 85)).heap.size r.dA r.dn r.data) := aside (Sl.more (Sl.below hY1 B2.out) B2.out.size)
   subst e1
   clear hY1 hn1 hm1 R1 hkn
   go_upto_region 5 with fail
   change Code.wp _ _ _ _ (wr.alloc (.cells #[.int .i64 r.op, .int .i64 r.n, .slice r.dA r.dn r.dc] 85))
   generalize (wr.alloc (.cells #[.int .i64 r.op, .int .i64 r.n, .slice r.dA r.dn r.dc] 85)) = w2 at B2 DX HY2 ⊢
   obtain ⟨bx, hbx⟩ : ∃ bx, bx = wr.heap.size := ⟨_, rfl⟩
   have EBx := aside hbx
   rw [← hbx] at DX ⊢
   clear hbx
   have x2 : w2.cell? ⟨bx, 2, none⟩ = some (.slice r.dA r.dn r.dc) := by rw [cell_of_row _ _ 2 _ _ _ DX.out]; rfl
   have hl2 : bx < w2.heap.size := (Array.getElem?_eq_some_iff.1 DX.out).1
   go_wp2_with fail
   refine (cloneY_any r.data r.dA r.dn r.dc w2 HY2.out (by omega)).mono ?_
   rintro e w3 ⟨A2, c2, rfl, hdep, hb3⟩
   have DX3 := (hb3.block bx hl2).trans DX.out
   have y2 : w3.cell? ⟨bx, 2, none⟩ = some (.slice r.dA r.dn r.dc) := by rw [cell_of_row _ _ 2 _ _ _ DX3]; rfl
   have f2 : w3.frozen? ⟨bx, 2, none⟩ = false := by simp [World.frozen?, DX3]
   have HDx3 := aside DX3
   have HDep := aside hdep
   have HB3 := aside hb3
   clear DX3 hdep hb3 DX x2 p0 p1 p2
   go_upto_region 6 with fail
   have DX4 : Hid ((w3.setCell ⟨bx, 2, none⟩ (.slice A2 r.dn c2)).heap[bx]? = some (.cells #[.int .i64 r.op, .int .i64 r.n, .slice A2 r.dn c2] 85 (0, 0))) := aside (heap_setCell_same w3 bx 2 _ _ _ HDx3.out)
   have HB4 : Hid (Below wr.heap.size wr (w3.setCell ⟨bx, 2, none⟩ (.slice A2 r.dn c2))) := aside ((B2.out.trans (HB3.out.mono B2.out.size)).setCell (p := ⟨bx, 2, none⟩) (by rw [← EBx.out]; exact Nat.le_refl _) _)
   have HDep4 : Hid (Deps (w3.setCell ⟨bx, 2, none⟩ (.slice A2 r.dn c2)) w2.heap.size (fun x => YSl x x.heap.size A2 r.dn r.data)) := aside (HDep.out.keep (fun b hb _ => Below.heap_setCell w3 _ _ b (show b ≠ bx by omega)) (by simp))
   change Code.wp _ _ _ _ (w3.setCell ⟨bx, 2, none⟩ (.slice A2 r.dn c2))
   generalize (w3.setCell ⟨bx, 2, none⟩ (.slice A2 r.dn c2)) = w4 at DX4 HB4 HDep4 ⊢
   clear y2 f2 HDx3 HDep HB3
   have z0 : w4.cell? ⟨bx, 0, none⟩ = some (.int .i64 r.op) := by rw [cell_of_row _ _ 0 _ _ _ DX4.out]; rfl
   have z1 : w4.cell? ⟨bx, 1, none⟩ = some (.int .i64 r.n) := by rw [cell_of_row _ _ 1 _ _ _ DX4.out]; rfl
   have z2 : w4.cell? ⟨bx, 2, none⟩ = some (.slice A2 r.dn c2) := by rw [cell_of_row _ _ 2 _ _ _ DX4.out]; rfl
   have HO4 : Hid (w4.ownsRow w.heap.size 85 3 (.slice A1 k c1) k (qs.flatMap encR)) := aside (own_below HO.out HB4.out)
   have hz4 : w.heap.size ≤ w4.heap.size := Nat.le_trans hwz HB4.out.size
   have HN2 : Hid (Stays w4 w.heap.size (.slice A1 k c1) (fun x => YSl x x.heap.size A2 r.dn r.data)) := aside (HDep4.out.stays (by have := B2.out.size; omega) (fun j hj => by have := own_lt HO.out j hj; have := B2.out.size; omega))
   have HS4 : Hid (∀ r ∈ qs, Stays w4 w.heap.size (.slice A1 k c1) (fun x => YSl x x.heap.size r.dA r.dn r.data)) := aside (fun r hr => (HS.out r hr).call HB4.out)
   have HBw4 : Hid (Below w.heap.size w w4) := aside (HB.out.trans (HB4.out.mono hwz))
   clear HDep4 HS HO HB HB4
   go_wp2_with (first
    | (at_builtin; refine wpList_push rfl (.tmp 16) (.tmp 18) 25 rfl w.heap.size _ 3 40 Tryz.underlying25 infoO rfl (by decide) (.slice A1 k c1) k _ rfl rfl rfl rfl HO4.out (by omega) (by unfold maxLen; omega) hz4 ?_; intro A3 c3 w5 hc3 hc3' hown3 hb5 hz5 hg5)
    | fail)
   have HO5 : Hid (w5.ownsRow w.heap.size 85 3 (.slice A3 (k + 1) c3) (k + 1) ((qs ++ [(⟨r.op, r.n, A2, r.dn, c2, r.data⟩ : ROp)]).flatMap encR)) := aside (by rw [List.flatMap_append]; simpa [encR] using hown3)
   have HS5 : Hid (∀ q ∈ qs ++ [(⟨r.op, r.n, A2, r.dn, c2, r.data⟩ : ROp)], Stays w5 w.heap.size (.slice A3 (k + 1) c3) (fun x => YSl x x.heap.size q.dA q.dn q.data)) := aside (fun q hq => by
    rcases List.mem_append.1 hq with hq | hq
    ·exact (HS4.out q hq).grown hg5.1 hg5.2
    ·obtain rfl := List.mem_singleton.1 hq
     exact HN2.out.grown hg5.1 hg5.2)
   have HP5 : Hid ((qs ++ [(⟨r.op, r.n, A2, r.dn, c2, r.data⟩ : ROp)]).map ROp.pl = (rs.take (k + 1)).map ROp.pl) := aside (by
    rw [List.map_append, HP.out, HN1.out]
    rfl)
   exact ⟨⟨k + 1, _, A3, c3, by omega, by go_num, rfl, HO5, HS5, HP5, aside (HBw4.out.trans hb5)⟩, by simp [Go.RowKit.intOf]; omega⟩
  ·obtain rfl : n = k := by omega
   have i0 : ((n : Int) < (n : Int)) = False := by simp
   clear hkn
   have hpl : qs.map ROp.pl = rs.map ROp.pl := by
    have := HP.out
    rwa [List.take_of_length_le (by have := HL.out; omega)] at this
   have hby : ∀ q ∈ qs, ∀ x ∈ q.data, x < 256 := fun q hq => by
    have h2 : q.pl ∈ rs.map ROp.pl := hpl ▸ List.mem_map_of_mem hq
    obtain ⟨r, hr, e⟩ := List.mem_map.1 h2
    have e3 : q.data = r.data := (Prod.mk.inj (Prod.mk.inj e).2).2.symm
    rw [e3]
    exact H.out.byt r hr
   have HPl := aside hpl
   have HBy := aside hby
   clear hpl hby
   go_wp2
   go_ret
   refine ⟨A1, c1, qs, rfl, fun w' hw' hs' => ⟨own_deps HO.out w' hw' hs', fun q hq => ?_, HBy.out⟩, HPl.out, HB.out⟩
   exact (HS.out q hq).deps w' hw' hs'
end Go.Proofs.YtbpabjhcjffkmaaGreatDoor

/- Bytes that grow, as one value: words. Conditions: named in each theorem. -/
namespace Go.Proofs.YtbpabjhcjffkmaaGreatDoor
open Go.RowKit Go.ChangeShapes Go.WideShapes Go.ChangeAt

/-- Bytes of the call's own, that grow. -/
def BRow (w : World) (base : Nat) (v : Value) (xs : List Nat) : Prop := ∃ A c, v = .slice A xs.length c ∧ YRow w base (.slice A xs.length c) xs.length xs
/-- What the other blocks see of a row that grew. -/
structure Kept (w w' : World) (v v' : Value) : Prop where
 size : w.heap.size ≤ w'.heap.size
 block : ∀ b, b < w.heap.size → v.ownBlock ≠ some b → w'.heap[b]? = w.heap[b]?
 apart : ∀ b, b < w.heap.size → v.ownBlock ≠ some b → v'.ownBlock ≠ some b
theorem Kept.of_grew {w w' : World} {v v' : Value} (h : Grew w w' v v') : Kept w w' v v' := by
 obtain ⟨hg, ho⟩ := h
 refine ⟨hg.size, fun b hb hn => hg.block b hb (fun e => hn e.symm), fun b hb hn => ?_⟩
 rcases ho with ho | ⟨k, ho, hk⟩
 ·rw [ho]; exact hn
 ·rw [ho]
  intro e
  injection e with e
  omega
theorem Kept.refl (w : World) (v : Value) : Kept w w v v := ⟨Nat.le_refl _, fun _ _ _ => rfl, fun _ _ h => h⟩
theorem Kept.call {w w' w'' : World} {v v' : Value} (h : Kept w w' v v') (hb : Below w'.heap.size w' w'') : Kept w w'' v v' := ⟨Nat.le_trans h.size hb.size, fun b h1 h2 => (hb.block b (Nat.lt_of_lt_of_le h1 h.size)).trans (h.block b h1 h2), h.apart⟩
theorem Kept.trans {w w' w'' : World} {v v' v'' : Value} (h : Kept w w' v v') (h' : Kept w' w'' v' v'') : Kept w w'' v v'' :=
 ⟨Nat.le_trans h.size h'.size, fun b h1 h2 => (h'.block b (Nat.lt_of_lt_of_le h1 h.size) (h.apart b h1 h2)).trans (h.block b h1 h2), fun b h1 h2 => h'.apart b (Nat.lt_of_lt_of_le h1 h.size) (h.apart b h1 h2)⟩
theorem BRow.lt {w : World} {base : Nat} {v : Value} {xs : List Nat} (h : BRow w base v xs) : ∀ k, v.ownBlock = some k → k < w.heap.size := by
 obtain ⟨A, c, rfl, h⟩ := h
 exact own_lt h
theorem BRow.from_ {w : World} {base : Nat} {v : Value} {xs : List Nat} (h : BRow w base v xs) : ∀ k, v.ownBlock = some k → base ≤ k := by
 obtain ⟨A, c, rfl, h⟩ := h
 intro k hk
 rcases h.2 with ⟨e, _⟩ | ⟨g, cap, cur, e, hb, _⟩
 ·rw [e] at hk; cases hk
 ·rw [e] at hk
  injection hk with hk
  rw [← hk]
  exact hb
theorem BRow.below {w w' : World} {base : Nat} {v : Value} {xs : List Nat} (h : BRow w base v xs) (hb : Below w.heap.size w w') : BRow w' base v xs := by
 obtain ⟨A, c, e, h⟩ := h
 exact ⟨A, c, e, own_below h hb⟩
theorem BRow.keep {w w' : World} {base : Nat} {v : Value} {xs : List Nat} (h : BRow w base v xs) (hb : ∀ k, v.ownBlock = some k → w'.heap[k]? = w.heap[k]?) : BRow w' base v xs := by
 obtain ⟨A, c, rfl, h1, h2⟩ := h
 refine ⟨A, c, rfl, h1, ?_⟩
 rcases h2 with ⟨e, h0⟩ | ⟨g, cap, cur, e, h3, h4, h5⟩
 ·exact .inl ⟨e, h0⟩
 ·exact .inr ⟨g, cap, cur, e, h3, (hb g (by rw [e]; rfl)).trans h4, h5⟩
theorem BRow.less {w : World} {base base' : Nat} {v : Value} {xs : List Nat} (h : BRow w base v xs) (hb : base' ≤ base) : BRow w base' v xs := by
 obtain ⟨A, c, e, h1, h2⟩ := h
 refine ⟨A, c, e, h1, ?_⟩
 rcases h2 with h2 | ⟨g, cap, cur, e, h3, h4⟩
 ·exact .inl h2
 ·exact .inr ⟨g, cap, cur, e, Nat.le_trans hb h3, h4⟩
theorem BRow.nil (w : World) (base : Nat) : BRow w base (.slice none 0 0) [] := ⟨none, 0, rfl, by simp, .inl ⟨rfl, rfl⟩⟩
theorem BRow.sl {w : World} {base : Nat} {v : Value} {xs : List Nat} (h : BRow w base v xs) : ∃ A c, v = .slice A xs.length c ∧ YSl w w.heap.size A xs.length xs := by
 obtain ⟨A, c, e, h⟩ := h
 exact ⟨A, c, e, Sl.own h⟩
theorem BRow.of {w : World} {base : Nat} {A : Option Addr} {m c : Nat} {xs : List Nat} (h : YRow w base (.slice A m c) m xs) : BRow w base (.slice A m c) xs := by
 have hm : xs.length = m := by
  have := YSl.len1 (Sl.own h)
  exact this
 subst hm
 exact ⟨A, c, rfl, h⟩
theorem BRow.one (w : World) (x : Nat) : BRow (w.alloc (.cells #[.int .u8 (x : Int)] 5)) w.heap.size (.slice (some ⟨w.heap.size, 0, none⟩) 1 1) [x] := BRow.of (row_one w x)
/-- Bytes behind bytes. -/
theorem wpList_bcat {ops : Array Oper} {rest : List Oper} {o : Oper} {a : Act} {Q : Exit → Act → World → Prop} {w : World} (hgd : o.guard = none) (s x : Operand)
  (ho : o.op = .call { callee := .builtin .append, args := #[s, x], argTypes := #[67, 67] }) (base : Nat) {v : Value} {xs : List Nat} (hs : a.eval s = v) (hv : BRow w base v xs)
  {B : Nat} {u : Value} {A : Option Addr} {m c : Nat} {ys : List Nat} (hx : a.eval x = u) (hu : u = .slice A m c) (hy : YSl w B A m ys) (hn : xs.length + ys.length ≤ 1000000) (hbase : base ≤ w.heap.size)
  (h : ∀ v' w', BRow w' base v' (xs ++ ys) → Below base w w' → Kept w w' v v' → wpList Tryz.prog ops Q rest (a.put o.dst v') w') :
  wpList Tryz.prog ops Q (o :: rest) a w := by
 obtain ⟨A1, c1, rfl, hr⟩ := hv
 have hm : ys.length = m := YSl.len1 hy
 subst hu
 refine wpList_concat hgd s x 67 ho base (.int .u8 0) 1 1 Tryz.underlying67 byteInfo rfl (by decide) _ xs.length _ hs hr B A m c _ hx hy (one_bytes ys) (by omega) (by unfold maxLen; omega) hbase ?_
 intro A' c' w' _ _ hown hb hg
 refine h _ w' ?_ hb (Kept.of_grew hg)
 refine ⟨A', c', by rw [List.length_append, hm], ?_⟩
 show w'.ownsRow _ _ _ _ _ _
 rw [List.length_append, hm, List.flatMap_append]
 exact hown
theorem wpList_bcat2 {ops : Array Oper} {rest : List Oper} {o : Oper} {a : Act} {Q : Exit → Act → World → Prop} {w : World} (hgd : o.guard = none) (s x : Operand)
  (ho : o.op = .call { callee := .builtin .append, args := #[s, x], argTypes := #[67, 67] }) (base : Nat) {v : Value} {xs : List Nat} (hs : a.eval s = v) (hv : BRow w base v xs)
  {base2 : Nat} {u : Value} {ys : List Nat} (hx : a.eval x = u) (hu : BRow w base2 u ys) (hn : xs.length + ys.length ≤ 1000000) (hbase : base ≤ w.heap.size)
  (h : ∀ v' w', BRow w' base v' (xs ++ ys) → Below base w w' → Kept w w' v v' → wpList Tryz.prog ops Q rest (a.put o.dst v') w') :
  wpList Tryz.prog ops Q (o :: rest) a w := by
 obtain ⟨A2, c2, e2, hy⟩ := hu.sl
 exact wpList_bcat hgd s x ho base hs hv hx e2 hy hn hbase h
end Go.Proofs.YtbpabjhcjffkmaaGreatDoor

/- coin.Copy: the walk. Conditions: named in each theorem. -/
namespace Go.Proofs.YtbpabjhcjffkmaaGreatDoor
open Go.RowKit Go.ChangeShapes Go.WideShapes Go.ChangeAt

/-- What a coin is, wherever it lies. -/
def RCoin.key (r : RCoin) : List Nat × Int × Int × List POp × Int := (r.tx, r.at_, r.amt, r.pl, r.ht)
theorem infoC : (Tryz.prog.info? 57).map (fun i => (i.zero, i.size, i.bytes)) = some (some (.agg (encC noC).toArray), 36, 80) := by kernel_rfl
theorem fillC : ∀ (l : List Value), l.length = 36 →
  Instr.fill (fun i => some (i * 36, 36)) ((Array.range (1 * 36)).map ((Value.agg (encC noC).toArray).cells[· % (Value.agg (encC noC).toArray).cells.size]!)) [(0, .agg l.toArray)] = some l.toArray
 | a0 :: a1 :: a2 :: a3 :: a4 :: a5 :: a6 :: a7 :: a8 :: a9 :: a10 :: a11 :: a12 :: a13 :: a14 :: a15 :: a16 :: a17 :: a18 :: a19 :: a20 :: a21 :: a22 :: a23 :: a24 :: a25 :: a26 :: a27 :: a28 :: a29 :: a30 :: a31 :: a32 :: a33 :: a34 :: a35 :: [], _ => by kernel_rfl
set_option maxRecDepth 100000 in
theorem wpList_coin {ops : Array Oper} {rest : List Oper} {o : Oper} {a : Act} {w : World} {Q : Exit → Act → World → Prop} (hg : o.guard = none) (x : Operand) (ho : o.op = .buildSlice 24 1 #[(0, x)])
  (l : List Value) (hx : a.eval x = .agg l.toArray) (h1 : l.length = 36)
  (h : wpList Tryz.prog ops Q rest (a.put o.dst (.slice (some ⟨w.heap.size, 0, none⟩) 1 1)) (w.alloc (.cells l.toArray 57))) : wpList Tryz.prog ops Q (o :: rest) a w := by
 obtain ⟨ie, hie, hz, hs⟩ : ∃ ie, Tryz.prog.info? 57 = some ie ∧ ie.zero = some (.agg (encC noC).toArray) ∧ ie.size = 36 := by
  have ht := infoC
  cases hi : Tryz.prog.info? 57 with
  | none => rw [hi] at ht; simp at ht
  | some ie =>
   rw [hi] at ht
   simp only [Option.map_some, Option.some.injEq, Prod.mk.injEq] at ht
   exact ⟨ie, rfl, ht.1, ht.2.1⟩
 refine wpList_buildSlice hg 24 57 1 #[(0, x)] ho l.toArray ie (.agg (encC noC).toArray) Tryz.underlying24 hie hz (by rw [hs]; decide) (by rw [hs]; decide) ?_ h
 rw [hs]
 have hp : ((#[(0, x)] : Array (Nat × Operand)).map fun (i, x) => (i, a.eval x)).toList = [(0, .agg l.toArray)] := by
  simp only [List.map_toArray, List.map_cons, List.map_nil, hx]
 rw [hp]
 exact fillC l h1
theorem encC_lock (r : RCoin) (A : Option Addr) (n c : Nat) (l : List ROp) : (encC r).toArray.setIfInBounds 34 (.slice A n c) = (encC { r with lA := A, ln := n, lc := c, lk := l }).toArray := by
 rw [List.setIfInBounds_toArray]
 congr 1
theorem key_next {cs : List RCoin} {k : Nat} (h : k < cs.length) : (cs.take (k + 1)).map RCoin.key = (cs.take k).map RCoin.key ++ [(cs.getD k noC).key] := by
 rw [take_next noC h, List.map_append]
 try rfl
set_option maxHeartbeats 40000000 in
set_option maxRecDepth 100000 in
theorem copy_any (cs : List RCoin) (A : Option Addr) (n c : Nat) (w : World) (h : CSl w w.heap.size A n cs) (hn : n ≤ 1000) (hk : ∀ r ∈ cs, r.ln ≤ 60 ∧ ∀ o ∈ r.lk, o.dn ≤ 300) :
  Calls Tryz.prog 61 #[.slice A n c] w (fun e w' => ∃ (A' : Option Addr) (c' : Nat) (qs : List RCoin), e = .returned (.slice A' n c') ∧ w'.ownsRow w.heap.size 57 36 (.slice A' n c') n (qs.flatMap encC) ∧ (∀ q ∈ qs, Stays w' w.heap.size (.slice A' n c') (fun x => RSl x x.heap.size q.lA q.ln q.lk)) ∧ qs.map RCoin.key = cs.map RCoin.key ∧ Below w.heap.size w w') := by
 have hl := h.len
 have HL := aside hl
 have H := aside h
 have HK := aside hk
 have HB0 := aside (Below.refl w.heap.size w)
 have HO0 : Hid (w.ownsRow w.heap.size 57 36 (.slice none 0 0) 0 (([] : List RCoin).flatMap encC)) := aside ⟨by simp, .inl ⟨rfl, rfl⟩⟩
 have HS0 : Hid (∀ q ∈ ([] : List RCoin), Stays w w.heap.size (.slice none 0 0) (fun x => RSl x x.heap.size q.lA q.ln q.lk)) := aside (fun r hr => by cases hr)
 have HP0 : Hid (([] : List RCoin).map RCoin.key = (cs.take 0).map RCoin.key) := aside rfl
 clear hl h hk
 go_enter Tryz.func61, Tryz.ntmps61
 go_wp2_with fail
 go_loopw [3, 8] (fun v3 v8 wr => ∃ (k : Nat) (qs : List RCoin) (A1 : Option Addr) (c1 : Nat), k ≤ n ∧ v8 = .int .i64 k ∧ v3 = .slice A1 k c1 ∧ Hid (wr.ownsRow w.heap.size 57 36 (.slice A1 k c1) k (qs.flatMap encC)) ∧ Hid (∀ q ∈ qs, Stays wr w.heap.size (.slice A1 k c1) (fun x => RSl x x.heap.size q.lA q.ln q.lk)) ∧ Hid (qs.map RCoin.key = (cs.take k).map RCoin.key) ∧ Hid (Below w.heap.size w wr)) (fun _ v8 _ => n - (Go.RowKit.intOf v8).toNat)
 case atStart => exact ⟨0, [], none, 0, Nat.zero_le _, rfl, rfl, HO0, HS0, HP0, HB0⟩
 case round =>
  clear HB0 HO0 HS0 HP0
  obtain ⟨k, qs, A1, c1, hk, rfl, rfl, HO, HS, HP, HB⟩ := hrel
  by_cases hkn : k < n
  ·have k0 : (k : Int) < (n : Int) := by omega
   have hwz := HB.out.size
   have hCB := H.out.below HB.out
   obtain ⟨b, of, hAe, hb1, hrg⟩ := hCB.at_ hkn
   have hm := hCB.mem hkn
   have hlk := hCB.lock _ hm
   obtain ⟨hk60, hk300⟩ := HK.out _ hm
   have hnx := key_next (cs := cs) (k := k) (by have := HL.out; omega)
   generalize cs.getD k noC = r at *
   have HRg := aside hrg
   have HLk := aside hlk
   have HNx := aside hnx
   have HK3 := aside hk300
   have HS9 : Hid ((Tryz.prog.info? 57).map (·.size) = some (encC r).toArray.size) := aside (by simp only [List.size_toArray, encC_len]; kernel_rfl)
   have HS8 : Hid ((encC noC).toArray.size = (encC r).toArray.size) := aside (by simp only [List.size_toArray, encC_len])
   have HO1 : Hid ((encC r).toArray.all (·.oneCell') = true) := aside (all_oneCell_toArray (encC_one r))
   have DX : Hid ((wr.alloc (.cells (encC noC).toArray 57)).heap[wr.heap.size]? = some (.cells (encC noC).toArray 57 (0, 0))) := aside (heap_alloc_new _ _)
   have HS1 : Hid ((Tryz.prog.info? 57).map (·.size) = some (encC r).length) := aside (by rw [encC_len]; kernel_rfl)
   subst hAe
   clear hrg hlk hnx hm hCB hkn hk300
   go_upto_region 5 with (first
    | (refine wpList_load_mid rfl 57 (.tmp 10) rfl b (of + k * 36) rfl (encC r) _ HRg.out Tryz.underlying57 rfl HS1.out ?_)
    | (refine wpList_store_row rfl 57 (.tmp 5) (.tmp 11) rfl wr.heap.size (encC r).toArray rfl rfl 57 (encC noC).toArray DX.out HS9.out HS8.out HO1.out ?_)
    | fail)
   have HB2 : Hid (Below wr.heap.size wr ((wr.alloc (.cells (encC noC).toArray 57)).setRow wr.heap.size (encC r).toArray)) := aside (below_setRow ((Below.refl _ _).alloc (Nat.le_refl _) _) _ (Nat.le_refl _) _)
   have DX2 : Hid (((wr.alloc (.cells (encC noC).toArray 57)).setRow wr.heap.size (encC r).toArray).heap[wr.heap.size]? = some (.cells (encC r).toArray 57 (0, 0))) := aside (setRow_heap _ _ _ _ _ _ DX.out)
   change Code.wp _ _ _ _ ((wr.alloc (.cells (encC noC).toArray 57)).setRow wr.heap.size (encC r).toArray)
   generalize ((wr.alloc (.cells (encC noC).toArray 57)).setRow wr.heap.size (encC r).toArray) = w2 at HB2 DX2 ⊢
   obtain ⟨bx, hbx⟩ : ∃ bx, bx = wr.heap.size := ⟨_, rfl⟩
   have EBx := aside hbx
   rw [← hbx] at DX2 ⊢
   have HLk2 : Hid (RSl w2 w2.heap.size r.lA r.ln r.lk) := aside (((HLk.out.more hwz).below HB2.out).more HB2.out.size)
   have hl2 : bx < w2.heap.size := (Array.getElem?_eq_some_iff.1 DX2.out).1
   have x2 : w2.cell? ⟨bx, 34, none⟩ = some (.slice r.lA r.ln r.lc) := by rw [cell_of_row _ _ 34 _ _ _ DX2.out, List.getElem?_toArray]; exact encC_at r 2
   clear hbx DX HS8 HO1 HS9 HS1 HRg HLk
   go_wp2_with fail
   refine (copied_any r.lk r.lA r.ln r.lc w2 HLk2.out hk60 HK3.out).mono ?_
   rintro e w3 ⟨A2, c2, ls, rfl, hdep, hpl, hb3⟩
   have DX3 := (hb3.block bx hl2).trans DX2.out
   have y2 : w3.cell? ⟨bx, 34, none⟩ = some (.slice r.lA r.ln r.lc) := by rw [cell_of_row _ _ 34 _ _ _ DX3, List.getElem?_toArray]; exact encC_at r 2
   have f2 : w3.frozen? ⟨bx, 34, none⟩ = false := by simp [World.frozen?, DX3]
   have HDx3 := aside DX3
   have HDep := aside hdep
   have HPl := aside hpl
   have HB3 := aside hb3
   clear DX3 hdep hb3 DX2 x2 hpl
   go_upto_region 6 with fail
   obtain ⟨q, hq⟩ : ∃ q : RCoin, q = { r with lA := A2, ln := r.ln, lc := c2, lk := ls } := ⟨_, rfl⟩
   have DX4 : Hid ((w3.setCell ⟨bx, 34, none⟩ (.slice A2 r.ln c2)).heap[bx]? = some (.cells (encC q).toArray 57 (0, 0))) := aside (by
    rw [hq, ← encC_lock r A2 r.ln c2 ls]
    exact heap_setCell_same w3 bx 34 _ _ _ HDx3.out)
   have HB4 : Hid (Below wr.heap.size wr (w3.setCell ⟨bx, 34, none⟩ (.slice A2 r.ln c2))) := aside ((HB2.out.trans (HB3.out.mono HB2.out.size)).setCell (p := ⟨bx, 34, none⟩) (by rw [← EBx.out]; exact Nat.le_refl _) _)
   have HDep4 : Hid (Deps (w3.setCell ⟨bx, 34, none⟩ (.slice A2 r.ln c2)) w2.heap.size (fun x => RSl x x.heap.size q.lA q.ln q.lk)) := aside (by
    rw [hq]
    exact Deps.keep (p := fun x => RSl x x.heap.size A2 r.ln ls) HDep.out (fun b hb _ => Below.heap_setCell w3 _ _ b (show b ≠ bx by omega)) (by simp))
   have HKq : Hid (q.key = r.key) := aside (by
    rw [hq]
    unfold RCoin.key RCoin.pl
    rw [HPl.out])
   change Code.wp _ _ _ _ (w3.setCell ⟨bx, 34, none⟩ (.slice A2 r.ln c2))
   generalize (w3.setCell ⟨bx, 34, none⟩ (.slice A2 r.ln c2)) = w4 at DX4 HB4 HDep4 ⊢
   clear y2 f2 HDx3 HDep HB3 hq HPl HLk2 HK3 hk60
   have HS9 : Hid ((Tryz.prog.info? 57).map (·.size) = some (encC q).toArray.size) := aside (by simp only [List.size_toArray, encC_len]; kernel_rfl)
   have HO4 : Hid (w4.ownsRow w.heap.size 57 36 (.slice A1 k c1) k (qs.flatMap encC)) := aside (own_below HO.out HB4.out)
   have hz4 : w.heap.size ≤ w4.heap.size := Nat.le_trans hwz HB4.out.size
   have HN2 : Hid (Stays w4 w.heap.size (.slice A1 k c1) (fun x => RSl x x.heap.size q.lA q.ln q.lk)) := aside (HDep4.out.stays (by have := HB2.out.size; omega) (fun j hj => by have := own_lt HO.out j hj; have := HB2.out.size; omega))
   have HS4 : Hid (∀ q ∈ qs, Stays w4 w.heap.size (.slice A1 k c1) (fun x => RSl x x.heap.size q.lA q.ln q.lk)) := aside (fun r hr => (HS.out r hr).call HB4.out)
   have HBw4 : Hid (Below w.heap.size w w4) := aside (HB.out.trans (HB4.out.mono hwz))
   have HE1 : Hid ((encC q).toArray.toList.all (fun u => u.oneCell') = true) := aside (List.all_eq_true.2 (encC_one q))
   have HE2 : Hid ((encC q).toArray.size = 36) := aside (by simp only [List.size_toArray, encC_len])
   clear HDep4 HS HO HB HB4
   go_wp2_with (first
    | (refine wpList_load_row rfl 57 (.tmp 5) rfl bx rfl 57 (encC q).toArray (0, 0) _ DX4.out Tryz.underlying57 rfl HS9.out ?_)
    | (refine wpList_coin rfl (.tmp 19) rfl (encC q) rfl (encC_len q) ?_)
    | (at_builtin; refine wpList_push rfl (.tmp 18) (.tmp 20) 24 rfl w.heap.size _ 36 80 Tryz.underlying24 infoC (by kernel_rfl) (by decide) (.slice A1 k c1) k _ rfl rfl HE2.out HE1.out HO4.out (by omega) (by unfold maxLen; omega) hz4 ?_; intro A3 c3 w5 hc3 hc3' hown3 hb5 hz5 hg5)
    | fail)
   have HO5 : Hid (w5.ownsRow w.heap.size 57 36 (.slice A3 (k + 1) c3) (k + 1) ((qs ++ [q]).flatMap encC)) := aside (by rw [List.flatMap_append]; simpa using hown3)
   have HS5 : Hid (∀ p ∈ qs ++ [q], Stays w5 w.heap.size (.slice A3 (k + 1) c3) (fun x => RSl x x.heap.size p.lA p.ln p.lk)) := aside (fun p hp => by
    rcases List.mem_append.1 hp with hp | hp
    ·exact (HS4.out p hp).grown hg5.1 hg5.2
    ·obtain rfl := List.mem_singleton.1 hp
     exact HN2.out.grown hg5.1 hg5.2)
   have HP5 : Hid ((qs ++ [q]).map RCoin.key = (cs.take (k + 1)).map RCoin.key) := aside (by
    rw [List.map_append, HP.out, HNx.out, ← HKq.out]
    rfl)
   exact ⟨⟨k + 1, _, A3, c3, by omega, by go_num, rfl, HO5, HS5, HP5, aside (HBw4.out.trans hb5)⟩, by simp [Go.RowKit.intOf]; omega⟩
  ·obtain rfl : n = k := by omega
   have i0 : ((n : Int) < (n : Int)) = False := by simp
   have HPl : Hid (qs.map RCoin.key = cs.map RCoin.key) := aside (by
    have := HP.out
    rwa [List.take_of_length_le (by have := HL.out; omega)] at this)
   clear hkn
   go_wp2
   go_ret
   exact ⟨A1, c1, qs, rfl, HO.out, HS.out, HPl.out, HB.out⟩
end Go.Proofs.YtbpabjhcjffkmaaGreatDoor
