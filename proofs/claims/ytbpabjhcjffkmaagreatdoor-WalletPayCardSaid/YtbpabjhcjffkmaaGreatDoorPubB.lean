/- sha.Of and key.Step: the walks. Conditions: named in each theorem. key.Step: the walk. Conditions: named in each theorem. mac.Key, the secrets of a key. Conditions: named in each theorem. key.ends and key.Public: the walks. Conditions: named in each theorem. key.Public: the walk. Conditions: named in each theorem. -/
import Derived.Test.YtbpabjhcjffkmaaGreatDoorMacB
import Derived.Deep.MidRow
import Derived.Great.BuildSlice
/- sha.Of and key.Step: the walks. Conditions: named in each theorem. -/
namespace Go.Proofs.YtbpabjhcjffkmaaGreatDoor
open Go.RowKit Go.ChangeShapes Go.WideShapes Go.ChangeAt

/-- A digest's cells. -/
def digC (d : List Nat) : List Value := (List.range 32).map fun j => .int .u8 ((d.getD j 0 : Nat) : Int)
theorem digC_len (d : List Nat) : (digC d).length = 32 := by simp [digC]
theorem digC_row {d : List Nat} (h : d.length = 32) : (digC d).toArray = rowY d := by
 refine Array.ext (by rw [rowY_size]; simp [digC_len, h]) fun i h1 h2 => ?_
 have hi : i < d.length := by rw [rowY_size] at h2; exact h2
 have e := rowY_get hi
 rw [Array.getElem?_eq_getElem h2] at e
 injection e with e
 rw [e]
 simp [digC]
theorem digC_one (d : List Nat) : ∀ u ∈ digC d, u.oneCell' = true := fun u hu => by
 obtain ⟨j, _, rfl⟩ := List.mem_map.1 hu
 rfl
/-- A slice of digests. -/
abbrev GSl (w : World) (B : Nat) (A : Option Addr) (n : Nat) (ds : List (List Nat)) : Prop := FSl digC 32 w B A n ds
theorem GSl.range {w : World} {B n : Nat} {A : Option Addr} {ds : List (List Nat)} (h : GSl w B A n ds) {k : Nat} (hk : k < n) :
  ∃ b off, A = some ⟨b, off, none⟩ ∧ b < B ∧ w.rangeAt b (off + k * 32) (digC (ds.getD k [])) := by
 obtain ⟨b, off, e, hb, hc⟩ := FSl.at_ digC_len (by decide) [] h hk
 exact ⟨b, off, e, hb, hc⟩
/-- The digest of a first byte and of digests. -/
def ofL (t : Nat) (ds : List (List Nat)) : List Nat := shaL (t :: ds.flatMap id)
theorem ofL_len (t : Nat) (ds : List (List Nat)) : (ofL t ds).length = 32 := shaL_len _
theorem ofL_small (t : Nat) (ds : List (List Nat)) : ∀ x ∈ ofL t ds, x < 256 := shaL_small _
theorem dig_flat_len {ds : List (List Nat)} (h : ∀ d ∈ ds, d.length = 32) : (ds.flatMap id).length = ds.length * 32 := by
 induction ds with
 | nil => rfl
 | cons d r ih =>
  rw [List.flatMap_cons, List.length_append, ih fun x hx => h x (by simp [hx]), List.length_cons, id, h d (by simp)]
  omega
theorem take_dig {ds : List (List Nat)} {k : Nat} (h : k < ds.length) : (ds.take (k + 1)).flatMap id = (ds.take k).flatMap id ++ ds.getD k [] := by
 rw [List.take_add_one, List.getElem?_eq_getElem h, List.flatMap_append, List.getD_eq_getElem?_getD, List.getElem?_eq_getElem h]
 simp
theorem getD_dig {ds : List (List Nat)} {k : Nat} (h : k < ds.length) : ds.getD k [] ∈ ds := by
 rw [List.getD_eq_getElem?_getD, List.getElem?_eq_getElem h]
 exact List.getElem_mem h
set_option maxHeartbeats 20000000 in
set_option maxRecDepth 100000 in
theorem of_any (t : Nat) (ht : t < 256) (ds : List (List Nat)) (hd : ∀ d ∈ ds, d.length = 32 ∧ ∀ x ∈ d, x < 256) (A : Option Addr) (n c : Nat) (hn : n ≤ 100) (w : World) (h : GSl w w.heap.size A n ds) (hg : RoundsAt w) :
  Calls Tryz.prog 88 #[.int .u8 (t : Int), .slice A n c] w (fun e w' => e = .returned (digV (ofL t ds)) ∧ Below w.heap.size w w') := by
 have hln := FSl.len digC_len (by decide) h
 have hr : 1 < w.heap.size := by
  obtain ⟨T, fr, -, h2⟩ := hg
  exact h2
 have HD := aside hd
 have HLn := aside hln
 have H := aside h
 have HG := aside hg
 have B1 : Hid (Below w.heap.size w ((w.alloc (.cells (rowY (List.replicate 32 0)) 23)).alloc (.cells #[.int .u8 (t : Int)] 5))) := aside (((Below.refl _ _).alloc (Nat.le_refl _) _).alloc (by simp) _)
 have D0 : Hid (BlkY ((w.alloc (.cells (rowY (List.replicate 32 0)) 23)).alloc (.cells #[.int .u8 (t : Int)] 5)) w.heap.size 23 (List.replicate 32 0)) := aside ((BlkY.new w _ _).alloc _)
 have Z1 : Hid (((w.alloc (.cells (rowY (List.replicate 32 0)) 23)).alloc (.cells #[.int .u8 (t : Int)] 5)).heap.size = w.heap.size + 2) := aside (by simp)
 have HO : Hid (YRow ((w.alloc (.cells (rowY (List.replicate 32 0)) 23)).alloc (.cells #[.int .u8 (t : Int)] 5)) (w.heap.size + 1) (.slice (some ⟨w.heap.size + 1, 0, none⟩) 1 1) 1 (t :: (ds.take 0).flatMap id)) := aside (by
  have h : (w.alloc (.cells (rowY (List.replicate 32 0)) 23)).heap.size = w.heap.size + 1 := by simp
  refine ⟨rfl, .inr ⟨w.heap.size + 1, 1, #[.int .u8 (t : Int)], rfl, Nat.le_refl _, ?_, Nat.le_refl _, by decide, rfl, rfl⟩⟩
  have h2 := heap_alloc_new (w.alloc (.cells (rowY (List.replicate 32 0)) 23)) (.cells #[.int .u8 (t : Int)] 5)
  rwa [h] at h2)
 clear h hd hln hg
 go_enter Tryz.func88, Tryz.ntmps88
 go_wp2_with fail
 change Code.wp _ _ _ _ ((w.alloc (.cells (rowY (List.replicate 32 0)) 23)).alloc (.cells #[.int .u8 (t : Int)] 5))
 generalize ((w.alloc (.cells (rowY (List.replicate 32 0)) 23)).alloc (.cells #[.int .u8 (t : Int)] 5)) = w1 at B1 D0 Z1 HO ⊢
 obtain ⟨B0, hB0⟩ : ∃ B0, B0 = w.heap.size := ⟨_, rfl⟩
 have EB := aside hB0
 simp only [← hB0] at D0 Z1 HO ⊢
 rw [← hB0] at hr
 clear hB0
 go_loopw [5, 12] (fun v5 v12 wr => ∃ (i m : Nat) (A1 : Option Addr) (c1 : Nat), i ≤ n ∧ m = 1 + 32 * i ∧ v12 = .int .i64 i ∧ v5 = .slice A1 m c1 ∧ B0 + 2 ≤ wr.heap.size ∧ Hid (YRow wr (B0 + 1) (.slice A1 m c1) m (t :: (ds.take i).flatMap id)) ∧ Hid (BlkY wr B0 23 (List.replicate 32 0)) ∧ Hid (Below w.heap.size w wr)) (fun _ v12 _ => n - (Go.RowKit.intOf v12).toNat)
 case atStart => exact ⟨0, 1, _, 1, Nat.zero_le _, rfl, rfl, rfl, by rw [Z1.out]; exact Nat.le_refl _, HO, D0, B1⟩
 case round =>
  clear HO D0 B1 Z1
  obtain ⟨i, m, A1, c1, hi, hm, rfl, rfl, hz, HO, D0, HB⟩ := hrel
  have Hm := aside hm
  have hm7 : m ≤ 10000 := by omega
  clear hm
  by_cases hin : i < n
  ·have i0 : (i : Int) < (n : Int) := by omega
   obtain ⟨b, off, hAe, hbl, hrg⟩ := GSl.range (FSl.below H.out HB.out) hin
   have hdm := HD.out _ (getD_dig (ds := ds) (k := i) (by have := HLn.out; omega))
   have HTk := aside (take_dig (ds := ds) (k := i) (by have := HLn.out; omega))
   generalize ds.getD i [] = d at hrg hdm HTk
   have HRg := aside hrg
   have hdl := hdm.1
   have HDc : Hid ((digC d).toArray = rowY d) := aside (digC_row hdm.1)
   have HS1 : Hid ((Tryz.prog.info? 23).map (·.size) = some (digC d).length) := aside (by rw [digC_len]; kernel_rfl)
   have HS9 : Hid ((Tryz.prog.info? 23).map (·.size) = some (digC d).toArray.size) := aside (by simp only [List.size_toArray, digC_len]; kernel_rfl)
   have HS8 : Hid ((rowY (List.replicate 32 0)).size = (digC d).toArray.size) := aside (by simp only [List.size_toArray, digC_len]; rfl)
   have HO1 : Hid ((digC d).toArray.all (·.oneCell') = true) := aside (all_oneCell_toArray (digC_one d))
   have DX := aside (BlkY.new wr 23 (List.replicate 32 0))
   subst hAe
   clear hrg hdm hbl
   go_upto_region 5 with (first
    | (refine wpList_load_mid rfl 23 (.tmp 14) rfl b (off + i * 32) rfl (digC d) _ HRg.out Tryz.underlying23 rfl HS1.out ?_)
    | (refine wpList_store_row rfl 23 (.tmp 7) (.tmp 15) rfl wr.heap.size (digC d).toArray rfl rfl 23 (rowY (List.replicate 32 0)) DX.out HS9.out HS8.out HO1.out ?_)
    | fail)
   have HB2 : Hid (Below w.heap.size w ((wr.alloc (.cells (rowY (List.replicate 32 0)) 23)).setRow wr.heap.size (digC d).toArray)) := aside (below_setRow (HB.out.alloc HB.out.size _) _ HB.out.size _)
   have DX2 : Hid (BlkY ((wr.alloc (.cells (rowY (List.replicate 32 0)) 23)).setRow wr.heap.size (digC d).toArray) wr.heap.size 23 d) := aside (by rw [HDc.out]; exact setRow_heap _ _ _ _ _ _ DX.out)
   have D02 : Hid (BlkY ((wr.alloc (.cells (rowY (List.replicate 32 0)) 23)).setRow wr.heap.size (digC d).toArray) B0 23 (List.replicate 32 0)) := aside ((setRow_other _ _ _ _ (by omega)).trans (D0.out.alloc _))
   have hzz : wr.heap.size ≤ ((wr.alloc (.cells (rowY (List.replicate 32 0)) 23)).setRow wr.heap.size (digC d).toArray).heap.size := Nat.le_of_lt DX2.out.lt
   have HO2 : Hid (YRow ((wr.alloc (.cells (rowY (List.replicate 32 0)) 23)).setRow wr.heap.size (digC d).toArray) (B0 + 1) (.slice A1 m c1) m (t :: (ds.take i).flatMap id)) := aside (own_below HO.out (below_setRow ((Below.refl _ _).alloc (Nat.le_refl _) _) _ (Nat.le_refl _) _))
   change Code.wp _ _ _ _ ((wr.alloc (.cells (rowY (List.replicate 32 0)) 23)).setRow wr.heap.size (digC d).toArray)
   generalize ((wr.alloc (.cells (rowY (List.replicate 32 0)) 23)).setRow wr.heap.size (digC d).toArray) = w2 at HB2 DX2 D02 hzz HO2 ⊢
   obtain ⟨bx, hbx⟩ : ∃ bx, bx = wr.heap.size := ⟨_, rfl⟩
   rw [← hbx] at DX2 hz hzz ⊢
   clear hbx HO D0 HB DX
   have HSd : Hid (YSl w2 w2.heap.size (some ⟨bx, 0, none⟩) 32 d) := aside (DX2.out.sl hdl DX2.out.lt)
   have H1d : Hid (∀ u ∈ d.flatMap byV, u.oneCell' = true) := aside (fun u hu => by
    obtain ⟨x, -, hx⟩ := List.mem_flatMap.1 hu
    simp only [byV, List.mem_singleton] at hx
    rw [hx]; rfl)
   go_wp2_with (first
    | (at_builtin; refine wpList_concat rfl (.tmp 16) (.tmp 17) 67 rfl (B0 + 1) (.int .u8 0) 1 1 Tryz.underlying67 byteInfo rfl (by decide) _ m _ rfl HO2.out w2.heap.size (some ⟨bx, 0, none⟩) 32 32 _ rfl HSd.out H1d.out (by omega) (by unfold maxLen; omega) (by omega) ?_; intro A3 c3 w3 hc3 hc3' hown3 hb3 hg3)
    | fail)
   have HO3 : Hid (YRow w3 (B0 + 1) (.slice A3 (m + 32) c3) (m + 32) (t :: (ds.take (i + 1)).flatMap id)) := aside (by
    rw [HTk.out]
    show w3.ownsRow _ _ _ _ _ _
    rw [show t :: ((ds.take i).flatMap id ++ d) = (t :: (ds.take i).flatMap id) ++ d from rfl, List.flatMap_append]
    exact hown3)
   have HB3 := aside (HB2.out.trans (hb3.mono (by rw [EB.out]; omega)))
   have D03 := aside (D02.out.below hb3 (by omega))
   have hz3 := Nat.le_trans (Nat.le_trans hz hzz) hb3.size
   clear hown3 hb3 hg3
   exact ⟨⟨i + 1, m + 32, A3, c3, by omega, by rw [Hm.out]; omega, by go_num, rfl, hz3, HO3, D03, HB3⟩, by simp [Go.RowKit.intOf]; omega⟩
  ·obtain rfl : n = i := by omega
   have i0 : ((n : Int) < (n : Int)) = False := by simp
   have HTn : Hid ((t :: (ds.take n).flatMap id) = t :: ds.flatMap id) := aside (by rw [← HLn.out, List.take_length])
   have hY := Sl.own HO.out
   have hby : ∀ x ∈ t :: ds.flatMap id, x < 256 := fun x hx => by
    rcases List.mem_cons.1 hx with rfl | hx
    ·exact ht
    ·obtain ⟨d, hd, hx⟩ := List.mem_flatMap.1 hx
     exact (HD.out d hd).2 x hx
   rw [HTn.out] at hY
   have HSh := aside (sha_any (t :: ds.flatMap id) A1 m c1 wr hY (by omega) hby (HG.out.below HB.out))
   clear hY hby HO
   go_wp2_with fail
   refine HSh.out.mono ?_
   rintro e w9 ⟨rfl, hb9⟩
   have HB9 : Hid (Below w.heap.size w w9) := aside (HB.out.trans (hb9.mono HB.out.size))
   have D09 := aside (D0.out.below hb9 D0.out.lt)
   change Hid (BlkY w9 B0 23 (List.replicate 32 0)) at D09
   obtain ⟨X, hX⟩ : ∃ X, X = ofL t ds := ⟨_, rfl⟩
   rw [show shaL (t :: ds.flatMap id) = X from hX.symm]
   have HX := aside hX
   have hXl : X.length = 32 := by rw [hX]; exact ofL_len _ _
   have HS9 : Hid ((Tryz.prog.info? 23).map (·.size) = some (rowY X).size) := aside (by rw [rowY_size, hXl]; kernel_rfl)
   have HS8 : Hid ((rowY (List.replicate 32 0)).size = (rowY X).size) := aside (by rw [rowY_size, rowY_size, hXl]; rfl)
   clear hb9 HSh hX
   go_wp2_with (first
    | (refine wpList_store_row rfl 23 (.tmp 4) (.tmp 21) rfl B0 (rowY X) rfl rfl 23 (rowY (List.replicate 32 0)) D09.out HS9.out HS8.out (rowY_one _) ?_)
    | fail)
   refine bodyPost_ret (results_cell_row rfl _ _ B0 23 (rowY X) (0, 0) _ rfl (setRow_heap w9 B0 _ _ _ _ D09.out) Tryz.underlying23 rfl HS9.out) rfl ?_
   exact ⟨by rw [← HX.out] <;> rfl, below_setRow HB9.out _ (by rw [EB.out]; exact Nat.le_refl _) _⟩
end Go.Proofs.YtbpabjhcjffkmaaGreatDoor

/- key.Step: the walk. Conditions: named in each theorem. -/
namespace Go.Proofs.YtbpabjhcjffkmaaGreatDoor
open Go.RowKit Go.ChangeShapes Go.WideShapes Go.ChangeAt

/-- A digest so many steps on. -/
def stepL : Nat → List Nat → List Nat
 | 0, d => d
 | k + 1, d => ofL 8 [stepL k d]
theorem stepL_len {d : List Nat} (h : d.length = 32) : ∀ k, (stepL k d).length = 32
 | 0 => h
 | _ + 1 => ofL_len _ _
theorem stepL_small {d : List Nat} (h : ∀ x ∈ d, x < 256) : ∀ k, ∀ x ∈ stepL k d, x < 256
 | 0 => h
 | _ + 1 => ofL_small _ _
theorem digZero : (Tryz.prog.info? 23).map (fun i => (i.zero, i.size)) = some (some (.agg (rowY (List.replicate 32 0))), 32) := by kernel_rfl
theorem fillD : ∀ (d : List Nat), d.length = 32 →
  Instr.fill (fun i => some (i * 32, 32)) ((Array.range (1 * 32)).map ((Value.agg (rowY (List.replicate 32 0))).cells[· % (Value.agg (rowY (List.replicate 32 0))).cells.size]!)) [(0, digV d)] = some (rowY d)
 | [a0, a1, a2, a3, a4, a5, a6, a7, a8, a9, a10, a11, a12, a13, a14, a15, a16, a17, a18, a19, a20, a21, a22, a23, a24, a25, a26, a27, a28, a29, a30, a31], _ => by kernel_rfl
set_option maxRecDepth 100000 in
theorem wpList_dig {ops : Array Oper} {rest : List Oper} {o : Oper} {a : Act} {w : World} {Q : Exit → Act → World → Prop} (hg : o.guard = none) (x : Operand) (ho : o.op = .buildSlice 128 1 #[(0, x)])
  (d : List Nat) (hx : a.eval x = digV d) (h1 : d.length = 32)
  (h : wpList Tryz.prog ops Q rest (a.put o.dst (.slice (some ⟨w.heap.size, 0, none⟩) 1 1)) (w.alloc (.cells (rowY d) 23))) : wpList Tryz.prog ops Q (o :: rest) a w := by
 obtain ⟨ie, hie, hz, hs⟩ : ∃ ie, Tryz.prog.info? 23 = some ie ∧ ie.zero = some (.agg (rowY (List.replicate 32 0))) ∧ ie.size = 32 := by
  have ht := digZero
  cases hi : Tryz.prog.info? 23 with
  | none => rw [hi] at ht; simp at ht
  | some ie =>
   rw [hi] at ht
   simp only [Option.map_some, Option.some.injEq, Prod.mk.injEq] at ht
   exact ⟨ie, rfl, ht.1, ht.2⟩
 refine wpList_buildSlice hg 128 23 1 #[(0, x)] ho (rowY d) ie (.agg (rowY (List.replicate 32 0))) Tryz.underlying128 hie hz (by rw [hs]; decide) (by rw [hs]; decide) ?_ h
 rw [hs]
 have hp : ((#[(0, x)] : Array (Nat × Operand)).map fun (i, x) => (i, a.eval x)).toList = [(0, digV d)] := by
  simp only [List.map_toArray, List.map_cons, List.map_nil, hx]
 rw [hp]
 exact fillD d h1
theorem BlkY.gsl {w : World} {b B : Nat} {T : TypeId} {d : List Nat} (h : BlkY w b T d) (hl : d.length = 32) (hB : b < B) : GSl w B (some ⟨b, 0, none⟩) 1 [d] := by
 refine ⟨by simp [digC_len], fun _ => ⟨b, 0, rfl, hB, fun j u hu => ?_⟩⟩
 rw [List.flatMap_cons, List.flatMap_nil, List.append_nil] at hu
 have hj : j < 32 := by have := (List.getElem?_eq_some_iff.1 hu).1; rwa [digC_len] at this
 rw [Nat.zero_add, h.cell (by omega)]
 rw [← hu]
 unfold digC
 rw [List.getElem?_map, List.getElem?_range hj]
 rfl
set_option maxHeartbeats 20000000 in
set_option maxRecDepth 100000 in
theorem step_any (d : List Nat) (hd : d.length = 32) (hb : ∀ x ∈ d, x < 256) (n : Nat) (hn : n ≤ 1000) (w : World) (hg : RoundsAt w) :
  Calls Tryz.prog 117 #[digV d, .int .i64 (n : Int)] w (fun e w' => e = .returned (digV (stepL n d)) ∧ Below w.heap.size w w') := by
 have hr : 1 < w.heap.size := by
  obtain ⟨T, fr, -, h2⟩ := hg
  exact h2
 have HG := aside hg
 have HDl := aside hd
 have HDb := aside hb
 have B1 : Hid (Below w.heap.size w ((w.alloc (.cells (rowY d) 23)).alloc (.cells (rowY (List.replicate 32 0)) 23))) := aside (((Below.refl _ _).alloc (Nat.le_refl _) _).alloc (by simp) _)
 have D0 : Hid (BlkY ((w.alloc (.cells (rowY d) 23)).alloc (.cells (rowY (List.replicate 32 0)) 23)) w.heap.size 23 (stepL 0 d)) := aside ((BlkY.new w _ _).alloc _)
 have D1 : Hid (BlkY ((w.alloc (.cells (rowY d) 23)).alloc (.cells (rowY (List.replicate 32 0)) 23)) (w.heap.size + 1) 23 (List.replicate 32 0)) := aside (by
  have h := BlkY.new (w.alloc (.cells (rowY d) 23)) 23 (List.replicate 32 0)
  rwa [show (w.alloc (.cells (rowY d) 23)).heap.size = w.heap.size + 1 by simp] at h)
 have Z1 : Hid (w.heap.size + 2 ≤ ((w.alloc (.cells (rowY d) 23)).alloc (.cells (rowY (List.replicate 32 0)) 23)).heap.size) := aside (by simp)
 clear hg hb hd
 unfold digV
 go_enter Tryz.func117, Tryz.ntmps117
 go_wp2_with fail
 change Code.wp _ _ _ _ ((w.alloc (.cells (rowY d) 23)).alloc (.cells (rowY (List.replicate 32 0)) 23))
 generalize ((w.alloc (.cells (rowY d) 23)).alloc (.cells (rowY (List.replicate 32 0)) 23)) = w1 at B1 D0 D1 Z1 ⊢
 obtain ⟨B0, hB0⟩ : ∃ B0, B0 = w.heap.size := ⟨_, rfl⟩
 have EB := aside hB0
 simp only [← hB0] at D0 D1 Z1 ⊢
 rw [← hB0] at hr
 clear hB0
 go_loopw [1] (fun v1 wr => ∃ (k i : Nat), k + i = n ∧ v1 = .int .i64 k ∧ B0 + 2 ≤ wr.heap.size ∧ Hid (BlkY wr B0 23 (stepL i d)) ∧ Hid (BlkY wr (B0 + 1) 23 (List.replicate 32 0)) ∧ Hid (Below w.heap.size w wr)) (fun v1 _ => (Go.RowKit.intOf v1).toNat)
 case atStart => exact ⟨n, 0, rfl, rfl, Z1.out, D0, D1, B1⟩
 case round =>
  clear D0 D1 B1 Z1
  obtain ⟨k, i, hki, rfl, hz, D0, D1, HB⟩ := hrel
  have Hki := aside hki
  have hk1 : k ≤ 1000 := by omega
  clear hki
  rcases Nat.eq_zero_or_pos k with h0 | hpos
  ·subst h0
   have HXe : Hid (stepL i d = stepL n d) := aside (by rw [show i = n by have := Hki.out; omega])
   have hXl := stepL_len HDl.out i
   generalize stepL i d = X at D0 HXe hXl
   have HS9 : Hid ((Tryz.prog.info? 23).map (·.size) = some (rowY X).size) := aside (by rw [rowY_size, hXl]; kernel_rfl)
   have HS8 : Hid ((rowY (List.replicate 32 0)).size = (rowY X).size) := aside (by rw [rowY_size, rowY_size, hXl]; rfl)
   go_wp2_with (first
    | (refine wpList_load_row rfl 23 (.tmp 2) rfl B0 rfl 23 (rowY X) (0, 0) _ D0.out Tryz.underlying23 rfl HS9.out ?_)
    | (refine wpList_store_row rfl 23 (.tmp 4) (.tmp 12) rfl (B0 + 1) (rowY X) rfl rfl 23 (rowY (List.replicate 32 0)) D1.out HS9.out HS8.out (rowY_one _) ?_)
    | fail)
   refine bodyPost_ret (results_cell_row rfl _ _ (B0 + 1) 23 (rowY X) (0, 0) _ rfl (setRow_heap wr (B0 + 1) _ _ _ _ D1.out) Tryz.underlying23 rfl HS9.out) rfl ?_
   exact ⟨by rw [← HXe.out] <;> rfl, below_setRow HB.out _ (by rw [EB.out]; omega) _⟩
  ·obtain ⟨k', rfl⟩ : ∃ k', k = k' + 1 := ⟨k - 1, by omega⟩
   have k0 : (0 : Int) < ((k' + 1 : Nat) : Int) := by omega
   have HNx : Hid (stepL (i + 1) d = ofL 8 [stepL i d]) := aside rfl
   have hXl := stepL_len HDl.out i
   have HXb := aside (stepL_small HDb.out i)
   generalize stepL i d = X at D0 HNx hXl HXb
   have HS9 : Hid ((Tryz.prog.info? 23).map (·.size) = some (rowY X).size) := aside (by rw [rowY_size, hXl]; kernel_rfl)
   have B2 : Hid (Below wr.heap.size wr (wr.alloc (.cells (rowY X) 23))) := aside ((Below.refl _ _).alloc (Nat.le_refl _) _)
   have G2 : Hid (GSl (wr.alloc (.cells (rowY X) 23)) (wr.alloc (.cells (rowY X) 23)).heap.size (some ⟨wr.heap.size, 0, none⟩) 1 [X]) := aside ((BlkY.new wr 23 X).gsl hXl (by simp))
   go_wp2_with (first
    | (refine wpList_load_row rfl 23 (.tmp 2) rfl B0 rfl 23 (rowY X) (0, 0) _ D0.out Tryz.underlying23 rfl HS9.out ?_)
    | (refine wpList_dig rfl (.tmp 9) rfl X rfl hXl ?_)
    | fail)
   have HD1 : Hid (∀ x ∈ [X], x.length = 32 ∧ ∀ y ∈ x, y < 256) := aside (fun x hx => by
    obtain rfl := List.mem_singleton.1 hx
    exact ⟨hXl, HXb.out⟩)
   refine (of_any 8 (by decide) [X] HD1.out (some ⟨wr.heap.size, 0, none⟩) 1 1 (by decide) _ G2.out (HG.out.below (HB.out.trans (B2.out.mono HB.out.size)))).mono ?_
   rintro e w3 ⟨rfl, hb3⟩
   have hB3 : Below wr.heap.size wr w3 := B2.out.trans (hb3.mono B2.out.size)
   have HB3 := aside (HB.out.trans (hB3.mono HB.out.size))
   have D03 := aside (D0.out.below hB3 D0.out.lt)
   have D13 := aside (D1.out.below hB3 D1.out.lt)
   have hz3 := Nat.le_trans hz hB3.size
   clear hb3 hB3
   obtain ⟨Y, hY⟩ : ∃ Y, Y = ofL 8 [X] := ⟨_, rfl⟩
   have hYl : Y.length = 32 := by rw [hY]; exact ofL_len _ _
   rw [← hY] at HNx ⊢
   clear hY
   have HS7 : Hid ((Tryz.prog.info? 23).map (·.size) = some (rowY Y).size) := aside (by rw [rowY_size, hYl]; kernel_rfl)
   have HS8 : Hid ((rowY X).size = (rowY Y).size) := aside (by rw [rowY_size, rowY_size, hXl, hYl])
   have D04 : Hid (BlkY (w3.setRow B0 (rowY Y)) B0 23 (stepL (i + 1) d)) := aside (by rw [HNx.out]; exact setRow_heap _ _ _ _ _ _ D03.out)
   have D14 : Hid (BlkY (w3.setRow B0 (rowY Y)) (B0 + 1) 23 (List.replicate 32 0)) := aside ((setRow_other _ _ _ _ (by omega)).trans D13.out)
   have HB4 : Hid (Below w.heap.size w (w3.setRow B0 (rowY Y))) := aside (below_setRow HB3.out _ (by rw [EB.out]; exact Nat.le_refl _) _)
   have hz4 : B0 + 2 ≤ (w3.setRow B0 (rowY Y)).heap.size := by
    have := D14.out.lt
    omega
   go_wp2_with (first
    | (refine wpList_store_row rfl 23 (.tmp 2) (.tmp 11) rfl B0 (rowY Y) rfl rfl 23 (rowY X) D03.out HS7.out HS8.out (rowY_one _) ?_)
    | fail)
   exact ⟨⟨k', i + 1, by have := Hki.out; omega, by go_num, hz4, D04, D14, HB4⟩, by simp [Go.RowKit.intOf] <;> omega⟩
end Go.Proofs.YtbpabjhcjffkmaaGreatDoor

/- mac.Key, the secrets of a key. Conditions: named in each theorem. -/
namespace Go.Proofs.YtbpabjhcjffkmaaGreatDoor
open Go.RowKit Go.ChangeShapes Go.WideShapes Go.ChangeAt

theorem zinfo (X : List Nat) (h : X.length = 32) : (Tryz.prog.info? 23).map (·.size) = some (rowY X).size := by rw [rowY_size, h]; kernel_rfl
theorem zsame (X Y : List Nat) (h : X.length = 32) (h2 : Y.length = 32) : (rowY X).size = (rowY Y).size := by rw [rowY_size, rowY_size, h, h2]
theorem zlen : (List.replicate 32 0 : List Nat).length = 32 := by simp
set_option maxHeartbeats 8000000 in
set_option maxRecDepth 100000 in
theorem key_any (d : List Nat) (hd : d.length = 32) (hb : ∀ x ∈ d, x < 256) (ms : List Nat) (M : Option Addr) (mn mc : Nat) (w : World) (hm : YSl w w.heap.size M mn ms) (hmn : mn ≤ 1000) (hmb : ∀ x ∈ ms, x < 256) (hg : RoundsAt w) :
  Calls Tryz.prog 119 #[digV d, .slice M mn mc] w (fun e w' => e = .returned (digV (macL d ms)) ∧ Below w.heap.size w w') := by
 have HG := aside hg
 have HM := aside hm
 have HMb := aside hmb
 have HDb := aside hb
 have HDl := aside hd
 have B1 : Hid (Below w.heap.size w ((w.alloc (.cells (rowY d) 23)).alloc (.cells (rowY (List.replicate 32 0)) 23))) := aside (((Below.refl _ _).alloc (Nat.le_refl _) _).alloc (by simp) _)
 have D0 : Hid (BlkY ((w.alloc (.cells (rowY d) 23)).alloc (.cells (rowY (List.replicate 32 0)) 23)) w.heap.size 23 d) := aside ((BlkY.new w _ _).alloc _)
 have D1 : Hid (BlkY ((w.alloc (.cells (rowY d) 23)).alloc (.cells (rowY (List.replicate 32 0)) 23)) (w.heap.size + 1) 23 (List.replicate 32 0)) := aside (by
  have h := BlkY.new (w.alloc (.cells (rowY d) 23)) 23 (List.replicate 32 0)
  rwa [show (w.alloc (.cells (rowY d) 23)).heap.size = w.heap.size + 1 by simp] at h)
 clear hg hm hmb hb hd
 unfold digV
 go_enter Tryz.func119, Tryz.ntmps119
 go_wp2_with fail
 change Calls _ _ _ ((w.alloc (.cells (rowY d) 23)).alloc (.cells (rowY (List.replicate 32 0)) 23)) _
 generalize ((w.alloc (.cells (rowY d) 23)).alloc (.cells (rowY (List.replicate 32 0)) 23)) = w1 at B1 D0 D1 ⊢
 have HK1 : Hid (YSl w1 w1.heap.size (some ⟨w.heap.size, 0, none⟩) 32 d) := aside (D0.out.sl HDl.out D0.out.lt)
 have HM1 : Hid (YSl w1 w1.heap.size M mn ms) := aside ((Sl.below HM.out B1.out).more B1.out.size)
 refine (mac_any d (some ⟨w.heap.size, 0, none⟩) 32 32 ms M mn mc w1 HK1.out HM1.out (by omega) hmn HDb.out HMb.out (HG.out.below B1.out)).mono ?_
 rintro e w9 ⟨rfl, hb9⟩
 have HB9 := aside (B1.out.trans (hb9.mono B1.out.size))
 have D09 := aside (D1.out.below hb9 D1.out.lt)
 have hXl := macL_len d ms
 have HS9 := aside (zinfo _ hXl)
 have HS8 := aside (zsame _ _ zlen hXl)
 clear hb9 hXl
 go_wp2_with (first
  | (refine wpList_store_row rfl 23 (.tmp 4) (.tmp 7) rfl (w.heap.size + 1) (rowY (macL d ms)) rfl rfl 23 (rowY (List.replicate 32 0)) D09.out HS9.out HS8.out (rowY_one _) ?_)
  | fail)
 refine bodyPost_ret (results_cell_row rfl _ _ (w.heap.size + 1) 23 (rowY (macL d ms)) (0, 0) _ rfl (setRow_heap w9 (w.heap.size + 1) _ _ _ _ D09.out) Tryz.underlying23 rfl HS9.out) rfl ?_
 exact ⟨rfl, below_setRow HB9.out _ (Nat.le_succ _) _⟩
set_option maxHeartbeats 8000000 in
set_option maxRecDepth 100000 in
theorem secret_any (d : List Nat) (hd : d.length = 32) (hb : ∀ x ∈ d, x < 256) (i : Nat) (hi : i < 256) (sb : Nat) (w : World) (hs : BlkY w sb 23 d) (hg : RoundsAt w) :
  Calls Tryz.prog 118 #[.int .i64 (i : Int), .pointer (some ⟨sb, 0, none⟩)] w (fun e w' => e = .returned (digV (macL d [5, i])) ∧ Below w.heap.size w w') := by
 have HG := aside hg
 have HDb := aside hb
 have HDl := aside hd
 have B1 : Hid (Below w.heap.size w (w.alloc (.cells (rowY (List.replicate 32 0)) 23))) := aside ((Below.refl _ _).alloc (Nat.le_refl _) _)
 have D1 : Hid (BlkY (w.alloc (.cells (rowY (List.replicate 32 0)) 23)) w.heap.size 23 (List.replicate 32 0)) := aside (BlkY.new w _ _)
 have DS := aside (hs.below B1.out hs.lt)
 have Z1 : Hid ((w.alloc (.cells (rowY (List.replicate 32 0)) 23)).heap.size = w.heap.size + 1) := aside (by simp)
 have hwr : IntKind.u8.wrap (i : Int) = (i : Int) := by rw [IntKind.wrap_u8]; omega
 have HS7 := aside (zinfo d hd)
 clear hg hb hd hs
 go_enter Tryz.func118, Tryz.ntmps118
 go_upto_region 1 with fail
 change Code.wp _ _ _ _ (w.alloc (.cells (rowY (List.replicate 32 0)) 23))
 generalize (w.alloc (.cells (rowY (List.replicate 32 0)) 23)) = w1 at B1 D1 DS Z1 ⊢
 have hz1 : w.heap.size < w1.heap.size := D1.out.lt
 have B2 : Hid (Below w1.heap.size w1 (w1.alloc (.cells #[.int .u8 ((5 : Nat) : Int), .int .u8 (i : Int)] 5))) := aside ((Below.refl _ _).alloc (Nat.le_refl _) _)
 have M2 : Hid (YSl (w1.alloc (.cells #[.int .u8 ((5 : Nat) : Int), .int .u8 (i : Int)] 5)) (w1.alloc (.cells #[.int .u8 ((5 : Nat) : Int), .int .u8 (i : Int)] 5)).heap.size (some ⟨w1.heap.size, 0, none⟩) 2 [5, i]) := aside ((show BlkY (w1.alloc (.cells #[.int .u8 ((5 : Nat) : Int), .int .u8 (i : Int)] 5)) w1.heap.size 5 [5, i] from BlkY.new w1 5 [5, i]).sl rfl (by simp))
 go_wp2_with (first
  | (refine wpList_load_row rfl 23 (.tmp 1) rfl sb rfl 23 (rowY d) (0, 0) _ DS.out Tryz.underlying23 rfl HS7.out ?_)
  | fail)
 have hBB : Below w.heap.size w (w1.alloc (.cells #[.int .u8 ((5 : Nat) : Int), .int .u8 (i : Int)] 5)) := B1.out.trans (B2.out.mono B1.out.size)
 refine (show Calls _ _ #[digV d, _] _ _ from key_any d HDl.out HDb.out [5, i] (some ⟨w1.heap.size, 0, none⟩) 2 2 _ M2.out (by omega) (by intro x hx; simp at hx; rcases hx with rfl | rfl <;> omega) (HG.out.below hBB)).mono ?_
 rintro e w9 ⟨rfl, hb9⟩
 have HB9 := aside (hBB.trans (hb9.mono hBB.size))
 have D09 := aside ((D1.out.below B2.out D1.out.lt).below hb9 (Nat.lt_of_lt_of_le hz1 B2.out.size))
 have hXl := macL_len d [5, i]
 have HS9 := aside (zinfo _ hXl)
 have HS8 := aside (zsame _ _ zlen hXl)
 clear hb9 hXl hBB
 go_wp2_with (first
  | (refine wpList_store_row rfl 23 (.tmp 3) (.tmp 8) rfl w.heap.size (rowY (macL d [5, i])) rfl rfl 23 (rowY (List.replicate 32 0)) D09.out HS9.out HS8.out (rowY_one _) ?_)
  | fail)
 refine bodyPost_ret (results_cell_row rfl _ _ w.heap.size 23 (rowY (macL d [5, i])) (0, 0) _ rfl (setRow_heap w9 w.heap.size _ _ _ _ D09.out) Tryz.underlying23 rfl HS9.out) rfl ?_
 exact ⟨rfl, below_setRow HB9.out _ (Nat.le_refl _) _⟩
theorem fifteen_any (i : Int) (w : World) : Calls Tryz.prog 87 #[.int .i64 i] w (fun e w' => e = .returned (.int .i64 ((15 : Nat) : Int)) ∧ w' = w) := by
 go_enter Tryz.func87, Tryz.ntmps87
 go_wp2
 go_ret
 exact ⟨rfl, rfl⟩
end Go.Proofs.YtbpabjhcjffkmaaGreatDoor

/- key.ends and key.Public: the walks. Conditions: named in each theorem. -/
namespace Go.Proofs.YtbpabjhcjffkmaaGreatDoor
open Go.RowKit Go.ChangeShapes Go.WideShapes Go.ChangeAt

/-- The ends of the first so many, of 67. -/
def endN (d : List Nat) (i : Nat) : List (List Nat) := (List.range i).map fun j => stepL 15 (macL d [5, j])
theorem endN_len (d : List Nat) (i : Nat) : (endN d i).length = i := by simp [endN]
theorem endN_succ (d : List Nat) (i : Nat) : (endN d (i + 1)).flatMap id = (endN d i).flatMap id ++ stepL 15 (macL d [5, i]) := by
 unfold endN
 rw [List.range_succ, List.map_append, List.flatMap_append]
 simp
theorem endN_dig (d : List Nat) (i : Nat) : ∀ x ∈ endN d i, x.length = 32 ∧ ∀ y ∈ x, y < 256 := by
 intro x hx
 obtain ⟨j, _, rfl⟩ := List.mem_map.1 hx
 exact ⟨stepL_len (macL_len _ _) 15, stepL_small (macL_small _ _) 15⟩
theorem endN_flat (d : List Nat) (i : Nat) : ((endN d i).flatMap id).length = i * 32 := by
 rw [dig_flat_len fun x hx => (endN_dig d i x hx).1, endN_len]
theorem zero65 : Tryz.zeroCells119 = rowY (List.replicate 2144 0) := by kernel_rfl
def u8s (l : List Nat) : List Value := l.map fun (x : Nat) => .int .u8 (x : Int)
theorem BlkY.fill {b : Nat} {T : TypeId} : ∀ (l mid pre post : List Nat) (w : World), BlkY w b T (pre ++ mid ++ post) → mid.length = l.length → BlkY (w.setCells b pre.length (u8s l)) b T (pre ++ l ++ post)
 | [], mid, pre, post, w, h, hl => by
  have e : mid = [] := List.eq_nil_of_length_eq_zero (by simpa using hl)
  subst e
  exact h
 | x :: l, mid, pre, post, w, h, hl => by
  match mid, hl with
  | m :: mid, hl =>
   have h1 := h.set pre.length x
   rw [show (pre ++ (m :: mid) ++ post).set pre.length x = (pre ++ [x]) ++ mid ++ post by
    rw [List.append_assoc, List.set_append_right _ _ (Nat.le_refl _), Nat.sub_self]
    simp] at h1
   have h2 := BlkY.fill l mid (pre ++ [x]) post (w.setCell ⟨b, pre.length, none⟩ (.int .u8 (x : Int))) h1 (by simpa using hl)
   rw [List.length_append] at h2
   simp only [List.append_assoc, List.cons_append, List.nil_append] at h2 ⊢
   exact h2
/-- What has been filled, and what has not. -/
def endR (d : List Nat) (i : Nat) : List Nat := (endN d i).flatMap id ++ List.replicate ((67 - i) * 32) 0
theorem endR_len {d : List Nat} {i : Nat} (h : i ≤ 67) : (endR d i).length = 2144 := by
 unfold endR
 rw [List.length_append, endN_flat, List.length_replicate]
 omega
theorem BlkY.end_ {w : World} {b : Nat} {T : TypeId} {d : List Nat} {i : Nat} (h : BlkY w b T (endR d i)) (hi : i < 67) : BlkY (w.setCells b (i * 32) (u8s (stepL 15 (macL d [5, i])))) b T (endR d (i + 1)) := by
 have e : endR d i = (endN d i).flatMap id ++ List.replicate 32 0 ++ List.replicate ((67 - (i + 1)) * 32) 0 := by
  unfold endR
  rw [List.append_assoc, List.replicate_append_replicate, show 32 + (67 - (i + 1)) * 32 = (67 - i) * 32 by omega]
 rw [e] at h
 have h2 := BlkY.fill (stepL 15 (macL d [5, i])) (List.replicate 32 0) _ _ w h (by rw [stepL_len (macL_len _ _)]; simp)
 rw [endN_flat, ← endN_succ] at h2
 exact h2
theorem BlkY.there {w : World} {b : Nat} {T : TypeId} {l : List Nat} (h : BlkY w b T l) (o n : Nat) (hn : o + n ≤ l.length) : w.there b o n := fun j hj => ⟨by rw [h.cell (by omega)]; rfl, h.fz _⟩
theorem rowY_list (l : List Nat) : (rowY l).toList = u8s l := by simp [rowY, u8s]
set_option maxHeartbeats 20000000 in
set_option maxRecDepth 100000 in
theorem ends_any (d : List Nat) (hd : d.length = 32) (hb : ∀ x ∈ d, x < 256) (sb : Nat) (w : World) (hs : BlkY w sb 23 d) (hg : RoundsAt w) :
  Calls Tryz.prog 82 #[.func (.func 118) #[] #[.pointer (some ⟨sb, 0, none⟩)], .func (.func 87) #[] #[]] w (fun e w' => e = .returned (.agg (rowY ((endN d 67).flatMap id))) ∧ Below w.heap.size w w') := by
 have HG := aside hg
 have HDb := aside hb
 have HDl := aside hd
 have B1 : Hid (Below w.heap.size w (w.alloc (.cells Tryz.zeroCells119 119))) := aside ((Below.refl _ _).alloc (Nat.le_refl _) _)
 have D1 : Hid (BlkY (w.alloc (.cells Tryz.zeroCells119 119)) w.heap.size 119 (endR d 0)) := aside (by
  rw [zero65]
  exact BlkY.new w _ _)
 have DS := aside (hs.below B1.out hs.lt)
 have hsb := hs.lt
 clear hg hb hd hs
 go_enter Tryz.func82, Tryz.ntmps82
 go_wp2_with fail
 generalize (w.alloc (.cells Tryz.zeroCells119 119)) = w1 at B1 D1 DS ⊢
 obtain ⟨B0, hB0⟩ : ∃ B0, B0 = w.heap.size := ⟨_, rfl⟩
 have EB := aside hB0
 simp only [← hB0] at D1 ⊢
 rw [← hB0] at hsb
 clear hB0
 go_loopw [6] (fun v6 wr => ∃ i : Nat, i ≤ 67 ∧ v6 = .int .i64 i ∧ Hid (BlkY wr B0 119 (endR d i)) ∧ Hid (BlkY wr sb 23 d) ∧ Hid (Below w.heap.size w wr)) (fun v6 _ => 67 - (Go.RowKit.intOf v6).toNat)
 case atStart => exact ⟨0, by omega, rfl, D1, DS, B1⟩
 case round =>
  clear D1 DS B1
  obtain ⟨i, hi, rfl, D1, DS, HB⟩ := hrel
  by_cases hi6 : i < 67
  ·have i0 : (i : Int) < 67 := by omega
   have hwz := HB.out.size
   have hB0r := D1.out.lt
   go_wp2_with fail
   refine (secret_any d HDl.out HDb.out i (by omega) sb wr DS.out (HG.out.below HB.out)).mono ?_
   rintro e w2 ⟨rfl, hb2⟩
   have HB2 := aside (HB.out.trans (hb2.mono hwz))
   have D12 := aside (D1.out.below hb2 hB0r)
   have DS2 := aside (DS.out.below hb2 DS.out.lt)
   clear hb2 D1 DS
   go_wp2_with fail
   refine (fifteen_any (i : Int) w2).mono ?_
   rintro e w3 ⟨rfl, hw3⟩
   rw [hw3]
   clear hw3 w3
   go_wp2_with fail
   refine (step_any (macL d [5, i]) (macL_len _ _) (macL_small _ _) 15 (by omega) w2 (HG.out.below HB2.out)).mono ?_
   rintro e w3 ⟨rfl, hb3⟩
   have HB3 := aside (HB2.out.trans (hb3.mono HB2.out.size))
   have D13 := aside (D12.out.below hb3 D12.out.lt)
   have DS3 := aside (DS2.out.below hb3 DS2.out.lt)
   clear hb3 D12 DS2 HB2
   have hnx := D13.out.end_ hi6
   have hth := D13.out.there (i * 32) 32 (by rw [endR_len hi]; omega)
   have hXl := stepL_len (macL_len d [5, i]) 15
   generalize stepL 15 (macL d [5, i]) = X at hnx hXl ⊢
   rw [← rowY_list] at hnx
   have HTh : Hid (w3.there B0 (i * 32) (rowY X).size) := aside (by rw [rowY_size, hXl]; exact hth)
   have HS9 := aside (zinfo X hXl)
   have D14 := aside hnx
   have HB4 : Hid (Below w.heap.size w (w3.setCells B0 (i * 32) (rowY X).toList)) := aside (below_cells (by rw [EB.out]; exact Nat.le_refl _) _ _ _ HB3.out)
   have DS4 : Hid (BlkY (w3.setCells B0 (i * 32) (rowY X).toList) sb 23 d) := aside ((below_cells (B := B0) (Nat.le_refl _) _ _ _ (Below.refl B0 w3)).block sb hsb |>.trans DS3.out)
   clear hnx hth DS3 HB3 D13
   go_wp2_with (first
    | (refine wpList_store_mid rfl 23 (.tmp 17) (.tmp 16) rfl B0 (i * 32) (rowY X) rfl rfl HTh.out HS9.out (rowY_one _) ?_)
    | fail)
   exact ⟨⟨i + 1, by omega, by go_num, D14, DS4, HB4⟩, by simp [Go.RowKit.intOf]; omega⟩
  ·obtain rfl : i = 67 := by omega
   clear hi6
   have HE : Hid (endR d 67 = (endN d 67).flatMap id) := aside (by unfold endR; simp)
   have hl := endR_len (d := d) (i := 67) (Nat.le_refl _)
   rw [HE.out] at D1 hl
   obtain ⟨X, hX⟩ : ∃ X, X = (endN d 67).flatMap id := ⟨_, rfl⟩
   rw [← hX] at D1 hl
   have HX := aside hX
   have HS9 : Hid ((Tryz.prog.info? 119).map (·.size) = some (rowY X).size) := aside (by rw [rowY_size, hl]; kernel_rfl)
   clear hX HE
   go_wp2_with (first
    | (refine wpList_load_row rfl 119 (.tmp 4) rfl B0 rfl 119 (rowY X) (0, 0) _ D1.out Tryz.underlying119 rfl HS9.out ?_)
    | (refine wpList_store_row rfl 119 (.tmp 4) (.tmp 19) rfl B0 (rowY X) rfl rfl 119 (rowY X) D1.out HS9.out rfl (rowY_one _) ?_)
    | fail)
   refine bodyPost_ret (results_cell_row rfl _ _ B0 119 (rowY X) (0, 0) _ rfl (setRow_heap wr B0 _ _ _ _ D1.out) Tryz.underlying119 rfl HS9.out) rfl ?_
   exact ⟨by rw [← HX.out] <;> rfl, below_setRow HB.out _ (by rw [EB.out]; exact Nat.le_refl _) _⟩
end Go.Proofs.YtbpabjhcjffkmaaGreatDoor

/- key.Public: the walk. Conditions: named in each theorem. -/
namespace Go.Proofs.YtbpabjhcjffkmaaGreatDoor
open Go.RowKit Go.ChangeShapes Go.WideShapes Go.ChangeAt

theorem digC_u8s {d : List Nat} (h : d.length = 32) : digC d = u8s d := by
 have e := congrArg Array.toList (digC_row h)
 rwa [rowY_list] at e
theorem flat_u8s {ds : List (List Nat)} (h : ∀ d ∈ ds, d.length = 32) : ds.flatMap digC = u8s (ds.flatMap id) := by
 induction ds with
 | nil => rfl
 | cons d r ih =>
  rw [List.flatMap_cons, List.flatMap_cons, ih fun x hx => h x (by simp [hx]), digC_u8s (h d (by simp))]
  simp [u8s]
theorem BlkY.gsls {w : World} {b B n : Nat} {T : TypeId} {ds : List (List Nat)} (h : BlkY w b T (ds.flatMap id)) (hl : ∀ d ∈ ds, d.length = 32) (hn : ds.length = n) (hB : b < B) : GSl w B (some ⟨b, 0, none⟩) n ds := by
 have hfl := dig_flat_len hl
 have hs : w.heap[b]? = some (.cells (rowY (ds.flatMap id)) T (0, 0)) := h
 refine ⟨by rw [flat_u8s hl, ← hn, ← hfl]; unfold u8s; rw [List.length_map], fun _ => ⟨b, 0, rfl, hB, fun j u hu => ?_⟩⟩
 rw [flat_u8s hl] at hu
 have hj := (List.getElem?_eq_some_iff.1 hu).1
 rw [Nat.zero_add, cell_of_row w b j _ _ _ hs]
 unfold rowY
 rw [List.getElem?_toArray]
 exact hu
set_option maxRecDepth 100000 in
theorem secrets_any (d : List Nat) (w : World) : Calls Tryz.prog 83 #[digV d] w (fun e w' => ∃ sb, e = .returned (.func (.func 118) #[] #[.pointer (some ⟨sb, 0, none⟩)]) ∧ BlkY w' sb 23 d ∧ Below w.heap.size w w') := by
 unfold digV
 go_enter Tryz.func83, Tryz.ntmps83
 go_wp2
 go_ret
 exact ⟨w.heap.size, rfl, BlkY.new w _ _, (Below.refl _ _).alloc (Nat.le_refl _) _⟩
/-- The public key of a seed. -/
def pubL (d : List Nat) : List Nat := ofL 7 (endN d 67)
theorem pubL_len (d : List Nat) : (pubL d).length = 32 := ofL_len _ _
theorem pubL_small (d : List Nat) : ∀ x ∈ pubL d, x < 256 := ofL_small _ _
set_option maxHeartbeats 20000000 in
set_option maxRecDepth 100000 in
theorem public_any (d : List Nat) (hd : d.length = 32) (hb : ∀ x ∈ d, x < 256) (w : World) (hg : RoundsAt w) :
  Calls Tryz.prog 41 #[digV d] w (fun e w' => e = .returned (digV (pubL d)) ∧ Below w.heap.size w w') := by
 have HG := aside hg
 have HDb := aside hb
 have HDl := aside hd
 have B1 : Hid (Below w.heap.size w ((w.alloc (.cells (rowY d) 23)).alloc (.cells (rowY (List.replicate 32 0)) 23))) := aside (((Below.refl _ _).alloc (Nat.le_refl _) _).alloc (by simp) _)
 have D0 : Hid (BlkY ((w.alloc (.cells (rowY d) 23)).alloc (.cells (rowY (List.replicate 32 0)) 23)) w.heap.size 23 d) := aside ((BlkY.new w _ _).alloc _)
 have D1 : Hid (BlkY ((w.alloc (.cells (rowY d) 23)).alloc (.cells (rowY (List.replicate 32 0)) 23)) (w.heap.size + 1) 23 (List.replicate 32 0)) := aside (by
  have h := BlkY.new (w.alloc (.cells (rowY d) 23)) 23 (List.replicate 32 0)
  rwa [show (w.alloc (.cells (rowY d) 23)).heap.size = w.heap.size + 1 by simp] at h)
 have HS7 := aside (zinfo d hd)
 clear hg hb hd
 unfold digV
 go_enter Tryz.func41, Tryz.ntmps41
 go_upto_region 1 with fail
 change Code.wp _ _ _ _ ((w.alloc (.cells (rowY d) 23)).alloc (.cells (rowY (List.replicate 32 0)) 23))
 generalize ((w.alloc (.cells (rowY d) 23)).alloc (.cells (rowY (List.replicate 32 0)) 23)) = w1 at B1 D0 D1 ⊢
 obtain ⟨B0, hB0⟩ : ∃ B0, B0 = w.heap.size := ⟨_, rfl⟩
 have EB := aside hB0
 simp only [← hB0] at D0 D1 ⊢
 clear hB0
 go_wp2_with (first
  | (refine wpList_load_row rfl 23 (.tmp 1) rfl B0 rfl 23 (rowY d) (0, 0) _ D0.out Tryz.underlying23 rfl HS7.out ?_)
  | fail)
 refine (show Calls _ _ #[digV d] _ _ from secrets_any d w1).mono ?_
 rintro e w2 ⟨sb, rfl, hs2, hb2⟩
 have HB2 := aside (B1.out.trans (hb2.mono B1.out.size))
 have D12 := aside (D1.out.below hb2 D1.out.lt)
 have DS := aside hs2
 clear hs2 hb2
 go_wp2_with fail
 refine (ends_any d HDl.out HDb.out sb w2 DS.out (HG.out.below HB2.out)).mono ?_
 rintro e w3 ⟨rfl, hb3⟩
 have HB3 := aside (HB2.out.trans (hb3.mono HB2.out.size))
 have D13 := aside (D12.out.below hb3 D12.out.lt)
 clear hb3
 have hEd := endN_dig d 67
 have hEl := endN_len d 67
 have hEf := endN_flat d 67
 obtain ⟨E, hE⟩ : ∃ E, E = endN d 67 := ⟨_, rfl⟩
 rw [← hE] at hEd hEl hEf ⊢
 have HP : Hid (pubL d = ofL 7 E) := aside (by rw [hE]; rfl)
 have HEd := aside hEd
 clear hE hEd
 obtain ⟨X, hX⟩ : ∃ X, X = E.flatMap id := ⟨_, rfl⟩
 have HX := aside hX
 rw [← hX] at hEf ⊢
 clear hX
 have HS9 : Hid ((Tryz.prog.info? 119).map (·.size) = some (rowY X).size) := aside (by rw [rowY_size, hEf]; kernel_rfl)
 have HS8 : Hid ((rowY (List.replicate 2144 0)).size = (rowY X).size) := aside (by rw [rowY_size, rowY_size, hEf]; simp)
 have DX : Hid (BlkY (w3.alloc (.cells Tryz.zeroCells119 119)) w3.heap.size 119 (List.replicate 2144 0)) := aside (by
  rw [zero65]
  exact BlkY.new w3 _ _)
 go_upto_region 2 with (first
  | (refine wpList_store_row rfl 119 (.tmp 3) (.tmp 6) rfl w3.heap.size (rowY X) rfl rfl 119 (rowY (List.replicate 2144 0)) DX.out HS9.out HS8.out (rowY_one _) ?_)
  | fail)
 have hb03 : B0 + 1 < w3.heap.size := D13.out.lt
 have HB4 : Hid (Below w.heap.size w ((w3.alloc (.cells Tryz.zeroCells119 119)).setRow w3.heap.size (rowY X))) := aside (below_setRow (HB3.out.alloc HB3.out.size _) _ HB3.out.size _)
 have DX4 : Hid (BlkY ((w3.alloc (.cells Tryz.zeroCells119 119)).setRow w3.heap.size (rowY X)) w3.heap.size 119 X) := aside (setRow_heap _ _ _ _ _ _ DX.out)
 have D14 : Hid (BlkY ((w3.alloc (.cells Tryz.zeroCells119 119)).setRow w3.heap.size (rowY X)) (B0 + 1) 23 (List.replicate 32 0)) := aside ((setRow_other _ _ _ _ (by omega)).trans (D13.out.alloc _))
 change Code.wp _ _ _ _ ((w3.alloc (.cells Tryz.zeroCells119 119)).setRow w3.heap.size (rowY X))
 generalize ((w3.alloc (.cells Tryz.zeroCells119 119)).setRow w3.heap.size (rowY X)) = w4 at HB4 DX4 D14 ⊢
 obtain ⟨bx, hbx⟩ : ∃ bx, bx = w3.heap.size := ⟨_, rfl⟩
 rw [← hbx] at DX4 hb03 ⊢
 clear hbx DX HS9 HS8 HB3 D13
 have HGs : Hid (GSl w4 w4.heap.size (some ⟨bx, 0, none⟩) 67 E) := aside (by
  have h := DX4.out
  rw [HX.out] at h
  exact h.gsls (fun x hx => (HEd.out x hx).1) hEl h.lt)
 go_wp2_with fail
 refine (show Calls _ _ #[.int .u8 ((7 : Nat) : Int), _] _ _ from of_any 7 (by decide) E HEd.out (some ⟨bx, 0, none⟩) 67 67 (by decide) w4 HGs.out (HG.out.below HB4.out)).mono ?_
 rintro e w9 ⟨rfl, hb9⟩
 have HB9 := aside (HB4.out.trans (hb9.mono HB4.out.size))
 have D09 := aside (D14.out.below hb9 D14.out.lt)
 have hYl := ofL_len 7 E
 have HS9 := aside (zinfo _ hYl)
 have HS8 := aside (zsame _ _ zlen hYl)
 clear hb9
 go_wp2_with (first
  | (refine wpList_store_row rfl 23 (.tmp 2) (.tmp 8) rfl (B0 + 1) (rowY (ofL 7 E)) rfl rfl 23 (rowY (List.replicate 32 0)) D09.out HS9.out HS8.out (rowY_one _) ?_)
  | fail)
 refine bodyPost_ret (results_cell_row rfl _ _ (B0 + 1) 23 (rowY (ofL 7 E)) (0, 0) _ rfl (setRow_heap w9 (B0 + 1) _ _ _ _ D09.out) Tryz.underlying23 rfl HS9.out) rfl ?_
 exact ⟨by rw [HP.out] <;> rfl, below_setRow HB9.out _ (by rw [EB.out]; omega) _⟩
end Go.Proofs.YtbpabjhcjffkmaaGreatDoor
