/- The numbers that a digest is signed by: key.digits: the walk. Conditions: named in each theorem. A signature: key.ends of it, key.Sign: the walks. Conditions: named in each theorem. -/
import Derived.Test.YtbpabjhcjffkmaaGreatDoorSigA
import Derived.Test.YtbpabjhcjffkmaaGreatDoorPayF
import Derived.Test.YtbpabjhcjffkmaaGreatDoorPayT
/- The numbers that a digest is signed by: key.digits: the walk. Conditions: named in each theorem. -/
namespace Go.Proofs.YtbpabjhcjffkmaaGreatDoor
open Go.RowKit Go.ChangeShapes Go.WideShapes Go.ChangeAt

theorem and15_nat (n x : Nat) (hx : x < 2 ^ n) (hn : 4 ≤ n) : (BitVec.ofInt n (x : Int) &&& BitVec.ofInt n 15).toNat = x % 16 := by
 have h1 : (BitVec.ofInt n (x : Int)).toNat = x := by
  rw [BitVec.ofInt_natCast, BitVec.toNat_ofNat, Nat.mod_eq_of_lt hx]
 have h2 : (BitVec.ofInt n 15).toNat = 15 := by
  have h3 : (15 : Nat) < 2 ^ n := Nat.lt_of_lt_of_le (by decide) (Nat.pow_le_pow_right (by decide) hn)
  rw [show (15 : Int) = ((15 : Nat) : Int) from rfl, BitVec.ofInt_natCast, BitVec.toNat_ofNat, Nat.mod_eq_of_lt h3]
 rw [BitVec.toNat_and, h1, h2]
 exact Nat.and_two_pow_sub_one_eq_mod x 4
theorem bits15 (x : Nat) (h : x < 1000000) : bits .and .i64 (x : Int) 15 = ((x % 16 : Nat) : Int) := by
 have h1 : (BitVec.ofInt IntKind.i64.bits (x : Int) &&& BitVec.ofInt IntKind.i64.bits 15).toNat = x % 16 := and15_nat 64 x (by omega) (by decide)
 have h2 : IntKind.i64.wrap ((x % 16 : Nat) : Int) = ((x % 16 : Nat) : Int) := by rw [IntKind.wrap_i64]; omega
 show IntKind.i64.wrap ((BitVec.ofInt IntKind.i64.bits (x : Int) &&& BitVec.ofInt IntKind.i64.bits 15).toNat : Int) = _
 rw [h1, h2]
set_option maxRecDepth 100000 in
theorem idx_dig (d : List Nat) (hd : d.length = 32) (k : Nat) (hk : k < 32) (w : World) : (Instr.index 23 (.agg (rowY d)) (.int .i64 (k : Int))).run Tryz.prog w = .ok (.int .u8 ((d.getD k 0 : Nat) : Int)) w := by
 have hp := part_byte d k (by omega) w
 obtain ⟨i0, hI, -, hIs, -⟩ := info_parts byteInfo
 have hr : (0 : Int) ≤ (k : Int) ∧ (k : Int) < 32 := by omega
 simp [Instr.index, asIntOf, run_underlying Tryz.underlying23, hr, sizeOf, typeInfo, hI, hIs, hp]
 intro h9
 omega
theorem zero67 : Tryz.zeroCells117 = rowN (List.replicate 67 0) := by kernel_rfl
theorem info67 (l : List Nat) (h : l.length = 67) : (Tryz.prog.info? 117).map (·.size) = some (rowN l).size := by rw [rowN_size, h]; kernel_rfl
/-- The numbers so far. -/
def digR (d : List Nat) (k : Nat) : List Nat := nibs (d.take k) ++ List.replicate (67 - 2 * k) 0
theorem digR_len {d : List Nat} {k : Nat} (hd : d.length = 32) (hk : k ≤ 32) : (digR d k).length = 67 := by
 unfold digR
 rw [List.length_append, nibs_len, List.length_take, List.length_replicate, hd]
 omega
theorem digR_next {d : List Nat} {k : Nat} (hd : d.length = 32) (hk : k < 32) : ((digR d k).set (2 * k) (d.getD k 0 / 16)).set (2 * k + 1) (d.getD k 0 % 16) = digR d (k + 1) := by
 have hl : (nibs (d.take k)).length = 2 * k := by rw [nibs_len, List.length_take, hd]; omega
 have e1 : List.replicate (67 - 2 * k) 0 = 0 :: 0 :: List.replicate (67 - 2 * (k + 1)) 0 := by
  rw [show 67 - 2 * k = (67 - 2 * (k + 1)) + 1 + 1 by omega, List.replicate_succ, List.replicate_succ]
 have e2 : d.take (k + 1) = d.take k ++ [d.getD k 0] := by
  rw [List.take_add_one, List.getD_eq_getElem?_getD, List.getElem?_eq_getElem (by omega)]
  rfl
 unfold digR
 rw [e1, e2, nibs_app, List.set_append_right _ _ (by omega), hl, Nat.sub_self, List.set_cons_zero, List.set_append_right _ _ (by omega), hl, show 2 * k + 1 - 2 * k = 1 by omega, List.set_cons_succ, List.set_cons_zero, List.append_assoc]
 rfl
theorem digR_end {d : List Nat} (hd : d.length = 32) : (((digR d 32).set 64 (lackN (nibs d) / 256)).set 65 (lackN (nibs d) / 16 % 16)).set 66 (lackN (nibs d) % 16) = digL d := by
 have hl : (nibs d).length = 64 := by rw [nibs_len, hd]
 unfold digR digL tailN
 rw [List.take_of_length_le (by omega)]
 rw [List.set_append_right _ _ (by omega), List.set_append_right _ _ (by omega), List.set_append_right _ _ (by omega), hl]
 rfl
theorem lack_next {d : List Nat} {k : Nat} (hd : d.length = 32) (hk : k < 32) : lackN (nibs (d.take (k + 1))) = lackN (nibs (d.take k)) + ((15 - d.getD k 0 / 16) + (15 - d.getD k 0 % 16)) := by
 have e2 : d.take (k + 1) = d.take k ++ [d.getD k 0] := by
  rw [List.take_add_one, List.getD_eq_getElem?_getD, List.getElem?_eq_getElem (by omega)]
  rfl
 rw [e2, nibs_app, lackN_app]
 simp [nibs, lackN]
set_option maxHeartbeats 20000000 in
set_option maxRecDepth 100000 in
theorem digits_any (d : List Nat) (hd : d.length = 32) (hb : ∀ x ∈ d, x < 256) (w : World) :
  Calls Tryz.prog 81 #[digV d] w (fun e w' => e = .returned (.agg (rowN (digL d))) ∧ Below w.heap.size w w') := by
 have B1 : Hid (Below w.heap.size w ((w.alloc (.cells (rowY d) 23)).alloc (.cells Tryz.zeroCells117 117))) := aside (((Below.refl _ _).alloc (Nat.le_refl _) _).alloc (by simp) _)
 have D0 : Hid (BlkY ((w.alloc (.cells (rowY d) 23)).alloc (.cells Tryz.zeroCells117 117)) w.heap.size 23 d) := aside ((BlkY.new w _ _).alloc _)
 have D1 : Hid (BlkN ((w.alloc (.cells (rowY d) 23)).alloc (.cells Tryz.zeroCells117 117)) (w.heap.size + 1) 117 (digR d 0)) := aside (by
  rw [zero67]
  have h := BlkN.new (w.alloc (.cells (rowY d) 23)) 117 (List.replicate 67 0)
  rwa [show (w.alloc (.cells (rowY d) 23)).heap.size = w.heap.size + 1 by simp] at h)
 have HDl := aside hd
 have HDb := aside hb
 have HS7 := aside (zinfo d hd)
 clear hd hb
 unfold digV
 go_enter Tryz.func81, Tryz.ntmps81
 go_upto_region 1 with fail
 change Code.wp _ _ _ _ ((w.alloc (.cells (rowY d) 23)).alloc (.cells Tryz.zeroCells117 117))
 generalize ((w.alloc (.cells (rowY d) 23)).alloc (.cells Tryz.zeroCells117 117)) = w1 at B1 D0 D1 ⊢
 obtain ⟨B0, hB0⟩ : ∃ B0, B0 = w.heap.size := ⟨_, rfl⟩
 have EB := aside hB0
 simp only [← hB0] at D0 D1 ⊢
 clear hB0
 obtain ⟨bn, hbn⟩ : ∃ bn, bn = B0 + 1 := ⟨_, rfl⟩
 have EN := aside hbn
 rw [← hbn] at D1 ⊢
 clear hbn
 go_upto_region 3 with (first
  | (refine wpList_load_row rfl 23 (.tmp 1) rfl B0 rfl 23 (rowY d) (0, 0) _ D0.out Tryz.underlying23 rfl HS7.out ?_)
  | fail)
 go_loopw [3, 7] (fun v3 v7 wr => ∃ k s : Nat, k ≤ 32 ∧ s ≤ 30 * k ∧ v7 = .int .i64 k ∧ v3 = .int .i64 s ∧ Hid (s = lackN (nibs (d.take k))) ∧ Hid (BlkN wr bn 117 (digR d k)) ∧ Hid (Below w.heap.size w wr)) (fun _ v7 _ => 32 - (Go.RowKit.intOf v7).toNat)
 case atStart => exact ⟨0, 0, Nat.zero_le _, Nat.zero_le _, rfl, rfl, aside rfl, D1, B1⟩
 case round =>
  clear D0 D1 B1 HS7
  obtain ⟨k, s, hk, hs, rfl, rfl, HS, D1, HB⟩ := hrel
  by_cases hkn : k < 32
  ·have k0 : (k : Int) < 32 := by omega
   have hid : ∀ W : World, (Instr.index 23 (.agg (rowY d)) (.int .i64 (k : Int))).run Tryz.prog W = .ok (.int .u8 ((d.getD k 0 : Nat) : Int)) W := fun W => idx_dig d HDl.out k hkn W
   have hx : d.getD k 0 < 256 := by
    rw [List.getD_eq_getElem?_getD, List.getElem?_eq_getElem (by rw [HDl.out]; exact hkn)]
    exact HDb.out _ (List.getElem_mem _)
   have hnx := digR_next HDl.out hkn
   have hln := lack_next HDl.out hkn
   have hlr := digR_len HDl.out (Nat.le_of_lt hkn)
   generalize d.getD k 0 = x at *
   obtain ⟨a, ha⟩ : ∃ a, a = 2 * k := ⟨_, rfl⟩
   obtain ⟨b, hbb⟩ : ∃ b, b = a + 1 := ⟨_, rfl⟩
   obtain ⟨p, hp⟩ : ∃ p, p = x / 16 := ⟨_, rfl⟩
   obtain ⟨q, hq⟩ : ∃ q, q = x % 16 := ⟨_, rfl⟩
   rw [← hp, ← hq, ← ha, ← hbb] at hnx
   rw [← hp, ← hq] at hln
   have xm1 : (x : Int) % 16 = (q : Int) := by omega
   have m1 : IntKind.i64.wrap (2 * (k : Int)) = (a : Int) := by rw [IntKind.wrap_i64]; omega
   have m2 : IntKind.i64.wrap ((a : Int) + 1) = (b : Int) := by rw [IntKind.wrap_i64]; omega
   have sh1 : (x : Int) / 16 = (p : Int) := by omega
   have cw1 : IntKind.i64.wrap (p : Int) = (p : Int) := by rw [IntKind.wrap_i64]; omega
   have cw2 : IntKind.i64.wrap (q : Int) = (q : Int) := by rw [IntKind.wrap_i64]; omega
   have ia0 : (0 : Int) ≤ (a : Int) := by omega
   have ia1 : (a : Int) < 67 := by omega
   have ib0 : (0 : Int) ≤ (b : Int) := by omega
   have ib1 : (b : Int) < 67 := by omega
   have c0 := D1.out.cell (k := a) (by rw [hlr]; omega)
   have f0 := D1.out.fz a
   have D2 := D1.out.set a p
   have c1 := D2.cell (k := b) (by rw [List.length_set, hlr]; omega)
   have f1 := D2.fz b
   have D3 : Hid (BlkN ((wr.setCell ⟨bn, a, none⟩ (.int .i64 (p : Int))).setCell ⟨bn, b, none⟩ (.int .i64 (q : Int))) bn 117 (digR d (k + 1))) := aside (by
    have h9 := D2.set b q
    rwa [hnx] at h9)
   have HB3 : Hid (Below w.heap.size w ((wr.setCell ⟨bn, a, none⟩ (.int .i64 (p : Int))).setCell ⟨bn, b, none⟩ (.int .i64 (q : Int)))) := aside ((HB.out.setCell (p := ⟨bn, a, none⟩) (by rw [EN.out, EB.out]; exact Nat.le_succ _) _).setCell (p := ⟨bn, b, none⟩) (by rw [EN.out, EB.out]; exact Nat.le_succ _) _)
   have HCa : Hid ((digR d (k + 1)).getD a 0 = p ∧ (digR d (k + 1)).getD b 0 = q) := aside (by
    rw [← hnx]
    constructor
    ·rw [List.getD_eq_getElem?_getD, List.getElem?_set_ne (by omega), List.getElem?_set_self (by rw [hlr]; omega)]
     rfl
    ·rw [List.getD_eq_getElem?_getD, List.getElem?_set_self (by rw [List.length_set, hlr]; omega)]
     rfl)
   have HLr2 : Hid ((digR d (k + 1)).length = 67) := aside (digR_len HDl.out (by omega))
   have HS2 : Hid (s + (30 - p - q) = lackN (nibs (d.take (k + 1)))) := aside (by rw [hln, ← HS.out]; omega)
   have HPq : Hid (p ≤ 15 ∧ q ≤ 15 ∧ a < 67 ∧ b < 67) := aside (by omega)
   have hab : a ≠ b := by omega
   clear hnx hln D2 ha hbb hp hq hlr D1 HB
   go_upto_region 6 with fail
   change Code.wp _ _ _ _ ((wr.setCell ⟨bn, a, none⟩ (.int .i64 (p : Int))).setCell ⟨bn, b, none⟩ (.int .i64 (q : Int)))
   generalize ((wr.setCell ⟨bn, a, none⟩ (.int .i64 (p : Int))).setCell ⟨bn, b, none⟩ (.int .i64 (q : Int))) = w3 at D3 HB3 ⊢
   obtain ⟨hp15, hq15, ha67, hb67⟩ := HPq.out
   have y0 := D3.out.cell (k := a) (by rw [HLr2.out]; exact ha67)
   have y1 := D3.out.cell (k := b) (by rw [HLr2.out]; exact hb67)
   rw [HCa.out.1] at y0
   rw [HCa.out.2] at y1
   obtain ⟨e1, he1⟩ : ∃ e1, e1 = 30 - p := ⟨_, rfl⟩
   obtain ⟨e2, he2⟩ : ∃ e2, e2 = e1 - q := ⟨_, rfl⟩
   obtain ⟨s2, hs2⟩ : ∃ s2, s2 = s + e2 := ⟨_, rfl⟩
   have s1 : IntKind.i64.wrap (30 - (p : Int)) = (e1 : Int) := by rw [IntKind.wrap_i64]; omega
   have s3 : IntKind.i64.wrap ((e1 : Int) - (q : Int)) = (e2 : Int) := by rw [IntKind.wrap_i64]; omega
   have s4 : IntKind.i64.wrap ((s : Int) + (e2 : Int)) = (s2 : Int) := by rw [IntKind.wrap_i64]; omega
   have HSn : Hid (s2 = lackN (nibs (d.take (k + 1)))) := aside (by rw [← HS2.out]; omega)
   have HSl : Hid (s2 ≤ 30 * (k + 1)) := aside (by omega)
   clear he1 he2 hs2 c0 c1 f0 f1 hp15 hq15
   go_quiet (fail)
   go_wp2
   exact ⟨⟨k + 1, s2, by omega, HSl.out, by go_num, rfl, HSn, D3, aside (below_drawn HB3.out _)⟩, by simp [Go.RowKit.intOf]; omega⟩
  ·obtain rfl : k = 32 := by omega
   rw [List.take_of_length_le (Nat.le_of_eq HDl.out)] at HS
   have hlr := digR_len HDl.out (Nat.le_refl 32)
   have hen := digR_end HDl.out
   rw [← HS.out] at hen
   obtain ⟨p, hp⟩ : ∃ p, p = s / 256 := ⟨_, rfl⟩
   obtain ⟨r, hr⟩ : ∃ r, r = s / 16 := ⟨_, rfl⟩
   obtain ⟨q, hq⟩ : ∃ q, q = r % 16 := ⟨_, rfl⟩
   obtain ⟨o, ho⟩ : ∃ o, o = s % 16 := ⟨_, rfl⟩
   rw [← hp, ← hr, ← hq, ← ho] at hen
   have ba1 : bits .and .i64 (r : Int) 15 = (q : Int) := by rw [hq]; exact bits15 r (by omega)
   have ba2 : bits .and .i64 (s : Int) 15 = (o : Int) := by rw [ho]; exact bits15 s (by omega)
   have sh1 : (s : Int) / 256 = (p : Int) := by omega
   have sh2 : (s : Int) / 16 = (r : Int) := by omega
   have c0 := D1.out.cell (k := 64) (by rw [hlr]; omega)
   have f0 := D1.out.fz 64
   have D2 := D1.out.set 64 p
   have c1 := D2.cell (k := 65) (by rw [List.length_set, hlr]; omega)
   have f1 := D2.fz 65
   have D3 := D2.set 65 q
   have c2 := D3.cell (k := 66) (by rw [List.length_set, List.length_set, hlr]; omega)
   have f2 := D3.fz 66
   have D4 := D3.set 66 o
   rw [hen] at D4
   have HD4 := aside D4
   have HB4 : Hid (Below w.heap.size w (((wr.setCell ⟨bn, 64, none⟩ (.int .i64 (p : Int))).setCell ⟨bn, 65, none⟩ (.int .i64 (q : Int))).setCell ⟨bn, 66, none⟩ (.int .i64 (o : Int)))) := aside (((HB.out.setCell (p := ⟨bn, 64, none⟩) (by rw [EN.out, EB.out]; exact Nat.le_succ _) _).setCell (p := ⟨bn, 65, none⟩) (by rw [EN.out, EB.out]; exact Nat.le_succ _) _).setCell (p := ⟨bn, 66, none⟩) (by rw [EN.out, EB.out]; exact Nat.le_succ _) _)
   have hdl := digL_len HDl.out
   have HDg := aside hdl
   clear hkn hlr hen hp hr hq ho D2 D3 D4 D1 HB hdl
   go_upto_region 9 with fail
   change Code.wp _ _ _ _ (((wr.setCell ⟨bn, 64, none⟩ (.int .i64 (p : Int))).setCell ⟨bn, 65, none⟩ (.int .i64 (q : Int))).setCell ⟨bn, 66, none⟩ (.int .i64 (o : Int)))
   generalize (((wr.setCell ⟨bn, 64, none⟩ (.int .i64 (p : Int))).setCell ⟨bn, 65, none⟩ (.int .i64 (q : Int))).setCell ⟨bn, 66, none⟩ (.int .i64 (o : Int))) = w4 at HD4 HB4 ⊢
   obtain ⟨X, hX⟩ : ∃ X, X = digL d := ⟨_, rfl⟩
   have HX := aside hX
   rw [← hX] at HD4 HDg
   have HS9 : Hid ((Tryz.prog.info? 117).map (·.size) = some (rowN X).size) := aside (info67 X HDg.out)
   clear c0 c1 c2 f0 f1 f2 hX
   go_wp2_with (first
    | (refine wpList_load_row rfl 117 (.tmp 2) rfl bn rfl 117 (rowN X) (0, 0) _ HD4.out Tryz.underlying117 rfl HS9.out ?_)
    | (refine wpList_store_row rfl 117 (.tmp 2) (.tmp 48) rfl bn (rowN X) rfl rfl 117 (rowN X) HD4.out HS9.out rfl (rowN_one _) ?_)
    | fail)
   refine bodyPost_ret (results_cell_row rfl _ _ bn 117 (rowN X) (0, 0) _ rfl (setRow_heap w4 bn _ _ _ _ HD4.out) Tryz.underlying117 rfl HS9.out) rfl ?_
   exact ⟨by rw [← HX.out] <;> rfl, below_setRow HB4.out _ (by rw [EN.out, EB.out]; exact Nat.le_succ _) _⟩
end Go.Proofs.YtbpabjhcjffkmaaGreatDoor

/- A signature: key.ends of it, key.Sign: the walks. Conditions: named in each theorem. -/
namespace Go.Proofs.YtbpabjhcjffkmaaGreatDoor
open Go.RowKit Go.ChangeShapes Go.WideShapes Go.ChangeAt

theorem sgn1_any (ns : List Nat) (hn : ns.length = 67) (i : Nat) (hi : i < 67) (nb : Nat) (w : World) (h : BlkN w nb 117 ns) :
  Calls Tryz.prog 84 #[.int .i64 (i : Int), .pointer (some ⟨nb, 0, none⟩)] w (fun e w' => e = .returned (.int .i64 ((ns.getD i 0 : Nat) : Int)) ∧ w' = w) := by
 have c0 := h.cell (k := i) (by omega)
 have i0 : (0 : Int) ≤ (i : Int) := by omega
 have i1 : (i : Int) < 67 := by omega
 generalize ns.getD i 0 = y at c0 ⊢
 clear h hn
 go_enter Tryz.func84, Tryz.ntmps84
 go_wp2
 go_ret
 exact ⟨rfl, rfl⟩
/-- What has been filled, and what has not. -/
def sigR (d ns : List Nat) (i : Nat) : List Nat := (sigN d ns i).flatMap id ++ List.replicate ((67 - i) * 32) 0
theorem sigR_len {d ns : List Nat} {i : Nat} (h : i ≤ 67) : (sigR d ns i).length = 2144 := by
 unfold sigR
 rw [List.length_append, sigN_flat, List.length_replicate]
 omega
theorem BlkY.sig_ {w : World} {b : Nat} {T : TypeId} {d ns : List Nat} {i : Nat} (h : BlkY w b T (sigR d ns i)) (hi : i < 67) : BlkY (w.setCells b (i * 32) (u8s (stepL (ns.getD i 0) (macL d [5, i])))) b T (sigR d ns (i + 1)) := by
 have e : sigR d ns i = (sigN d ns i).flatMap id ++ List.replicate 32 0 ++ List.replicate ((67 - (i + 1)) * 32) 0 := by
  unfold sigR
  rw [List.append_assoc, List.replicate_append_replicate, show 32 + (67 - (i + 1)) * 32 = (67 - i) * 32 by omega]
 rw [e] at h
 have h2 := BlkY.fill (stepL (ns.getD i 0) (macL d [5, i])) (List.replicate 32 0) _ _ w h (by rw [stepL_len (macL_len _ _)]; simp)
 rw [sigN_flat, ← sigN_succ] at h2
 exact h2
set_option maxHeartbeats 20000000 in
set_option maxRecDepth 100000 in
theorem sends_any (d ns : List Nat) (hn : ns.length = 67) (hs15 : ∀ y ∈ ns, y ≤ 15) (nb : Nat) (hd : d.length = 32) (hb : ∀ x ∈ d, x < 256) (sb : Nat) (w : World) (hs : BlkY w sb 23 d) (hnb : BlkN w nb 117 ns) (hg : RoundsAt w) :
  Calls Tryz.prog 82 #[.func (.func 118) #[] #[.pointer (some ⟨sb, 0, none⟩)], .func (.func 84) #[] #[.pointer (some ⟨nb, 0, none⟩)]] w (fun e w' => e = .returned (.agg (rowY ((sigN d ns 67).flatMap id))) ∧ Below w.heap.size w w') := by
 have HG := aside hg
 have HDb := aside hb
 have HDl := aside hd
 have B1 : Hid (Below w.heap.size w (w.alloc (.cells Tryz.zeroCells119 119))) := aside ((Below.refl _ _).alloc (Nat.le_refl _) _)
 have D1 : Hid (BlkY (w.alloc (.cells Tryz.zeroCells119 119)) w.heap.size 119 (sigR d ns 0)) := aside (by
  rw [zero65]
  exact BlkY.new w _ _)
 have DS := aside (hs.below B1.out hs.lt)
 have hsb := hs.lt
 have DN := aside (hnb.below B1.out hnb.lt)
 have hnl := hnb.lt
 have HNl := aside hn
 have HN15 := aside hs15
 clear hg hb hd hs hnb hn hs15
 go_enter Tryz.func82, Tryz.ntmps82
 go_wp2_with fail
 generalize (w.alloc (.cells Tryz.zeroCells119 119)) = w1 at B1 D1 DS DN ⊢
 obtain ⟨B0, hB0⟩ : ∃ B0, B0 = w.heap.size := ⟨_, rfl⟩
 have EB := aside hB0
 simp only [← hB0] at D1 ⊢
 rw [← hB0] at hsb hnl
 clear hB0
 go_loopw [6] (fun v6 wr => ∃ i : Nat, i ≤ 67 ∧ v6 = .int .i64 i ∧ Hid (BlkY wr B0 119 (sigR d ns i)) ∧ Hid (BlkY wr sb 23 d) ∧ Hid (BlkN wr nb 117 ns) ∧ Hid (Below w.heap.size w wr)) (fun v6 _ => 67 - (Go.RowKit.intOf v6).toNat)
 case atStart => exact ⟨0, by omega, rfl, D1, DS, DN, B1⟩
 case round =>
  clear D1 DS DN B1
  obtain ⟨i, hi, rfl, D1, DS, DN, HB⟩ := hrel
  by_cases hi6 : i < 67
  ·have i0 : (i : Int) < 67 := by omega
   have hwz := HB.out.size
   have hB0r := D1.out.lt
   go_wp2_with fail
   refine (secret_any d HDl.out HDb.out i (by omega) sb wr DS.out (HG.out.below HB.out)).mono ?_
   rintro e w2 ⟨rfl, hb2⟩
   have HB2 := aside (HB.out.trans (hb2.mono hwz))
   have D12 := aside (D1.out.below hb2 hB0r)
   have DS2 := aside (DS.out.below hb2 DS.out.lt)
   have DN2 := aside (DN.out.below hb2 DN.out.lt)
   have hy15 : ns.getD i 0 ≤ 15 := HN15.out _ (by
    rw [List.getD_eq_getElem?_getD, List.getElem?_eq_getElem (by rw [HNl.out]; exact hi6)]
    exact List.getElem_mem _)
   clear hb2 D1 DS DN
   go_wp2_with fail
   refine (sgn1_any ns HNl.out i hi6 nb w2 DN2.out).mono ?_
   rintro e w3 ⟨rfl, hw3⟩
   rw [hw3]
   clear hw3 w3
   go_wp2_with fail
   refine (step_any (macL d [5, i]) (macL_len _ _) (macL_small _ _) (ns.getD i 0) (by omega) w2 (HG.out.below HB2.out)).mono ?_
   rintro e w3 ⟨rfl, hb3⟩
   have HB3 := aside (HB2.out.trans (hb3.mono HB2.out.size))
   have D13 := aside (D12.out.below hb3 D12.out.lt)
   have DS3 := aside (DS2.out.below hb3 DS2.out.lt)
   have DN3 := aside (DN2.out.below hb3 DN2.out.lt)
   clear hb3 D12 DS2 DN2 HB2
   have hnx := D13.out.sig_ hi6
   have hth := D13.out.there (i * 32) 32 (by rw [sigR_len hi]; omega)
   have hXl := stepL_len (macL_len d [5, i]) (ns.getD i 0)
   generalize stepL (ns.getD i 0) (macL d [5, i]) = X at hnx hXl ⊢
   rw [← rowY_list] at hnx
   have HTh : Hid (w3.there B0 (i * 32) (rowY X).size) := aside (by rw [rowY_size, hXl]; exact hth)
   have HS9 := aside (zinfo X hXl)
   have D14 := aside hnx
   have HB4 : Hid (Below w.heap.size w (w3.setCells B0 (i * 32) (rowY X).toList)) := aside (below_cells (by rw [EB.out]; exact Nat.le_refl _) _ _ _ HB3.out)
   have DS4 : Hid (BlkY (w3.setCells B0 (i * 32) (rowY X).toList) sb 23 d) := aside ((below_cells (B := B0) (Nat.le_refl _) _ _ _ (Below.refl B0 w3)).block sb hsb |>.trans DS3.out)
   have DN4 : Hid (BlkN (w3.setCells B0 (i * 32) (rowY X).toList) nb 117 ns) := aside ((below_cells (B := B0) (Nat.le_refl _) _ _ _ (Below.refl B0 w3)).block nb hnl |>.trans DN3.out)
   clear hnx hth DS3 DN3 HB3 D13 hy15
   go_wp2_with (first
    | (refine wpList_store_mid rfl 23 (.tmp 17) (.tmp 16) rfl B0 (i * 32) (rowY X) rfl rfl HTh.out HS9.out (rowY_one _) ?_)
    | fail)
   exact ⟨⟨i + 1, by omega, by go_num, D14, DS4, DN4, HB4⟩, by simp [Go.RowKit.intOf]; omega⟩
  ·obtain rfl : i = 67 := by omega
   clear hi6
   have HE : Hid (sigR d ns 67 = (sigN d ns 67).flatMap id) := aside (by unfold sigR; simp)
   have hl := sigR_len (d := d) (ns := ns) (i := 67) (Nat.le_refl _)
   rw [HE.out] at D1 hl
   obtain ⟨X, hX⟩ : ∃ X, X = (sigN d ns 67).flatMap id := ⟨_, rfl⟩
   rw [← hX] at D1 hl
   have HX := aside hX
   have HS9 : Hid ((Tryz.prog.info? 119).map (·.size) = some (rowY X).size) := aside (by rw [rowY_size, hl]; kernel_rfl)
   clear hX HE
   go_wp2_with (first
    | (refine wpList_load_row rfl 119 (.tmp 4) rfl B0 rfl 119 (rowY X) (0, 0) _ D1.out Tryz.underlying119 rfl HS9.out ?_)
    | (refine wpList_store_row rfl 119 (.tmp 4) (.tmp 19) rfl B0 (rowY X) rfl rfl 119 (rowY X) D1.out HS9.out rfl (rowY_one _) ?_)
    | fail)
   refine bodyPost_ret (results_cell_row rfl _ _ B0 119 (rowY X) (0, 0) _ rfl (setRow_heap wr B0 _ _ _ _ D1.out) Tryz.underlying119 rfl HS9.out) rfl ?_
   exact ⟨by rw [← HX.out] <;> rfl, below_setRow HB.out _ (by rw [EB.out]; exact Nat.le_refl _) _⟩
theorem rowY_part (L : List Nat) (o n : Nat) : (rowY L).extract o (o + n) = rowY ((L.drop o).take n) := by
 unfold rowY
 rw [List.extract_toArray, List.extract_eq_drop_take', ← List.map_take, ← List.map_drop]
 congr 2
 rw [List.drop_take]
 congr 1
 omega
set_option maxRecDepth 100000 in
theorem idx_digs (L : List Nat) (k : Nat) (hk : k < 67) (w : World) : (Instr.index 119 (.agg (rowY L)) (.int .i64 (k : Int))).run Tryz.prog w = .ok (.agg (rowY ((L.drop (k * 32)).take 32))) w := by
 obtain ⟨i0, hI, -, hIs, -⟩ := info_parts infoD
 have hr : (0 : Int) ≤ (k : Int) ∧ (k : Int) < 67 := by omega
 simp [Instr.index, part, asIntOf, run_underlying Tryz.underlying119, hr, sizeOf, typeInfo, hI, hIs, rowY_part]
 try (intro h9; omega)
theorem sig_part {d ns : List Nat} {k : Nat} (hk : k < 67) : (((sigN d ns 67).flatMap id).drop (k * 32)).take 32 = stepL (ns.getD k 0) (macL d [5, k]) := by
 have h1 : ∀ m, k < m → m ≤ 67 → (((sigN d ns m).flatMap id).drop (k * 32)).take 32 = stepL (ns.getD k 0) (macL d [5, k]) := by
  intro m hm hm2
  induction m with
  | zero => omega
  | succ m ih =>
   rw [sigN_succ]
   by_cases e : k = m
   ·subst e
    rw [List.drop_append_of_le_length (by rw [sigN_flat]; exact Nat.le_refl _), List.drop_of_length_le (by rw [sigN_flat]; exact Nat.le_refl _), List.nil_append]
    exact List.take_of_length_le (by rw [stepL_len (macL_len _ _)]; exact Nat.le_refl _)
   ·rw [List.drop_append_of_le_length (by rw [sigN_flat]; omega), List.take_append_of_le_length (by rw [List.length_drop, sigN_flat]; omega)]
    exact ih (by omega) (by omega)
 exact h1 67 hk (Nat.le_refl _)
set_option maxHeartbeats 20000000 in
set_option maxRecDepth 100000 in
theorem sign_any (d m : List Nat) (hd : d.length = 32) (hb : ∀ x ∈ d, x < 256) (hm : m.length = 32) (hmb : ∀ x ∈ m, x < 256) (w : World) (hg : RoundsAt w) :
  Calls Tryz.prog 37 #[digV d, digV m] w (fun e w' => ∃ v, e = .returned v ∧ BRow w' w.heap.size v (signL d m) ∧ Below w.heap.size w w') := by
 have B1 : Hid (Below w.heap.size w ((w.alloc (.cells (rowY d) 23)).alloc (.cells (rowY m) 23))) := aside (((Below.refl _ _).alloc (Nat.le_refl _) _).alloc (by simp) _)
 have D0 : Hid (BlkY ((w.alloc (.cells (rowY d) 23)).alloc (.cells (rowY m) 23)) w.heap.size 23 d) := aside ((BlkY.new w _ _).alloc _)
 have D1 : Hid (BlkY ((w.alloc (.cells (rowY d) 23)).alloc (.cells (rowY m) 23)) (w.heap.size + 1) 23 m) := aside (by
  have h := BlkY.new (w.alloc (.cells (rowY d) 23)) 23 m
  rwa [show (w.alloc (.cells (rowY d) 23)).heap.size = w.heap.size + 1 by simp] at h)
 have HDl := aside hd
 have HDb := aside hb
 have HMl := aside hm
 have HMb := aside hmb
 have HG := aside hg
 have HS7 := aside (zinfo m hm)
 have HS6 := aside (zinfo d hd)
 have HNl : Hid ((digL m).length = 67) := aside (digL_len hm)
 have HNs : Hid (∀ y ∈ digL m, y ≤ 15) := aside (digL_small hm hmb)
 clear hd hb hm hmb hg
 unfold digV
 go_enter Tryz.func37, Tryz.ntmps37
 go_upto_region 1 with fail
 change Code.wp _ _ _ _ ((w.alloc (.cells (rowY d) 23)).alloc (.cells (rowY m) 23))
 generalize ((w.alloc (.cells (rowY d) 23)).alloc (.cells (rowY m) 23)) = w1 at B1 D0 D1 ⊢
 obtain ⟨B0, hB0⟩ : ∃ B0, B0 = w.heap.size := ⟨_, rfl⟩
 have EB := aside hB0
 simp only [← hB0] at D0 D1 ⊢
 clear hB0
 have l0 := D0.out.lt
 go_wp2_with (first
  | (refine wpList_load_row rfl 23 (.tmp 3) rfl (B0 + 1) rfl 23 (rowY m) (0, 0) _ D1.out Tryz.underlying23 rfl HS7.out ?_)
  | fail)
 refine (show Calls _ _ #[digV m] _ _ from digits_any m HMl.out HMb.out w1).mono ?_
 rintro e w2 ⟨rfl, hb2⟩
 have HB2 := aside hb2
 have D02 : Hid (BlkY w2 B0 23 d) := aside (D0.out.below hb2 l0)
 obtain ⟨ns, hns⟩ : ∃ ns, ns = digL m := ⟨_, rfl⟩
 have HNe := aside hns
 rw [← hns] at HNl HNs ⊢
 have HN9 : Hid ((Tryz.prog.info? 117).map (·.size) = some (rowN ns).size) := aside (info67 ns HNl.out)
 have HN8 : Hid ((rowN (List.replicate 67 0)).size = (rowN ns).size) := aside (by rw [rowN_size, rowN_size, HNl.out]; simp)
 have DZ : Hid (BlkN (w2.alloc (.cells Tryz.zeroCells117 117)) w2.heap.size 117 (List.replicate 67 0)) := aside (by rw [zero67]; exact BlkN.new _ _ _)
 clear hb2 D1 D0 hns HS7
 go_upto_region 2 with (first
  | (refine wpList_store_row rfl 117 (.tmp 5) (.tmp 10) rfl w2.heap.size (rowN ns) rfl rfl 117 (rowN (List.replicate 67 0)) DZ.out HN9.out HN8.out (rowN_one _) ?_)
  | fail)
 have HB3 : Hid (Below w2.heap.size w2 ((w2.alloc (.cells Tryz.zeroCells117 117)).setRow w2.heap.size (rowN ns))) := aside (below_setRow ((Below.refl _ _).alloc (Nat.le_refl _) _) _ (Nat.le_refl _) _)
 have DN3 : Hid (BlkN ((w2.alloc (.cells Tryz.zeroCells117 117)).setRow w2.heap.size (rowN ns)) w2.heap.size 117 ns) := aside (setRow_heap _ _ _ _ _ _ DZ.out)
 change Code.wp _ _ _ _ ((w2.alloc (.cells Tryz.zeroCells117 117)).setRow w2.heap.size (rowN ns))
 generalize ((w2.alloc (.cells Tryz.zeroCells117 117)).setRow w2.heap.size (rowN ns)) = w3 at HB3 DN3 ⊢
 obtain ⟨nb, hnb⟩ : ∃ nb, nb = w2.heap.size := ⟨_, rfl⟩
 rw [← hnb] at DN3 ⊢
 have D03 : Hid (BlkY w3 B0 23 d) := aside (D02.out.below HB3.out D02.out.lt)
 have HB13 : Hid (Below w1.heap.size w1 w3) := aside (HB2.out.trans (HB3.out.mono HB2.out.size))
 clear hnb DZ HN9 HN8 HB3 HB2 D02
 go_wp2_with (first
  | (refine wpList_load_row rfl 23 (.tmp 2) rfl B0 rfl 23 (rowY d) (0, 0) _ D03.out Tryz.underlying23 rfl HS6.out ?_)
  | fail)
 refine (show Calls _ _ #[digV d] _ _ from secrets_any d w3).mono ?_
 rintro e w4 ⟨sb, rfl, hs4, hb4⟩
 have HSb := aside hs4
 have DN4 : Hid (BlkN w4 nb 117 ns) := aside (DN3.out.below hb4 DN3.out.lt)
 have HB4 : Hid (Below w1.heap.size w1 w4) := aside (HB13.out.trans (hb4.mono HB13.out.size))
 have HBw4 : Hid (Below w.heap.size w w4) := aside (B1.out.trans (HB4.out.mono B1.out.size))
 clear hs4 hb4 D03 DN3 HB13 HS6
 go_wp2_with fail
 refine (sends_any d ns HNl.out HNs.out nb HDl.out HDb.out sb w4 HSb.out DN4.out (HG.out.below HBw4.out)).mono ?_
 rintro e w5 ⟨rfl, hb5⟩
 have HB5 : Hid (Below w1.heap.size w1 w5) := aside (HB4.out.trans (hb5.mono HB4.out.size))
 obtain ⟨L, hL⟩ : ∃ L, L = (sigN d ns 67).flatMap id := ⟨_, rfl⟩
 have HLe := aside hL
 rw [← hL]
 have HV5 : Hid (BRow w5 w1.heap.size (.slice none 0 0) ((sigN d ns 0).flatMap id)) := aside (BRow.nil _ _)
 clear hL hb5 HSb DN4 HB4 HBw4
 go_upto_region 4 with fail
 go_loopw [6, 15] (fun v6 v15 wr => ∃ i : Nat, i ≤ 67 ∧ v15 = .int .i64 i ∧ Hid (BRow wr w1.heap.size v6 ((sigN d ns i).flatMap id)) ∧ Hid (Below w1.heap.size w1 wr)) (fun _ v15 _ => 67 - (Go.RowKit.intOf v15).toNat)
 case atStart => exact ⟨0, by omega, rfl, HV5, HB5⟩
 case round =>
  clear HV5 HB5
  obtain ⟨i, hi, rfl, HV, HB⟩ := hrel
  by_cases hin : i < 67
  ·have i0 : (i : Int) < 67 := by omega
   have hid := fun W : World => idx_digs L i hin W
   rw [HLe.out, sig_part (d := d) (ns := ns) hin, ← HLe.out] at hid
   have hnx := sigN_succ d ns i
   have hfl := sigN_flat d ns i
   have hYl := stepL_len (macL_len d [5, i]) (ns.getD i 0)
   generalize stepL (ns.getD i 0) (macL d [5, i]) = Y at hid hnx hYl
   have HNx := aside hnx
   have HFl := aside hfl
   have HYl := aside hYl
   have HS9 : Hid ((Tryz.prog.info? 23).map (·.size) = some (rowY Y).size) := aside (by rw [rowY_size, hYl]; kernel_rfl)
   have HS8 : Hid ((rowY (List.replicate 32 0)).size = (rowY Y).size) := aside (by rw [rowY_size, rowY_size, hYl]; rfl)
   have DZ : Hid (BlkY (wr.alloc (.cells (rowY (List.replicate 32 0)) 23)) wr.heap.size 23 (List.replicate 32 0)) := aside (BlkY.new _ _ _)
   clear hnx hfl hYl
   go_upto_region 6 with (first
    | (refine wpList_store_row rfl 23 (.tmp 8) (.tmp 17) rfl wr.heap.size (rowY Y) rfl rfl 23 (rowY (List.replicate 32 0)) DZ.out HS9.out HS8.out (rowY_one _) ?_)
    | fail)
   have HB6 : Hid (Below wr.heap.size wr ((wr.alloc (.cells (rowY (List.replicate 32 0)) 23)).setRow wr.heap.size (rowY Y))) := aside (below_setRow ((Below.refl _ _).alloc (Nat.le_refl _) _) _ (Nat.le_refl _) _)
   have DY6 : Hid (BlkY ((wr.alloc (.cells (rowY (List.replicate 32 0)) 23)).setRow wr.heap.size (rowY Y)) wr.heap.size 23 Y) := aside (setRow_heap _ _ _ _ _ _ DZ.out)
   change Code.wp _ _ _ _ ((wr.alloc (.cells (rowY (List.replicate 32 0)) 23)).setRow wr.heap.size (rowY Y))
   generalize ((wr.alloc (.cells (rowY (List.replicate 32 0)) 23)).setRow wr.heap.size (rowY Y)) = w6 at HB6 DY6 ⊢
   obtain ⟨b8, hb8⟩ : ∃ b8, b8 = wr.heap.size := ⟨_, rfl⟩
   rw [← hb8] at DY6 ⊢
   have HV6 := aside (HV.out.below HB6.out)
   have HYd : Hid (YSl w6 w6.heap.size (some ⟨b8, 0, none⟩) 32 Y) := aside (DY6.out.sl HYl.out DY6.out.lt)
   have HB7 : Hid (Below w1.heap.size w1 w6) := aside (HB.out.trans (HB6.out.mono HB.out.size))
   have hz6 := HB7.out.size
   have hlf := HFl.out
   have hly := HYl.out
   clear hb8 DZ HS9 HS8 hid HV HB HB6 DY6
   go_wp2_with (first
    | (at_builtin; refine wpList_bcat rfl (.tmp 18) (.tmp 19) rfl w1.heap.size rfl HV6.out rfl rfl HYd.out (by omega) hz6 ?_; intro v7 w7 hv7 hb7 hk7)
    | fail)
   have HV7 : Hid (BRow w7 w1.heap.size v7 ((sigN d ns (i + 1)).flatMap id)) := aside (by rw [HNx.out]; exact hv7)
   exact ⟨⟨i + 1, by omega, by go_num, HV7, aside (HB7.out.trans hb7)⟩, by simp [Go.RowKit.intOf]; omega⟩
  ·obtain rfl : i = 67 := by omega
   have HVs : Hid (BRow wr w1.heap.size u6 (signL d m)) := aside (by
    show BRow wr w1.heap.size u6 ((sigN d (digL m) 67).flatMap id)
    rw [← HNe.out]
    exact HV.out)
   clear hin HV
   go_wp2
   go_ret
   exact ⟨u6, rfl, HVs.out.less (by have := B1.out.size; omega), B1.out.trans (HB.out.mono B1.out.size)⟩
end Go.Proofs.YtbpabjhcjffkmaaGreatDoor
