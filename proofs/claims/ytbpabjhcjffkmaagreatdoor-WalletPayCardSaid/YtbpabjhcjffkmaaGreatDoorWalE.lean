/- Locks in memory; wallet.Lock: the walk. Conditions: named in each theorem. bytes.Equal; are two locks the same: the walks. Conditions: named in each theorem. Are two locks the same: the walks. Conditions: named in each theorem. wallet.locks: the walk. Conditions: named in each theorem. -/
import Derived.Test.YtbpabjhcjffkmaaGreatDoorWalA
import Derived.Laws.BytesArg
import Derived.Lib.Bytes
import Derived.Deep.QuietTactic
/- Locks in memory; wallet.Lock: the walk. Conditions: named in each theorem. -/
namespace Go.Proofs.YtbpabjhcjffkmaaGreatDoor
open Go.RowKit Go.ChangeShapes Go.WideShapes Go.ChangeAt

/-- An op as it lies: its data are a slice. -/
structure ROp where
 op : Int
 n : Int
 dA : Option Addr
 dn : Nat
 dc : Nat
 data : List Nat
/-- An op as it is. -/
abbrev POp := Int × Int × List Nat
def ROp.pl (r : ROp) : POp := (r.op, r.n, r.data)
def encR (r : ROp) : List Value := [.int .i64 r.op, .int .i64 r.n, .slice r.dA r.dn r.dc]
theorem encR_len (r : ROp) : (encR r).length = 3 := rfl
def noR : ROp := ⟨0, 0, none, 0, 0, []⟩
/-- A lock in memory. -/
structure RSl (w : World) (B : Nat) (A : Option Addr) (n : Nat) (rs : List ROp) : Prop where
 cells : FSl encR 3 w B A n rs
 data : ∀ r ∈ rs, YSl w B r.dA r.dn r.data
 byt : ∀ r ∈ rs, ∀ x ∈ r.data, x < 256
theorem RSl.below {w w' : World} {B n : Nat} {A : Option Addr} {rs : List ROp} (h : RSl w B A n rs) (hb : Below B w w') : RSl w' B A n rs := ⟨FSl.below h.cells hb, fun r hr => Sl.below (h.data r hr) hb, h.byt⟩
theorem RSl.more {w : World} {B B' n : Nat} {A : Option Addr} {rs : List ROp} (h : RSl w B A n rs) (hB : B ≤ B') : RSl w B' A n rs := ⟨FSl.more h.cells hB, fun r hr => Sl.more (h.data r hr) hB, h.byt⟩
theorem RSl.step {w w' : World} {n : Nat} {A : Option Addr} {rs : List ROp} (h : RSl w w.heap.size A n rs) (hb : Below w.heap.size w w') : RSl w' w'.heap.size A n rs := (h.below hb).more hb.size
theorem RSl.len {w : World} {B n : Nat} {A : Option Addr} {rs : List ROp} (h : RSl w B A n rs) : rs.length = n := FSl.len encR_len (by decide) h.cells
theorem RSl.drewN {w : World} {B n : Nat} {A : Option Addr} {rs : List ROp} (h : RSl w B A n rs) (q : Nat) : RSl (w.drewN q) B A n rs := ⟨FSl.drewN h.cells q, fun r hr => Sl.drewN (h.data r hr) q, h.byt⟩
theorem RSl.nil_ {w : World} {B : Nat} {A : Option Addr} : RSl w B A 0 [] := ⟨FSl.nil_, (fun r hr => by cases hr), (fun r hr => by cases hr)⟩
/-- A lock in memory, that lies in blocks from N on alone. -/
def RDep (w : World) (N : Nat) (A : Option Addr) (n : Nat) (rs : List ROp) : Prop := ∀ w' : World, (∀ b, N ≤ b → b < w.heap.size → w'.heap[b]? = w.heap[b]?) → w.heap.size ≤ w'.heap.size → RSl w' w'.heap.size A n rs
/-- The lock of a wallet's key. -/
def lockG (d : List Nat) (i : Int) : List POp := [(1, 0, pubL (seedG d i)), (8, 0, [])]
/-- The lock of a wallet's key, from 0 on. -/
def lockL (d : List Nat) (i : Nat) : List POp := [(1, 0, pubL (seedL d i)), (8, 0, [])]
set_option maxHeartbeats 20000000 in
set_option maxRecDepth 100000 in
theorem lockG_any (d : List Nat) (hd : d.length = 32) (hb : ∀ x ∈ d, x < 256) (i : Int) (hi : i < 9223372036854775808) (w : World) (hg : RoundsAt w) :
  Calls Tryz.prog 9 #[digV d, .int .i64 i] w (fun e w' => ∃ A rs, e = .returned (.slice A 2 2) ∧ RDep w' w.heap.size A 2 rs ∧ rs.map ROp.pl = lockG d i ∧ Below w.heap.size w w') := by
 have HG := aside hg
 have HDb := aside hb
 have HDl := aside hd
 have B1 : Hid (Below w.heap.size w (w.alloc (.cells (rowY d) 23))) := aside ((Below.refl _ _).alloc (Nat.le_refl _) _)
 have D0 : Hid (BlkY (w.alloc (.cells (rowY d) 23)) w.heap.size 23 d) := aside (BlkY.new w _ _)
 have HS7 := aside (zinfo d hd)
 clear hg hb hd
 unfold digV
 go_enter Tryz.func9, Tryz.ntmps9
 go_upto_region 1 with fail
 change Code.wp _ _ _ _ (w.alloc (.cells (rowY d) 23))
 generalize (w.alloc (.cells (rowY d) 23)) = w1 at B1 D0 ⊢
 go_wp2_with (first
  | (refine wpList_load_row rfl 23 (.tmp 2) rfl w.heap.size rfl 23 (rowY d) (0, 0) _ D0.out Tryz.underlying23 rfl HS7.out ?_)
  | fail)
 refine (show Calls _ _ #[digV d, _] _ _ from seedG_any d HDl.out HDb.out i hi w1 (HG.out.below B1.out)).mono ?_
 rintro e w2 ⟨rfl, hb2⟩
 have HB2 := aside (B1.out.trans (hb2.mono B1.out.size))
 clear hb2
 go_wp2_with fail
 refine (public_any (seedG d i) (seedG_len _ _) (seedG_small _ _) w2 (HG.out.below HB2.out)).mono ?_
 rintro e w3 ⟨rfl, hb3⟩
 have HB3 := aside (HB2.out.trans (hb3.mono HB2.out.size))
 clear hb3
 have hXl := pubL_len (seedG d i)
 obtain ⟨X, hX⟩ : ∃ X, X = pubL (seedG d i) := ⟨_, rfl⟩
 rw [← hX] at hXl ⊢
 have HX := aside hX
 have HXb : Hid (∀ x ∈ X, x < 256) := aside (by rw [hX]; exact pubL_small _)
 clear hX
 have HS9 := aside (zinfo _ hXl)
 have HS8 := aside (zsame _ _ zlen hXl)
 have DX := aside (BlkY.new w3 23 (List.replicate 32 0))
 go_upto_region 2 with (first
  | (refine wpList_store_row rfl 23 (.tmp 5) (.tmp 9) rfl w3.heap.size (rowY X) rfl rfl 23 (rowY (List.replicate 32 0)) DX.out HS9.out HS8.out (rowY_one _) ?_)
  | fail)
 have HB4 : Hid (Below w.heap.size w ((w3.alloc (.cells (rowY (List.replicate 32 0)) 23)).setRow w3.heap.size (rowY X))) := aside (below_setRow (HB3.out.alloc HB3.out.size _) _ HB3.out.size _)
 have DX4 : Hid (BlkY ((w3.alloc (.cells (rowY (List.replicate 32 0)) 23)).setRow w3.heap.size (rowY X)) w3.heap.size 23 X) := aside (setRow_heap _ _ _ _ _ _ DX.out)
 change Code.wp _ _ _ _ ((w3.alloc (.cells (rowY (List.replicate 32 0)) 23)).setRow w3.heap.size (rowY X))
 generalize ((w3.alloc (.cells (rowY (List.replicate 32 0)) 23)).setRow w3.heap.size (rowY X)) = w4 at HB4 DX4 ⊢
 obtain ⟨bx, hbx⟩ : ∃ bx, bx = w3.heap.size := ⟨_, rfl⟩
 have hbx0 : w.heap.size ≤ bx := by rw [hbx]; exact HB3.out.size
 rw [← hbx] at DX4 ⊢
 clear hbx DX HS9 HS8 HB3
 go_wp2
 go_ret
 have hz4 := HB4.out.size
 refine ⟨some ⟨w4.heap.size, 0, none⟩, [⟨1, 0, some ⟨bx, 0, none⟩, 32, 32, X⟩, ⟨8, 0, none, 0, 0, []⟩], rfl, fun w' hw' hs' => ?_, ?_, HB4.out.alloc HB4.out.size _⟩
 ·have hs5 : (w4.alloc (.cells #[.int .i64 1, .int .i64 0, .slice (some ⟨bx, 0, none⟩) 32 32, .int .i64 8, .int .i64 0, .slice none 0 0] 85)).heap.size = w4.heap.size + 1 := by simp
  have hnew : w'.heap[w4.heap.size]? = some (.cells #[.int .i64 1, .int .i64 0, .slice (some ⟨bx, 0, none⟩) 32 32, .int .i64 8, .int .i64 0, .slice none 0 0] 85 (0, 0)) := (hw' _ hz4 (by rw [hs5]; omega)).trans (heap_alloc_new w4 _)
  have hDX : BlkY w' bx 23 X := (hw' bx hbx0 (DX4.out.alloc _).lt).trans (DX4.out.alloc _)
  refine ⟨⟨rfl, fun _ => ⟨w4.heap.size, 0, rfl, (Array.getElem?_eq_some_iff.1 hnew).1, fun j u hu => ?_⟩⟩, fun r hr => ?_, fun r hr => ?_⟩
  ·rw [Nat.zero_add, cell_of_row _ _ j _ _ _ hnew, List.getElem?_toArray]
   exact hu
  ·rcases List.mem_cons.1 hr with rfl | hr
   ·exact hDX.sl hXl hDX.lt
   ·obtain rfl := List.mem_singleton.1 hr
    exact Sl.nil_
  ·rcases List.mem_cons.1 hr with rfl | hr
   ·exact HXb.out
   ·obtain rfl := List.mem_singleton.1 hr
    exact fun x hx => by cases hx
 ·unfold lockG
  rw [← HX.out]
  rfl
theorem lock_any (d : List Nat) (hd : d.length = 32) (hb : ∀ x ∈ d, x < 256) (i : Nat) (hi : i < 253) (w : World) (hg : RoundsAt w) :
  Calls Tryz.prog 9 #[digV d, .int .i64 (i : Int)] w (fun e w' => ∃ A rs, e = .returned (.slice A 2 2) ∧ RDep w' w.heap.size A 2 rs ∧ rs.map ROp.pl = lockL d i ∧ Below w.heap.size w w') := lockG_any d hd hb (i : Int) (by omega) w hg
end Go.Proofs.YtbpabjhcjffkmaaGreatDoor

/- bytes.Equal; are two locks the same: the walks. Conditions: named in each theorem. -/
namespace Go.Proofs.YtbpabjhcjffkmaaGreatDoor
open Go.RowKit Go.ChangeShapes Go.WideShapes Go.ChangeAt

/-- Bytes as a string. -/
def strB (xs : List Nat) : ByteArray := strOfNums (xs.map Int.ofNat)
theorem bytes_inj {xs ys : List Nat} (hx : ∀ x ∈ xs, x < 256) (hy : ∀ y ∈ ys, y < 256) (h : (strB xs).toList = (strB ys).toList) : xs = ys := by
 unfold strB at h
 rw [Lib.strOfNums_toList, Lib.strOfNums_toList] at h
 have key : ∀ {zs : List Nat}, (∀ z ∈ zs, z < 256) → (Lib.bytesOf (zs.map Int.ofNat)).map UInt8.toNat = zs := by
  intro zs hz
  unfold Lib.bytesOf
  rw [List.map_map, List.map_map]
  conv => rhs; rw [← List.map_id zs]
  refine List.map_congr_left fun z hm => ?_
  simp only [Function.comp, Int.ofNat_eq_natCast, Int.toNat_natCast, id]
  rw [UInt8.toNat_ofNat']
  exact Nat.mod_eq_of_lt (hz z hm)
 have h2 := congrArg (List.map UInt8.toNat) h
 rwa [key hx, key hy] at h2
theorem convert_bytes {w : World} {B n : Nat} {A : Option Addr} {xs : List Nat} (h : YSl w B A n xs) (c : Nat) : (convert 67 9 (.slice A n c)).run Tryz.prog w = .ok (.string (strB xs)) w := by
 have hl := YSl.len1 h
 rcases Nat.eq_zero_or_pos n with h0 | h0
 ·subst h0
  obtain rfl : xs = [] := List.eq_nil_of_length_eq_zero hl
  rw [run_convert_bytes_string w 67 9 5 _ 0 c Tryz.underlying67 Tryz.underlying5 Tryz.underlying9]
  cases A <;> simp [Conv.bytesToString, loadCells]
  all_goals rfl
 ·obtain ⟨b, o, rfl, _, hc⟩ := YSl.at1 h h0
  exact run_convert_bytes_arg (P := Tryz.prog) w 67 5 Tryz.underlying67 Tryz.underlying5 b o n c (xs.map Int.ofNat) (by simpa using hl) (fun i hi => by
   rw [hc i hi]
   simp [List.getD_eq_getElem?_getD, List.getElem?_eq_getElem (show i < xs.length by omega)]) _ Tryz.underlying9
theorem beq_any (xs ys : List Nat) (A A' : Option Addr) (n c n' c' : Nat) (w : World) (h : YSl w w.heap.size A n xs) (h' : YSl w w.heap.size A' n' ys) (hx : ∀ x ∈ xs, x < 256) (hy : ∀ y ∈ ys, y < 256) :
  Calls Tryz.prog 109 #[.slice A n c, .slice A' n' c'] w (fun e w' => e = .returned (.bool (decide (xs = ys))) ∧ w' = w) := by
 have h1 := convert_bytes h c
 have h2 := convert_bytes h' c'
 have HE : Hid (((strB xs).toList == (strB ys).toList) = decide (xs = ys)) := aside (by
  by_cases he : xs = ys
  ·rw [he]; simp
  ·rw [decide_eq_false he]
   exact beq_eq_false_iff_ne.2 fun h => he (bytes_inj hx hy h))
 generalize strB xs = s1 at h1 HE
 generalize strB ys = s2 at h2 HE
 clear h h' hx hy
 go_enter Tryz.func109, Tryz.ntmps109
 go_wp2
 go_ret
 exact ⟨by rw [← HE.out] <;> rfl, rfl⟩
set_option maxHeartbeats 8000000 in
set_option maxRecDepth 100000 in
theorem same1_any (r r' : ROp) (V : Bool) (hV : V = true ↔ r.pl = r'.pl) (w : World) (h : YSl w w.heap.size r.dA r.dn r.data) (h' : YSl w w.heap.size r'.dA r'.dn r'.data) (hx : ∀ x ∈ r.data, x < 256) (hy : ∀ y ∈ r'.data, y < 256) :
  Calls Tryz.prog 108 #[.agg #[.int .i64 r.op, .int .i64 r.n, .slice r.dA r.dn r.dc], .agg #[.int .i64 r'.op, .int .i64 r'.n, .slice r'.dA r'.dn r'.dc]] w (fun e w' => e = .returned (.bool V) ∧ Below w.heap.size w w') := by
 obtain ⟨o1, n1, A1, d1, c1, b1⟩ := r
 obtain ⟨o2, n2, A2, d2, c2, b2⟩ := r'
 have hV2 : V = true ↔ (o1, n1, b1) = (o2, n2, b2) := hV
 clear hV
 dsimp only at h h' hx hy ⊢
 by_cases ho : o1 = o2
 ·subst ho
  have hoo : (o1 == o1) = true := by simp
  by_cases hn : n1 = n2
  ·subst hn
   have hnn : (n1 == n1) = true := by simp
   have HB2 : Hid (Below w.heap.size w ((w.alloc (.cells #[.int .i64 o1, .int .i64 n1, .slice A1 d1 c1] 85)).alloc (.cells #[.int .i64 o1, .int .i64 n1, .slice A2 d2 c2] 85))) := aside (((Below.refl _ _).alloc (Nat.le_refl _) _).alloc (by simp) _)
   have H1 : Hid (YSl ((w.alloc (.cells #[.int .i64 o1, .int .i64 n1, .slice A1 d1 c1] 85)).alloc (.cells #[.int .i64 o1, .int .i64 n1, .slice A2 d2 c2] 85)) ((w.alloc (.cells #[.int .i64 o1, .int .i64 n1, .slice A1 d1 c1] 85)).alloc (.cells #[.int .i64 o1, .int .i64 n1, .slice A2 d2 c2] 85)).heap.size A1 d1 b1) := aside ((Sl.below h HB2.out).more HB2.out.size)
   have H2 : Hid (YSl ((w.alloc (.cells #[.int .i64 o1, .int .i64 n1, .slice A1 d1 c1] 85)).alloc (.cells #[.int .i64 o1, .int .i64 n1, .slice A2 d2 c2] 85)) ((w.alloc (.cells #[.int .i64 o1, .int .i64 n1, .slice A1 d1 c1] 85)).alloc (.cells #[.int .i64 o1, .int .i64 n1, .slice A2 d2 c2] 85)).heap.size A2 d2 b2) := aside ((Sl.below h' HB2.out).more HB2.out.size)
   have hD : V = decide (b1 = b2) := by
    by_cases hb : b1 = b2
    ·rw [decide_eq_true hb]; exact hV2.2 (by rw [hb])
    ·rw [decide_eq_false hb]
     cases V with
     | false => rfl
     | true => exact absurd (by have h9 := hV2.1 rfl; simpa using h9) hb
   have hbq := beq_any b1 b2 A1 A2 d1 c1 d2 c2 _ H1.out H2.out hx hy
   rw [← hD] at hbq
   have HBq := aside hbq
   clear h h' hx hy hD hV2 hbq
   go_enter Tryz.func108, Tryz.ntmps108
   go_wp2_with fail
   refine HBq.out.mono ?_
   rintro e w3 ⟨rfl, hw3⟩
   rw [hw3]
   clear hw3 w3
   go_wp2
   go_ret
   exact ⟨rfl, HB2.out⟩
  ·have hnn : (n1 == n2) = false := by simp [hn]
   have hD : V = false := by
    cases V with
    | false => rfl
    | true => exact absurd (by have h9 := hV2.1 rfl; simp at h9; exact h9.1) hn
   subst hD
   clear h h' hx hy hn hV2
   go_enter Tryz.func108, Tryz.ntmps108
   go_wp2
   go_ret
   exact ⟨rfl, ((Below.refl _ _).alloc (Nat.le_refl _) _).alloc (by simp) _⟩
 ·have hoo : (o1 == o2) = false := by simp [ho]
  have hD : V = false := by
   cases V with
   | false => rfl
   | true => exact absurd (by have h9 := hV2.1 rfl; simp at h9; exact h9.1) ho
  subst hD
  clear h h' hx hy ho hV2
  go_enter Tryz.func108, Tryz.ntmps108
  go_wp2
  go_ret
  exact ⟨rfl, ((Below.refl _ _).alloc (Nat.le_refl _) _).alloc (by simp) _⟩
end Go.Proofs.YtbpabjhcjffkmaaGreatDoor

/- Are two locks the same: the walks. Conditions: named in each theorem. -/
namespace Go.Proofs.YtbpabjhcjffkmaaGreatDoor
open Go.RowKit Go.ChangeShapes Go.WideShapes Go.ChangeAt

theorem RSl.at_ {w : World} {B n : Nat} {A : Option Addr} {rs : List ROp} (h : RSl w B A n rs) {k : Nat} (hk : k < n) :
  ∃ b off, A = some ⟨b, off, none⟩ ∧ b < B ∧ w.cell? ⟨b, off + k * 3, none⟩ = some (.int .i64 (rs.getD k noR).op) ∧ w.cell? ⟨b, off + k * 3 + 1, none⟩ = some (.int .i64 (rs.getD k noR).n) ∧ w.cell? ⟨b, off + k * 3 + 2, none⟩ = some (.slice (rs.getD k noR).dA (rs.getD k noR).dn (rs.getD k noR).dc) := by
 obtain ⟨b, off, e, hb, hc⟩ := FSl.at_ encR_len (by decide) noR h.cells hk
 exact ⟨b, off, e, hb, hc 0 _ rfl, hc 1 _ rfl, hc 2 _ rfl⟩
theorem RSl.mem {w : World} {B n : Nat} {A : Option Addr} {rs : List ROp} (h : RSl w B A n rs) {k : Nat} (hk : k < n) : rs.getD k noR ∈ rs := by
 have hl := h.len
 rw [List.getD_eq_getElem?_getD, List.getElem?_eq_getElem (by omega)]
 exact List.getElem_mem _
theorem pl_next {rs : List ROp} {k : Nat} (h : k < rs.length) : (rs.take (k + 1)).map ROp.pl = (rs.take k).map ROp.pl ++ [(rs.getD k noR).pl] := by
 rw [List.take_add_one, List.getElem?_eq_getElem h, List.map_append, List.getD_eq_getElem?_getD, List.getElem?_eq_getElem h]
 rfl
theorem pl_at {rs : List ROp} {k : Nat} (h : k < rs.length) : (rs.map ROp.pl)[k]? = some (rs.getD k noR).pl := by
 rw [List.getElem?_map, List.getD_eq_getElem?_getD, List.getElem?_eq_getElem h]
 rfl
set_option maxHeartbeats 20000000 in
set_option maxRecDepth 100000 in
theorem eqf_any (rs rs' : List ROp) (V : Bool) (hV : V = true ↔ rs.map ROp.pl = rs'.map ROp.pl) (A A' : Option Addr) (n c n' c' : Nat) (hn7 : n ≤ 1000) (w : World) (h : RSl w w.heap.size A n rs) (h' : RSl w w.heap.size A' n' rs') :
  Calls Tryz.prog 107 #[.slice A n c, .slice A' n' c', .func (.func 108) #[] #[]] w (fun e w' => e = .returned (.bool V) ∧ Below w.heap.size w w') := by
 have hl := h.len
 have hl' := h'.len
 by_cases hn : n = n'
 ·subst hn
  have hnn : ((n : Int) != (n : Int)) = false := by simp
  have HB0 := aside (Below.refl w.heap.size w)
  have HP0 : Hid ((rs.take 0).map ROp.pl = (rs'.take 0).map ROp.pl) := aside rfl
  have H := aside h
  have H' := aside h'
  have HV := aside hV
  have HL := aside hl
  have HL' := aside hl'
  clear h h' hV hl hl'
  go_enter Tryz.func107, Tryz.ntmps107
  go_wp2_with fail
  go_loopw [17] (fun v17 wr => ∃ k : Nat, k ≤ n ∧ v17 = .int .i64 k ∧ Hid (Below w.heap.size w wr) ∧ Hid ((rs.take k).map ROp.pl = (rs'.take k).map ROp.pl)) (fun v17 _ => n - (Go.RowKit.intOf v17).toNat)
  case atStart => exact ⟨0, Nat.zero_le _, rfl, HB0, HP0⟩
  case round =>
   clear HB0 HP0
   obtain ⟨k, hk, rfl, HB, HP⟩ := hrel
   by_cases hkn : k < n
   ·have k0 : (k : Int) < (n : Int) := by omega
    have R1 := aside (H.out.below HB.out)
    have R2 := aside (H'.out.below HB.out)
    have hwz := HB.out.size
    obtain ⟨b1, of1, e1, hb1, p0, p1, p2⟩ := R1.out.at_ hkn
    obtain ⟨b2, of2, e2, hb2, q0, q1, q2⟩ := R2.out.at_ hkn
    have hm1 := R1.out.mem hkn
    have hm2 := R2.out.mem hkn
    have hY1 := Sl.more (R1.out.data _ hm1) hwz
    have hY2 := Sl.more (R2.out.data _ hm2) hwz
    have hy1 := R1.out.byt _ hm1
    have hy2 := R2.out.byt _ hm2
    have hn1 := pl_next (rs := rs) (k := k) (by have := HL.out; omega)
    have hn2 := pl_next (rs := rs') (k := k) (by have := HL'.out; omega)
    have ha1 := pl_at (rs := rs) (k := k) (by have := HL.out; omega)
    have ha2 := pl_at (rs := rs') (k := k) (by have := HL'.out; omega)
    generalize rs.getD k noR = r at *
    generalize rs'.getD k noR = r' at *
    obtain ⟨W, hW⟩ : ∃ W : Bool, W = decide (r.pl = r'.pl) := ⟨_, rfl⟩
    have hWi : W = true ↔ r.pl = r'.pl := by rw [hW]; exact decide_eq_true_iff
    have hbb1 : b1 < wr.heap.size := by omega
    have hbb2 : b2 < wr.heap.size := by omega
    have B2 : Hid (Below wr.heap.size wr ((wr.alloc (.cells #[.int .i64 r.op, .int .i64 r.n, .slice r.dA r.dn r.dc] 85)).alloc (.cells #[.int .i64 r'.op, .int .i64 r'.n, .slice r'.dA r'.dn r'.dc] 85))) := aside (((Below.refl _ _).alloc (Nat.le_refl _) _).alloc (by simp) _)
    have HC := aside (same1_any r r' W hWi ((wr.alloc (.cells #[.int .i64 r.op, .int .i64 r.n, .slice r.dA r.dn r.dc] 85)).alloc (.cells #[.int .i64 r'.op, .int .i64 r'.n, .slice r'.dA r'.dn r'.dc] 85)) ((Sl.below hY1 B2.out).more B2.out.size) ((Sl.below hY2 B2.out).more B2.out.size) hy1 hy2)
    have HN1 := aside hn1
    have HN2 := aside hn2
    have HA1 := aside ha1
    have HA2 := aside ha2
    have HW := aside hWi
    subst e1 e2
    clear hY1 hY2 hy1 hy2 hn1 hn2 ha1 ha2 hW hWi hm1 hm2 R1 R2
    go_wp2_with fail
    refine HC.out.mono ?_
    rintro e w3 ⟨rfl, hb3⟩
    have HB3 := aside (HB.out.trans ((B2.out.trans (hb3.mono B2.out.size)).mono hwz))
    clear hb3 HC B2 p0 p1 p2 q0 q1 q2
    cases W with
    | true =>
     have HPn : Hid ((rs.take (k + 1)).map ROp.pl = (rs'.take (k + 1)).map ROp.pl) := aside (by rw [HN1.out, HN2.out, HP.out, HW.out.1 rfl])
     go_wp2
     exact ⟨⟨k + 1, by omega, by go_num, HB3, HPn⟩, by simp [Go.RowKit.intOf]; omega⟩
    | false =>
     have hF : V = false := by
      cases V with
      | false => rfl
      | true =>
       have e9 := HV.out.1 rfl
       have e8 := HA1.out
       rw [e9, HA2.out] at e8
       injection e8 with e8
       exact absurd (HW.out.2 e8.symm) (by simp)
     subst hF
     go_wp2
     go_ret
     exact ⟨rfl, HB3.out⟩
   ·obtain rfl : n = k := by omega
    have i0 : ((n : Int) < (n : Int)) = False := by simp
    have hT : V = true := HV.out.2 (by
     have := HP.out
     rwa [← HL.out, List.take_length, HL.out, ← HL'.out, List.take_length] at this)
    subst hT
    clear hkn
    go_wp2
    go_ret
    exact ⟨rfl, HB.out⟩
 ·have hnn : ((n : Int) != (n' : Int)) = true := by simp; omega
  have hF : V = false := by
   cases V with
   | false => rfl
   | true => exact absurd (by have := congrArg List.length (hV.1 rfl); simpa [hl, hl'] using this) hn
  subst hF
  clear h h' hV hn hl hl'
  go_enter Tryz.func107, Tryz.ntmps107
  go_wp2
  go_ret
  exact ⟨rfl, Below.refl _ _⟩
/-- Are two locks the same? -/
theorem same_any (rs rs' : List ROp) (V : Bool) (hV : V = true ↔ rs.map ROp.pl = rs'.map ROp.pl) (A A' : Option Addr) (n c n' c' : Nat) (hn7 : n ≤ 1000) (w : World) (h : RSl w w.heap.size A n rs) (h' : RSl w w.heap.size A' n' rs') :
  Calls Tryz.prog 72 #[.slice A n c, .slice A' n' c'] w (fun e w' => e = .returned (.bool V) ∧ Below w.heap.size w w') := by
 have HC := aside (eqf_any rs rs' V hV A A' n c n' c' hn7 w h h')
 clear h h' hV
 go_enter Tryz.func72, Tryz.ntmps72
 go_wp2_with fail
 refine HC.out.mono ?_
 rintro e w3 ⟨rfl, hb3⟩
 have HB3 := aside hb3
 clear hb3
 go_wp2
 go_ret
 exact ⟨rfl, HB3.out⟩
end Go.Proofs.YtbpabjhcjffkmaaGreatDoor

/- wallet.locks: the walk. Conditions: named in each theorem. -/
namespace Go.Proofs.YtbpabjhcjffkmaaGreatDoor
open Go.RowKit Go.ChangeShapes Go.WideShapes Go.ChangeAt

/-- A lock of a wallet's: where it lies, and what. -/
abbrev Lk := Option Addr × List ROp
def lkV (l : Lk) : Value := .slice l.1 2 2
def lkP (l : Lk) : List POp := l.2.map ROp.pl
/-- Locks that lie apart from a row's own block. -/
def Lks (w : World) (v : Value) (ls : List Lk) : Prop := ∀ l ∈ ls, ∀ w' : World, (∀ b, v.ownBlock ≠ some b → b < w.heap.size → w'.heap[b]? = w.heap[b]?) → w.heap.size ≤ w'.heap.size → RSl w' w'.heap.size l.1 2 l.2
theorem Lks.now {w : World} {v : Value} {ls : List Lk} (h : Lks w v ls) : ∀ l ∈ ls, RSl w w.heap.size l.1 2 l.2 := fun l hl => h l hl w (fun _ _ _ => rfl) (Nat.le_refl _)
theorem own_lt {w : World} {base : Nat} {e : TypeId} {sz n : Nat} {v : Value} {xs : List Value} (h : w.ownsRow base e sz v n xs) : ∀ k, v.ownBlock = some k → k < w.heap.size := fun k hk => (h.lt k hk).2
theorem Lks.push {wr w2 w3 : World} {v v' : Value} {ls : List Lk} {A : Option Addr} {rs : List ROp} (h : Lks wr v ls) (hv : ∀ k, v.ownBlock = some k → k < wr.heap.size) (hb : Below wr.heap.size wr w2) (hd : RDep w2 wr.heap.size A 2 rs) (hg : w2.grownBy w3 v.ownBlock) (ho : v'.ownBlock = v.ownBlock ∨ ∃ k, v'.ownBlock = some k ∧ w2.heap.size ≤ k) : Lks w3 v' (ls ++ [(A, rs)]) := by
 intro l hl w' hw' hs'
 have hsz := hg.size
 have hsz2 := hb.size
 rcases List.mem_append.1 hl with hl | hl
 ·refine h l hl w' (fun b hne hb' => ?_) (by omega)
  have hne' : v'.ownBlock ≠ some b := by
   rcases ho with ho | ⟨k, ho, hk⟩
   ·rw [ho]; exact hne
   ·rw [ho]; intro e; injection e with e; omega
  exact (hw' b hne' (by omega)).trans ((hg.block b (by omega) (fun e => hne e.symm)).trans (hb.block b hb'))
 ·obtain rfl := List.mem_singleton.1 hl
  refine hd w' (fun b h1 h2 => ?_) (by omega)
  have hne : v.ownBlock ≠ some b := fun e => by have := hv b e; omega
  have hne' : v'.ownBlock ≠ some b := by
   rcases ho with ho | ⟨k, ho, hk⟩
   ·rw [ho]; exact hne
   ·rw [ho]; intro e; injection e with e; omega
  exact (hw' b hne' (by omega)).trans (hg.block b h2 (fun e => hne e.symm))
theorem infoL : (Tryz.prog.info? 25).map (fun i => (i.zero, i.size, i.bytes)) = some (some (.slice none 0 0), 1, 24) := by kernel_rfl
set_option maxHeartbeats 20000000 in
set_option maxRecDepth 100000 in
theorem locks_any (d : List Nat) (hd : d.length = 32) (hb : ∀ x ∈ d, x < 256) (n : Int) (hn : n ≤ 100) (w : World) (hg : RoundsAt w) :
  Calls Tryz.prog 29 #[digV d, .int .i64 n] w (fun e w' => ∃ (A : Option Addr) (c : Nat) (ls : List Lk), e = .returned (.slice A n.toNat c) ∧ Sl w' w'.heap.size 1 A n.toNat (ls.map lkV) ∧ (∀ l ∈ ls, RSl w' w'.heap.size l.1 2 l.2) ∧ ls.map lkP = (List.range n.toNat).map (lockL d) ∧ Below w.heap.size w w') := by
 have HG := aside hg
 have HDb := aside hb
 have HDl := aside hd
 have B1 : Hid (Below w.heap.size w (w.alloc (.cells (rowY d) 23))) := aside ((Below.refl _ _).alloc (Nat.le_refl _) _)
 have D0 : Hid (BlkY (w.alloc (.cells (rowY d) 23)) w.heap.size 23 d) := aside (BlkY.new w _ _)
 have HS7 := aside (zinfo d hd)
 obtain ⟨N, hN⟩ : ∃ N, N = n.toNat := ⟨_, rfl⟩
 rw [← hN]
 have hmn : min n 100 = n := by omega
 have hN1 : (N : Int) = n ∨ (n ≤ 0 ∧ N = 0) := by omega
 have HN1 := aside hN1
 have HO : Hid ((w.alloc (.cells (rowY d) 23)).ownsRow (w.heap.size + 1) 25 1 (.slice none 0 0) 0 (([] : List Lk).map lkV)) := aside ⟨by simp, .inl ⟨rfl, rfl⟩⟩
 have HL : Hid (Lks (w.alloc (.cells (rowY d) 23)) (.slice none 0 0) []) := aside (fun l hl => by cases hl)
 have hN100 : N ≤ 100 := by omega
 clear hg hb hd hN hN1
 unfold digV
 go_enter Tryz.func29, Tryz.ntmps29
 go_wp2_with fail
 change Code.wp _ _ _ _ (w.alloc (.cells (rowY d) 23))
 have Z1 : Hid (w.heap.size + 1 ≤ (w.alloc (.cells (rowY d) 23)).heap.size) := aside (by simp)
 generalize (w.alloc (.cells (rowY d) 23)) = w1 at B1 D0 HO HL Z1 ⊢
 obtain ⟨B0, hB0⟩ : ∃ B0, B0 = w.heap.size := ⟨_, rfl⟩
 have EB := aside hB0
 simp only [← hB0] at D0 HO Z1 ⊢
 clear hB0
 go_loopw [5, 9] (fun v5 v9 wr => ∃ (i : Nat) (ls : List Lk) (A1 : Option Addr) (c1 : Nat), i ≤ N ∧ v9 = .int .i64 i ∧ v5 = .slice A1 i c1 ∧ B0 + 1 ≤ wr.heap.size ∧ Hid (wr.ownsRow (B0 + 1) 25 1 (.slice A1 i c1) i (ls.map lkV)) ∧ Hid (Lks wr (.slice A1 i c1) ls) ∧ Hid (ls.map lkP = (List.range i).map (lockL d)) ∧ Hid (BlkY wr B0 23 d) ∧ Hid (Below w.heap.size w wr)) (fun _ v9 _ => N - (Go.RowKit.intOf v9).toNat)
 case atStart => exact ⟨0, [], none, 0, Nat.zero_le _, rfl, rfl, Z1.out, HO, HL, aside rfl, D0, B1⟩
 case round =>
  clear HO HL D0 B1 Z1
  obtain ⟨i, ls, A1, c1, hi, rfl, rfl, hz, HO, HL, HP, D0, HB⟩ := hrel
  by_cases hin : i < N
  ·have i0 : (i : Int) < n := by have := HN1.out; omega
   have hwz := HB.out.size
   go_wp2_with (first
    | (refine wpList_load_row rfl 23 (.tmp 2) rfl B0 rfl 23 (rowY d) (0, 0) _ D0.out Tryz.underlying23 rfl HS7.out ?_)
    | fail)
   refine (show Calls _ _ #[digV d, _] _ _ from lock_any d HDl.out HDb.out i (by omega) wr (HG.out.below HB.out)).mono ?_
   rintro e w2 ⟨A2, rs, rfl, hdep, hpl, hb2⟩
   have HDep := aside hdep
   have HPl := aside hpl
   have HBr := aside hb2
   have HB2 := aside (HB.out.trans (hb2.mono hwz))
   have HO2 : Hid (w2.ownsRow (B0 + 1) 25 1 (.slice A1 i c1) i (ls.map lkV)) := aside (own_below HO.out hb2)
   have D02 := aside (D0.out.below hb2 D0.out.lt)
   have hz2 := Nat.le_trans hz hb2.size
   clear hdep hpl hb2
   go_wp2_with (first
    | (at_builtin; refine wpList_push rfl (.tmp 12) (.tmp 16) 51 rfl (B0 + 1) _ 1 24 Tryz.underlying51 infoL rfl (by decide) (.slice A1 i c1) i _ rfl rfl rfl rfl HO2.out (by omega) (by unfold maxLen; omega) hz2 ?_; intro A3 c3 w3 hc3 hc3' hown3 hb3 hz3' hg3)
    | fail)
   have HO3 : Hid (w3.ownsRow (B0 + 1) 25 1 (.slice A3 (i + 1) c3) (i + 1) ((ls ++ [(A2, rs)]).map lkV)) := aside (by rw [List.map_append]; exact hown3)
   have HL3 : Hid (Lks w3 (.slice A3 (i + 1) c3) (ls ++ [(A2, rs)])) := aside (HL.out.push (fun k hk => own_lt HO.out k hk) HBr.out HDep.out hg3.1 hg3.2)
   have HP3 : Hid ((ls ++ [(A2, rs)]).map lkP = (List.range (i + 1)).map (lockL d)) := aside (by
    rw [List.map_append, HP.out, List.range_succ, List.map_append]
    show _ ++ [rs.map ROp.pl] = _ ++ [lockL d i]
    rw [HPl.out])
   have HB3 := aside (HB2.out.trans (hb3.mono (by rw [EB.out]; omega)))
   have D03 := aside (D02.out.below hb3 (Nat.lt_succ_self _))
   have hz3 := Nat.le_trans hz2 hb3.size
   clear hown3 hb3 hg3 hz3'
   exact ⟨⟨i + 1, ls ++ [(A2, rs)], A3, c3, by omega, by go_num, rfl, hz3, HO3, HL3, HP3, D03, HB3⟩, by simp [Go.RowKit.intOf]; omega⟩
  ·obtain rfl : N = i := by omega
   have i0 : ((N : Int) < n) = False := by have := HN1.out; simp only [eq_iff_iff, iff_false]; omega
   go_wp2
   go_ret
   exact ⟨A1, c1, ls, rfl, Sl.own HO.out, HL.out.now, HP.out, HB.out⟩
end Go.Proofs.YtbpabjhcjffkmaaGreatDoor
