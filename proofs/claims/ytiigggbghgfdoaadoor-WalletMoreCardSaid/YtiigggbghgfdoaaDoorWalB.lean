/- Locks in memory; wallet.Lock: the walk. Conditions: named in each theorem. -/
import Derived.Test.YtiigggbghgfdoaaDoorWalA
namespace Go.Proofs.YtiigggbghgfdoaaDoor
open Go.RowKit Go.ChangeShapes Go.WideShapes Go.ChangeAt

/-- An op as it lies: its data are a slice. -/
structure ROp where
  op : Int
  n : Int
  dA : Option Addr
  dn : Nat
  dc : Nat
  data : List Nat
/-- An op as it is. -/
abbrev POp := Int × Int × List Nat
def ROp.pl (r : ROp) : POp := (r.op, r.n, r.data)
def encR (r : ROp) : List Value := [.int .i64 r.op, .int .i64 r.n, .slice r.dA r.dn r.dc]
theorem encR_len (r : ROp) : (encR r).length = 3 := rfl
def noR : ROp := ⟨0, 0, none, 0, 0, []⟩
/-- A lock in memory. -/
structure RSl (w : World) (B : Nat) (A : Option Addr) (n : Nat) (rs : List ROp) : Prop where
  cells : FSl encR 3 w B A n rs
  data : ∀ r ∈ rs, YSl w B r.dA r.dn r.data
  byt : ∀ r ∈ rs, ∀ x ∈ r.data, x < 256
theorem RSl.below {w w' : World} {B n : Nat} {A : Option Addr} {rs : List ROp} (h : RSl w B A n rs) (hb : Below B w w') : RSl w' B A n rs := ⟨FSl.below h.cells hb, fun r hr => Sl.below (h.data r hr) hb, h.byt⟩
theorem RSl.more {w : World} {B B' n : Nat} {A : Option Addr} {rs : List ROp} (h : RSl w B A n rs) (hB : B ≤ B') : RSl w B' A n rs := ⟨FSl.more h.cells hB, fun r hr => Sl.more (h.data r hr) hB, h.byt⟩
theorem RSl.step {w w' : World} {n : Nat} {A : Option Addr} {rs : List ROp} (h : RSl w w.heap.size A n rs) (hb : Below w.heap.size w w') : RSl w' w'.heap.size A n rs := (h.below hb).more hb.size
theorem RSl.len {w : World} {B n : Nat} {A : Option Addr} {rs : List ROp} (h : RSl w B A n rs) : rs.length = n := FSl.len encR_len (by decide) h.cells
theorem RSl.drewN {w : World} {B n : Nat} {A : Option Addr} {rs : List ROp} (h : RSl w B A n rs) (q : Nat) : RSl (w.drewN q) B A n rs := ⟨FSl.drewN h.cells q, fun r hr => Sl.drewN (h.data r hr) q, h.byt⟩
theorem RSl.nil_ {w : World} {B : Nat} {A : Option Addr} : RSl w B A 0 [] := ⟨FSl.nil_, (fun r hr => by cases hr), (fun r hr => by cases hr)⟩
/-- A lock in memory, that lies in blocks from N on alone. -/
def RDep (w : World) (N : Nat) (A : Option Addr) (n : Nat) (rs : List ROp) : Prop := ∀ w' : World, (∀ b, N ≤ b → b < w.heap.size → w'.heap[b]? = w.heap[b]?) → w.heap.size ≤ w'.heap.size → RSl w' w'.heap.size A n rs
/-- The lock of a wallet's key. -/
def lockL (d : List Nat) (i : Nat) : List POp := [(1, 0, pubL (seedL d i)), (8, 0, [])]
set_option maxHeartbeats 20000000 in
set_option maxRecDepth 100000 in
theorem lock_any (d : List Nat) (hd : d.length = 32) (hb : ∀ x ∈ d, x < 256) (i : Nat) (hi : i < 253) (w : World) (hg : RoundsAt w) :
    Calls Tryd.prog 8 #[digV d, .int .i64 (i : Int)] w (fun e w' => ∃ A rs, e = .returned (.slice A 2 2) ∧ RDep w' w.heap.size A 2 rs ∧ rs.map ROp.pl = lockL d i ∧ Below w.heap.size w w') := by
  have HG := aside hg
  have HDb := aside hb
  have HDl := aside hd
  have B1 : Hid (Below w.heap.size w (w.alloc (.cells (rowY d) 23))) := aside ((Below.refl _ _).alloc (Nat.le_refl _) _)
  have D0 : Hid (BlkY (w.alloc (.cells (rowY d) 23)) w.heap.size 23 d) := aside (BlkY.new w _ _)
  have HS7 := aside (zinfo d hd)
  clear hg hb hd
  unfold digV
  go_enter Tryd.func8, Tryd.ntmps8
  go_upto_region 1 with fail
  change Code.wp _ _ _ _ (w.alloc (.cells (rowY d) 23))
  generalize (w.alloc (.cells (rowY d) 23)) = w1 at B1 D0 ⊢
  go_wp2_with (first
    | (refine wpList_load_row rfl 23 (.tmp 2) rfl w.heap.size rfl 23 (rowY d) (0, 0) _ D0.out Tryd.underlying23 rfl HS7.out ?_)
    | fail)
  refine (show Calls _ _ #[digV d, _] _ _ from seed_any d HDl.out HDb.out i hi w1 (HG.out.below B1.out)).mono ?_
  rintro e w2 ⟨rfl, hb2⟩
  have HB2 := aside (B1.out.trans (hb2.mono B1.out.size))
  clear hb2
  go_wp2_with fail
  refine (public_any (seedL d i) (seedL_len _ _) (seedL_small _ _) w2 (HG.out.below HB2.out)).mono ?_
  rintro e w3 ⟨rfl, hb3⟩
  have HB3 := aside (HB2.out.trans (hb3.mono HB2.out.size))
  clear hb3
  have hXl := pubL_len (seedL d i)
  obtain ⟨X, hX⟩ : ∃ X, X = pubL (seedL d i) := ⟨_, rfl⟩
  rw [← hX] at hXl ⊢
  have HX := aside hX
  have HXb : Hid (∀ x ∈ X, x < 256) := aside (by rw [hX]; exact pubL_small _)
  clear hX
  have HS9 := aside (zinfo _ hXl)
  have HS8 := aside (zsame _ _ zlen hXl)
  have DX := aside (BlkY.new w3 23 (List.replicate 32 0))
  go_upto_region 2 with (first
    | (refine wpList_store_row rfl 23 (.tmp 5) (.tmp 9) rfl w3.heap.size (rowY X) rfl rfl 23 (rowY (List.replicate 32 0)) DX.out HS9.out HS8.out (rowY_one _) ?_)
    | fail)
  have HB4 : Hid (Below w.heap.size w ((w3.alloc (.cells (rowY (List.replicate 32 0)) 23)).setRow w3.heap.size (rowY X))) := aside (below_setRow (HB3.out.alloc HB3.out.size _) _ HB3.out.size _)
  have DX4 : Hid (BlkY ((w3.alloc (.cells (rowY (List.replicate 32 0)) 23)).setRow w3.heap.size (rowY X)) w3.heap.size 23 X) := aside (setRow_heap _ _ _ _ _ _ DX.out)
  change Code.wp _ _ _ _ ((w3.alloc (.cells (rowY (List.replicate 32 0)) 23)).setRow w3.heap.size (rowY X))
  generalize ((w3.alloc (.cells (rowY (List.replicate 32 0)) 23)).setRow w3.heap.size (rowY X)) = w4 at HB4 DX4 ⊢
  obtain ⟨bx, hbx⟩ : ∃ bx, bx = w3.heap.size := ⟨_, rfl⟩
  have hbx0 : w.heap.size ≤ bx := by rw [hbx]; exact HB3.out.size
  rw [← hbx] at DX4 ⊢
  clear hbx DX HS9 HS8 HB3
  go_wp2
  go_ret
  have hz4 := HB4.out.size
  refine ⟨some ⟨w4.heap.size, 0, none⟩, [⟨1, 0, some ⟨bx, 0, none⟩, 32, 32, X⟩, ⟨8, 0, none, 0, 0, []⟩], rfl, fun w' hw' hs' => ?_, ?_, HB4.out.alloc HB4.out.size _⟩
  · have hs5 : (w4.alloc (.cells #[.int .i64 1, .int .i64 0, .slice (some ⟨bx, 0, none⟩) 32 32, .int .i64 8, .int .i64 0, .slice none 0 0] 51)).heap.size = w4.heap.size + 1 := by simp
    have hnew : w'.heap[w4.heap.size]? = some (.cells #[.int .i64 1, .int .i64 0, .slice (some ⟨bx, 0, none⟩) 32 32, .int .i64 8, .int .i64 0, .slice none 0 0] 51 (0, 0)) := (hw' _ hz4 (by rw [hs5]; omega)).trans (heap_alloc_new w4 _)
    have hDX : BlkY w' bx 23 X := (hw' bx hbx0 (DX4.out.alloc _).lt).trans (DX4.out.alloc _)
    refine ⟨⟨rfl, fun _ => ⟨w4.heap.size, 0, rfl, (Array.getElem?_eq_some_iff.1 hnew).1, fun j u hu => ?_⟩⟩, fun r hr => ?_, fun r hr => ?_⟩
    · rw [Nat.zero_add, cell_of_row _ _ j _ _ _ hnew, List.getElem?_toArray]
      exact hu
    · rcases List.mem_cons.1 hr with rfl | hr
      · exact hDX.sl hXl hDX.lt
      · obtain rfl := List.mem_singleton.1 hr
        exact Sl.nil_
    · rcases List.mem_cons.1 hr with rfl | hr
      · exact HXb.out
      · obtain rfl := List.mem_singleton.1 hr
        exact fun x hx => by cases hx
  · unfold lockL
    rw [← HX.out]
    rfl
end Go.Proofs.YtiigggbghgfdoaaDoor
