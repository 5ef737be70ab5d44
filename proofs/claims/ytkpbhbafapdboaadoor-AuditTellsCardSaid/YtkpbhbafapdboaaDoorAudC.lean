/- What two totals make: audit.Node: the walk. Conditions: named in each theorem. -/
import Derived.Test.YtkpbhbafapdboaaDoorAudB
import Derived.Deep.RegionHeld3
import Derived.Deep.MidRow
import Derived.Deep.Cut
namespace Go.Proofs.YtkpbhbafapdboaaDoor
open Go.RowKit Go.ChangeShapes Go.WideShapes Go.ChangeAt

/-- A total's cells: its sum, its digest. -/
def totL (s : Int) (d : List Nat) : List Value := .int .i64 s :: d.map fun (x : Nat) => Value.int .u8 (x : Int)
def totR (s : Int) (d : List Nat) : Array Value := (totL s d).toArray
/-- A total, as a value. -/
def totV (s : Int) (d : List Nat) : Value := .agg (totR s d)
/-- The bytes of a digest. -/
def Dig (d : List Nat) : Prop := d.length = 32 ∧ ∀ x ∈ d, x < 256
theorem totL_len {s : Int} {d : List Nat} (h : d.length = 32) : (totL s d).length = 33 := by simp [totL, h]
theorem totR_size {s : Int} {d : List Nat} (h : d.length = 32) : (totR s d).size = 33 := by simp [totR, totL, h]
theorem totR_one (s : Int) (d : List Nat) : (totR s d).all (·.oneCell') = true := by simp [totR, totL, Value.oneCell']
/-- No total. -/
def zeroD : List Nat := List.replicate 32 0
/-- The text of two. -/
def nodeT (a : Int) (x : List Nat) (b : Int) (y : List Nat) : List Nat := [26] ++ sizeL a.toNat ++ x ++ sizeL b.toNat ++ y
/-- What is behind two totals. -/
def nodeV (a : Int) (x : List Nat) (b : Int) (y : List Nat) : Value :=
  .tuple #[if addQ a b = 0 then totV (a + b) (shaL (nodeT a x b y)) else totV 0 zeroD, errA (addQ a b)]

/-- A total in memory. -/
def TotAt (w : World) (g : Nat) (s : Int) (d : List Nat) : Prop := w.heap[g]? = some (.cells (totR s d) 25 (0, 0))
theorem TotAt.sum {w : World} {g : Nat} {s : Int} {d : List Nat} (h : TotAt w g s d) : w.cell? ⟨g, 0, none⟩ = some (.int .i64 s) := by
  rw [cell_of_row w g 0 _ _ _ h]; rfl
theorem TotAt.lt {w : World} {g : Nat} {s : Int} {d : List Nat} (h : TotAt w g s d) : g < w.heap.size := (Array.getElem?_eq_some_iff.1 h).1
theorem TotAt.dig {w : World} {g : Nat} {s : Int} {d : List Nat} (h : TotAt w g s d) (hd : d.length = 32) : YSl w w.heap.size (some ⟨g, 1, none⟩) 32 d := by
  refine YSl.of hd h.lt fun k hk => ?_
  rw [cell_of_row w g (1 + k) _ _ _ h]
  unfold totR totL
  rw [List.getElem?_toArray, Nat.add_comm, List.getElem?_cons_succ, List.getElem?_map, List.getD_eq_getElem?_getD, List.getElem?_eq_getElem (by omega)]
  rfl
theorem TotAt.below {w w' : World} {B g : Nat} {s : Int} {d : List Nat} (h : TotAt w g s d) (hb : Below B w w') (hg : g < B) : TotAt w' g s d := (hb.block g hg).trans h
theorem TotAt.new (w : World) (s : Int) (d : List Nat) : TotAt (w.alloc (.cells (totR s d) 25)) w.heap.size s d := heap_alloc_new _ _
theorem TotAt.alloc {w : World} {g : Nat} {s : Int} {d : List Nat} (h : TotAt w g s d) (o : Obj) : TotAt (w.alloc o) g s d := (heap_alloc_old w o h.lt).trans h
theorem YSl.step {w w' : World} {A : Option Addr} {n : Nat} {bs : List Nat} (h : YSl w w.heap.size A n bs) (hb : Below w.heap.size w w') : YSl w' w'.heap.size A n bs := (Sl.below h hb).more hb.size
theorem YSl.behind {w : World} {A : Option Addr} {n : Nat} {bs : List Nat} (h : YSl w w.heap.size A n bs) (o : Obj) : YSl (w.alloc o) (w.alloc o).heap.size A n bs := h.step ((Below.refl _ _).alloc (Nat.le_refl _) _)
theorem YSl.one (w : World) (x : Nat) : YSl (w.alloc (.cells #[.int .u8 (x : Int)] 5)) (w.alloc (.cells #[.int .u8 (x : Int)] 5)).heap.size (some ⟨w.heap.size, 0, none⟩) 1 [x] := Sl.own (row_one w x)
def partV (p : Part) : Value := .slice p.A p.n p.c
theorem parts_new (X : World) (ps : List Part) (T : TypeId) (h : ∀ p ∈ ps, YSl X X.heap.size p.A p.n p.bs) : PartsAt (X.alloc (.cells (ps.map partV).toArray T)) X.heap.size ps := by
  intro j hj
  refine ⟨?_, ?_⟩
  · rw [World.cell?_alloc_at _ _ _ _ rfl]
    rw [List.getElem?_toArray, List.getElem?_map, List.getD_eq_getElem?_getD, List.getElem?_eq_getElem hj]
    rfl
  · exact (h _ (getD_mem Part.none_ hj)).behind _
theorem parts5 (X : World) (vb : Nat) (hvb : vb = X.heap.size) (p1 p2 p3 p4 p5 : Part) (T : TypeId) (h1 : YSl X X.heap.size p1.A p1.n p1.bs) (h2 : YSl X X.heap.size p2.A p2.n p2.bs) (h3 : YSl X X.heap.size p3.A p3.n p3.bs) (h4 : YSl X X.heap.size p4.A p4.n p4.bs) (h5 : YSl X X.heap.size p5.A p5.n p5.bs) :
    PartsAt (X.alloc (.cells #[partV p1, partV p2, partV p3, partV p4, partV p5] T)) vb [p1, p2, p3, p4, p5] := by
  subst hvb
  exact parts_new X [p1, p2, p3, p4, p5] T (by
    intro p hp
    simp only [List.mem_cons, List.not_mem_nil, or_false] at hp
    rcases hp with rfl | rfl | rfl | rfl | rfl <;> assumption)
theorem nodeT_parts (a : Int) (x : List Nat) (b : Int) (y : List Nat) (A1 A2 A3 A4 A5 : Option Addr) (n1 n2 n3 n4 n5 c1 c2 c3 c4 c5 : Nat) : allP [⟨A1, n1, c1, [26]⟩, ⟨A2, n2, c2, sizeL a.toNat⟩, ⟨A3, n3, c3, x⟩, ⟨A4, n4, c4, sizeL b.toNat⟩, ⟨A5, n5, c5, y⟩] = nodeT a x b y := by
  simp [allP, nodeT]
theorem nodeT_small {a : Int} {x : List Nat} {b : Int} {y : List Nat} (hx : Dig x) (hy : Dig y) : ∀ z ∈ nodeT a x b y, z < 256 := by
  intro z hz
  simp only [nodeT, List.mem_append, List.mem_singleton] at hz
  rcases hz with (((rfl | hz) | hz) | hz) | hz
  · decide
  · exact sizeL_small _ z hz
  · exact hx.2 z hz
  · exact sizeL_small _ z hz
  · exact hy.2 z hz
theorem nodeT_len {a : Int} {x : List Nat} {b : Int} {y : List Nat} (hx : Dig x) (hy : Dig y) : 1 ≤ (nodeT a x b y).length ∧ (nodeT a x b y).length ≤ 1000000 := by
  have h1 := sizeL_len a.toNat
  have h2 := sizeL_len b.toNat
  simp only [nodeT, List.length_append, List.length_singleton, hx.1, hy.1]
  omega

theorem built_tot (s : Int) : ∀ (d : List Nat), d.length = 32 → Tryd.prog.built 25 [(0, .int .i64 s), (1, digV d)] = some (totR s d)
  | [a0, a1, a2, a3, a4, a5, a6, a7, a8, a9, a10, a11, a12, a13, a14, a15, a16, a17, a18, a19, a20, a21, a22, a23, a24, a25, a26, a27, a28, a29, a30, a31], _ => by kernel_rfl
theorem built_zero : Tryd.prog.built 25 [] = some (totR 0 zeroD) := by kernel_rfl
set_option maxRecDepth 100000 in
/-- A total is made of its parts. -/
theorem wpList_tot {ops : Array Oper} {rest : List Oper} {o : Oper} {a : Act} {w : World} {Q : Exit → Act → World → Prop} (hg : o.guard = none) (x y : Operand) (ho : o.op = .build 25 #[(0, x), (1, y)])
    (s : Int) (d : List Nat) (hx : a.eval x = .int .i64 s) (hy : a.eval y = digV d) (hd : d.length = 32) (h : wpList Tryd.prog ops Q rest (a.put o.dst (totV s d)) w) : wpList Tryd.prog ops Q (o :: rest) a w := by
  have hb : Tryd.prog.built 25 ((#[(0, x), (1, y)] : Array (Nat × Operand)).map fun (i, x) => (i, a.eval x)).toList = some (totR s d) := by
    simp only [List.map_toArray, List.map_cons, List.map_nil, hx, hy]
    exact built_tot s d hd
  refine wpList_build hg 25 #[(0, x), (1, y)] ho (by rw [hb]; rfl) ?_
  rw [hb]
  exact h
set_option maxRecDepth 100000 in
/-- No total. -/
theorem wpList_totz {ops : Array Oper} {rest : List Oper} {o : Oper} {a : Act} {w : World} {Q : Exit → Act → World → Prop} (hg : o.guard = none) (ho : o.op = .build 25 #[])
    (h : wpList Tryd.prog ops Q rest (a.put o.dst (totV 0 zeroD)) w) : wpList Tryd.prog ops Q (o :: rest) a w := by
  have hb : Tryd.prog.built 25 ((#[] : Array (Nat × Operand)).map fun (i, x) => (i, a.eval x)).toList = some (totR 0 zeroD) := by
    simp only [List.map_toArray, List.map_nil]
    exact built_zero
  refine wpList_build hg 25 #[] ho (by rw [hb]; rfl) ?_
  rw [hb]
  exact h
set_option maxRecDepth 100000 in
theorem totInfo {s : Int} {d : List Nat} (h : d.length = 32) : (Tryd.prog.info? 25).map (·.size) = some (totR s d).size := by rw [totR_size h]; kernel_rfl
theorem results_cell_tmp {P : Program} {fn : Func} {p q : Tmp} {ty : TypeId} (h : fn.results = #[.cell p ty, .tmp q]) (tmps : Array Value) (w : World) (g : Nat) (t : TypeId) (cs : Array Value) (fr : Nat × Nat) (d : TypeDesc)
    (hp : tmps.getD p undef = .pointer (some ⟨g, 0, none⟩)) (hg : w.heap[g]? = some (.cells cs t fr))
    (hu : P.underlying ty = some d) (hd : (match d with | .struct _ | .array _ _ => true | _ => false) = true) (hi : (P.info? ty).map (·.size) = some cs.size) :
    (results fn tmps).run P w = .ok (.tuple #[.agg cs, tmps.getD q undef]) w := by
  have hp' : tmps[p]?.getD undef = .pointer (some ⟨g, 0, none⟩) := by simpa using hp
  simp [results, h, hp', asAddr, run_loadVar_row w g t ty cs fr d hg hu hd hi]
theorem tot_same {s s' : Int} {d d' : List Nat} (h : d.length = 32) (h' : d'.length = 32) : (totR s d).size = (totR s' d').size := by rw [totR_size h, totR_size h']
theorem YSl.one26 (w : World) : YSl (w.alloc (.cells #[.int .u8 26] 5)) (w.alloc (.cells #[.int .u8 26] 5)).heap.size (some ⟨w.heap.size, 0, none⟩) 1 [26] := YSl.one w 26
theorem below_more {w X : World} (h : Below w.heap.size w X) (o : Obj) : Below w.heap.size w (X.alloc o) := h.alloc h.size o
theorem below_then {w X Y : World} (h : Below w.heap.size w X) (hb : Below X.heap.size X Y) : Below w.heap.size w Y := h.trans (hb.mono h.size)
theorem nodeT_nat (na nb : Nat) (x y : List Nat) (A1 A2 A3 A4 A5 : Option Addr) (n1 n2 n3 n4 n5 c1 c2 c3 c4 c5 : Nat) : allP [⟨A1, n1, c1, [26]⟩, ⟨A2, n2, c2, sizeL na⟩, ⟨A3, n3, c3, x⟩, ⟨A4, n4, c4, sizeL nb⟩, ⟨A5, n5, c5, y⟩] = nodeT na x nb y := nodeT_parts na x nb y A1 A2 A3 A4 A5 n1 n2 n3 n4 n5 c1 c2 c3 c4 c5

set_option maxHeartbeats 4000000 in
set_option maxRecDepth 100000 in
theorem node_ok (a b : Int) (x y : List Nat) (hx : Dig x) (hy : Dig y) (hq : addQ a b = 0) (w : World) (hg : RoundsAt w) :
    Calls Tryd.prog 17 #[totV a x, totV b y] w (fun e w' => e = .returned (.tuple #[totV (a + b) (shaL (nodeT a x b y)), .nilIface]) ∧ Below w.heap.size w w') := by
  have hA := add_any a b
  unfold addV at hA
  rw [if_pos hq, hq] at hA
  have HA : Hid (∀ w, Calls Tryd.prog 37 #[.int .i64 a, .int .i64 b] w (fun e w' => e = .returned (.tuple #[.int .i64 (a + b), .nilIface]) ∧ Below w.heap.size w w')) := aside hA
  obtain ⟨⟨a0, a1⟩, ⟨b0, b1⟩, -⟩ := addQ_zero.1 hq
  obtain ⟨na, rfl⟩ : ∃ n : Nat, a = n := ⟨a.toNat, by omega⟩
  obtain ⟨nb, rfl⟩ : ∃ n : Nat, b = n := ⟨b.toNat, by omega⟩
  have ha : na ≤ 1125899906842624 := by omega
  have hb : nb ≤ 1125899906842624 := by omega
  clear hA hq a0 a1 b0 b1
  have HX := aside hx
  have HY := aside hy
  have HG := aside hg
  clear hx hy hg
  go_enter Tryd.func17, Tryd.ntmps17
  go_upto_region 1 with fail
  change Code.wp _ _ _ _ (((w.alloc (.cells (totR na x) 25)).alloc (.cells (totR nb y) 25)).alloc (.cells (totR 0 zeroD) 25))
  have T0 : Hid (TotAt (((w.alloc (.cells (totR na x) 25)).alloc (.cells (totR nb y) 25)).alloc (.cells (totR 0 zeroD) 25)) w.heap.size na x) := aside (((TotAt.new w na x).alloc _).alloc _)
  have T1 : Hid (TotAt (((w.alloc (.cells (totR na x) 25)).alloc (.cells (totR nb y) 25)).alloc (.cells (totR 0 zeroD) 25)) (w.heap.size + 1) nb y) := aside (by
    have h := (TotAt.new (w.alloc (.cells (totR na x) 25)) nb y).alloc (.cells (totR 0 zeroD) 25)
    rwa [show (w.alloc (.cells (totR na x) 25)).heap.size = w.heap.size + 1 by simp] at h)
  have T2 : Hid (TotAt (((w.alloc (.cells (totR na x) 25)).alloc (.cells (totR nb y) 25)).alloc (.cells (totR 0 zeroD) 25)) (w.heap.size + 1 + 1) 0 zeroD) := aside (by
    have h := TotAt.new ((w.alloc (.cells (totR na x) 25)).alloc (.cells (totR nb y) 25)) 0 zeroD
    rwa [show ((w.alloc (.cells (totR na x) 25)).alloc (.cells (totR nb y) 25)).heap.size = w.heap.size + 1 + 1 by simp] at h)
  have B1 : Hid (Below w.heap.size w (((w.alloc (.cells (totR na x) 25)).alloc (.cells (totR nb y) 25)).alloc (.cells (totR 0 zeroD) 25))) := aside ((((Below.refl _ _).alloc (Nat.le_refl _) _).alloc (by simp) _).alloc (by simp; omega) _)
  have Z1 : Hid ((((w.alloc (.cells (totR na x) 25)).alloc (.cells (totR nb y) 25)).alloc (.cells (totR 0 zeroD) 25)).heap.size = w.heap.size + 1 + 1 + 1) := aside (by simp)
  generalize (((w.alloc (.cells (totR na x) 25)).alloc (.cells (totR nb y) 25)).alloc (.cells (totR 0 zeroD) 25)) = w1 at T0 T1 T2 B1 Z1 ⊢
  obtain ⟨N, hN⟩ : ∃ N, N = w.heap.size := ⟨_, rfl⟩
  have EN := aside hN
  simp only [← hN] at T0 T1 T2 Z1 ⊢
  have d0 := T0.out.sum
  have d1 := T1.out.sum
  clear hN
  go_upto_region 4 with (first
    | (go_at_call 37; refine (HA.out _).mono ?_; rintro e w2 ⟨rfl, hb2⟩; have HB2 := aside hb2; clear hb2)
    | fail)
  have y0 : YSl w2 w2.heap.size (some ⟨N, 1, none⟩) 32 x := (T0.out.dig HX.out.1).step HB2.out
  have y1 : YSl w2 w2.heap.size (some ⟨N + 1, 1, none⟩) 32 y := (T1.out.dig HY.out.1).step HB2.out
  have HD0 : YSl w2.drew w2.drew.heap.size (some ⟨N, 1, none⟩) 32 x := FSl.drewN y0 1
  have HD1 : YSl w2.drew w2.drew.heap.size (some ⟨N + 1, 1, none⟩) 32 y := FSl.drewN y1 1
  have HDA0 : YSl (w2.alloc (.cells #[.int .u8 26] 5)).drew (w2.alloc (.cells #[.int .u8 26] 5)).drew.heap.size (some ⟨N, 1, none⟩) 32 x := FSl.drewN (y0.behind _) 1
  have HDA1 : YSl (w2.alloc (.cells #[.int .u8 26] 5)).drew (w2.alloc (.cells #[.int .u8 26] 5)).drew.heap.size (some ⟨N + 1, 1, none⟩) 32 y := FSl.drewN (y1.behind _) 1
  have H26A : YSl (w2.alloc (.cells #[.int .u8 26] 5)).drew (w2.alloc (.cells #[.int .u8 26] 5)).drew.heap.size (some ⟨w2.heap.size, 0, none⟩) 1 [26] := FSl.drewN (YSl.one w2 26) 1
  have s0 : w2.cell? ⟨N, 0, none⟩ = some (.int .i64 na) := (HB2.out.cell (p := ⟨N, 0, none⟩) (show N < w1.heap.size by rw [Z1.out]; omega)).trans d0
  have s1 : w2.cell? ⟨N + 1, 0, none⟩ = some (.int .i64 nb) := (HB2.out.cell (p := ⟨N + 1, 0, none⟩) (show N + 1 < w1.heap.size by rw [Z1.out]; omega)).trans d1
  have hlt : N + 1 < w2.heap.size := Nat.lt_of_lt_of_le (by rw [Z1.out]; omega) HB2.out.size
  have hB0 : Below w2.heap.size w2 w2.drew := below_drawn (Below.refl _ _) 1
  have hBA : Below w2.heap.size w2 (w2.alloc (.cells #[.int .u8 26] 5)).drew := below_drawn (below_more (Below.refl _ _) _) 1
  have HS : Hid (∀ X, Below w2.heap.size w2 X → X.cell? ⟨N, 0, none⟩ = some (.int .i64 na) ∧ X.cell? ⟨N + 1, 0, none⟩ = some (.int .i64 nb)) := aside (fun X hX => ⟨(hX.cell (p := ⟨N, 0, none⟩) (show N < w2.heap.size by omega)).trans s0, (hX.cell (p := ⟨N + 1, 0, none⟩) hlt).trans s1⟩)
  have HL := aside (nodeT_len (a := na) (b := nb) HX.out HY.out)
  clear y0 y1
  go_region_held3 (fun w' => w'.cell? ⟨N, 0, none⟩ = some (.int .i64 na) ∧ w'.cell? ⟨N + 1, 0, none⟩ = some (.int .i64 nb))
    ((refine HS.out _ ?_; first
        | with_reducible assumption
        | (with_reducible refine below_more ?_ _; with_reducible assumption)
        | (with_reducible refine below_more ?_ _; with_reducible refine below_more ?_ _; with_reducible assumption)))
    (first
      | (go_at_call_of 33 (Value.int .i64 (na : Int)); refine (size_any na ha _).mono ?_; rintro e wa ⟨Ga, ma, ca, rfl, HYa, HSa⟩; have hBa : Below w2.heap.size w2 wa := (by first | with_reducible exact below_then hB0 HSa | with_reducible exact below_then hBA HSa))
      | (go_at_call_of 33 (Value.int .i64 (nb : Int)); refine (size_any nb hb _).mono ?_; rintro e wb ⟨Gb, mb, cb, rfl, HYb, HSb⟩; have hBb : Below w2.heap.size w2 wb := (by first | with_reducible exact below_then hBa HSb | with_reducible exact below_then (below_more hBa _) HSb))
      | (go_at_call 32; refine (concat_any [⟨some ⟨_, 0, none⟩, 1, 1, [26]⟩, ⟨Ga, ma, ca, sizeL na⟩, ⟨some ⟨N, 1, none⟩, 32, 32, x⟩, ⟨Gb, mb, cb, sizeL nb⟩, ⟨some ⟨N + 1, 1, none⟩, 32, 32, y⟩] 5 _ rfl _ (by simp) (parts5 _ _ (by simp) _ _ _ _ _ _ (by (repeat' (first | with_reducible exact HYa | with_reducible exact HYb | with_reducible exact HD0 | with_reducible exact HD1 | with_reducible exact HDA0 | with_reducible exact HDA1 | with_reducible exact H26A | with_reducible exact YSl.one26 _ | with_reducible refine YSl.behind ?_ _ | with_reducible refine YSl.step ?_ HSb | with_reducible refine YSl.step ?_ HSa))) (by (repeat' (first | with_reducible exact HYa | with_reducible exact HYb | with_reducible exact HD0 | with_reducible exact HD1 | with_reducible exact HDA0 | with_reducible exact HDA1 | with_reducible exact H26A | with_reducible exact YSl.one26 _ | with_reducible refine YSl.behind ?_ _ | with_reducible refine YSl.step ?_ HSb | with_reducible refine YSl.step ?_ HSa))) (by (repeat' (first | with_reducible exact HYa | with_reducible exact HYb | with_reducible exact HD0 | with_reducible exact HD1 | with_reducible exact HDA0 | with_reducible exact HDA1 | with_reducible exact H26A | with_reducible exact YSl.one26 _ | with_reducible refine YSl.behind ?_ _ | with_reducible refine YSl.step ?_ HSb | with_reducible refine YSl.step ?_ HSa))) (by (repeat' (first | with_reducible exact HYa | with_reducible exact HYb | with_reducible exact HD0 | with_reducible exact HD1 | with_reducible exact HDA0 | with_reducible exact HDA1 | with_reducible exact H26A | with_reducible exact YSl.one26 _ | with_reducible refine YSl.behind ?_ _ | with_reducible refine YSl.step ?_ HSb | with_reducible refine YSl.step ?_ HSa))) (by (repeat' (first | with_reducible exact HYa | with_reducible exact HYb | with_reducible exact HD0 | with_reducible exact HD1 | with_reducible exact HDA0 | with_reducible exact HDA1 | with_reducible exact H26A | with_reducible exact YSl.one26 _ | with_reducible refine YSl.behind ?_ _ | with_reducible refine YSl.step ?_ HSb | with_reducible refine YSl.step ?_ HSa)))) (by rw [nodeT_nat]; exact HL.out.1) (by rw [nodeT_nat]; exact HL.out.2) (by decide)).mono ?_; rintro e wc ⟨Gc, mc, cc, rfl, hyc, hbc⟩; have HYc : Hid (YSl wc wc.heap.size Gc mc (nodeT na x nb y)) := aside (by have h := hyc; rw [nodeT_nat] at h; exact h); have hBc : Below w2.heap.size w2 wc := (by first | with_reducible exact below_then (below_more hBb _) hbc | with_reducible exact below_then (below_more (below_more hBb _) _) hbc); clear hyc hbc)
      | fail)
  all_goals
    have HBc := aside hBc
    have HGc : Hid (RoundsAt wc) := aside (HG.out.below (B1.out.trans ((HB2.out.mono B1.out.size).trans (hBc.mono (Nat.le_trans B1.out.size HB2.out.size)))))
    have T2c : Hid (TotAt wc (N + 1 + 1) 0 zeroD) := aside ((T2.out.below HB2.out (by rw [Z1.out]; omega)).below hBc (Nat.lt_of_lt_of_le (by rw [Z1.out]; omega) HB2.out.size))
    have HBe : Hid (Below w.heap.size w wc) := aside (B1.out.trans ((HB2.out.mono B1.out.size).trans (hBc.mono (Nat.le_trans B1.out.size HB2.out.size))))
    have HLm := aside (YSl.len1 HYc.out)
    have HSm : Hid (∀ z ∈ nodeT na x nb y, z < 256) := aside (nodeT_small HX.out HY.out)
    clear hBc hBb hBa hBA hB0 HSa HSb HYa HYb H26A HDA0 HDA1 HD0 HD1 s0 s1
    go_wp2_with (first
      | (go_at_call 31; refine (sha_any (nodeT na x nb y) Gc mc cc wc HYc.out (by rw [← HLm.out]; exact HL.out.2) HSm.out HGc.out).mono ?_; rintro e wd ⟨rfl, hbd⟩; have HBd := aside hbd; have T2d : Hid (TotAt wd (N + 1 + 1) 0 zeroD) := aside (T2c.out.below hbd T2c.out.lt); clear hbd)
      | (refine wpList_tot rfl (.tmp 34) (.tmp 36) rfl (na + nb) (shaL (nodeT na x nb y)) rfl rfl (shaL_len _) ?_)
      | (refine wpList_store_row rfl 25 (.tmp 4) (.tmp 37) rfl (N + 1 + 1) (totR (na + nb) (shaL (nodeT na x nb y))) rfl rfl 25 (totR 0 zeroD) T2d.out (totInfo (shaL_len _)) (tot_same rfl (shaL_len _)) (totR_one _ _) ?_)
      | fail)
    refine bodyPost_ret (results_cell_tmp rfl _ _ (N + 1 + 1) 25 (totR (na + nb) (shaL (nodeT na x nb y))) (0, 0) _ rfl (setRow_heap wd (N + 1 + 1) _ _ _ _ T2d.out) Tryd.underlying25 rfl (totInfo (shaL_len _))) rfl ?_
    refine ⟨rfl, ?_⟩
    exact below_setRow (HBe.out.trans (HBd.out.mono HBe.out.size)) _ (by rw [EN.out]; omega) _
end Go.Proofs.YtkpbhbafapdboaaDoor
