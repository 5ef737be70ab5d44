/- What a digest is signed by: the plain law. Conditions: named in each theorem. The numbers that a digest is signed by, in the reference: the walk. Conditions: named in each theorem. -/
import Derived.Test.YtbpabjhcjffkmaaGreatDoorPubB
import Derived.Test.YtbpabjhcjffkmaaGreatDoorPayL
import Derived.Test.YtbpabjhcjffkmaaGreatDoorRefL
/- What a digest is signed by: the plain law. Conditions: named in each theorem. -/
namespace Go.Proofs.YtbpabjhcjffkmaaGreatDoor
open Go.RowKit Go.ChangeShapes Go.WideShapes Go.ChangeAt

/-- The halves of bytes. -/
def nibs (m : List Nat) : List Nat := m.flatMap fun b => [b / 16, b % 16]
theorem nibs_len (m : List Nat) : (nibs m).length = 2 * m.length := by
 induction m with
 | nil => rfl
 | cons a m ih =>
  unfold nibs at ih ⊢
  rw [List.flatMap_cons, List.length_append, ih]
  simp only [List.length_cons, List.length_nil]
  omega
theorem nibs_app (a b : List Nat) : nibs (a ++ b) = nibs a ++ nibs b := by unfold nibs; rw [List.flatMap_append]
theorem nibs_small {m : List Nat} (h : ∀ x ∈ m, x < 256) : ∀ y ∈ nibs m, y ≤ 15 := fun y hy => by
 obtain ⟨x, hx, hxy⟩ := List.mem_flatMap.1 hy
 have := h x hx
 simp only [List.mem_cons, List.not_mem_nil, or_false] at hxy
 rcases hxy with rfl | rfl <;> omega
/-- What is lacking to 15 at each. -/
def lackN : List Nat → Nat
 | [] => 0
 | a :: r => (15 - a) + lackN r
theorem lackN_app : ∀ (a b : List Nat), lackN (a ++ b) = lackN a + lackN b
 | [], b => by simp [lackN]
 | x :: a, b => by
  have := lackN_app a b
  simp only [List.cons_append, lackN]
  omega
theorem lackN_le : ∀ (a : List Nat), lackN a ≤ 15 * a.length
 | [] => by simp [lackN]
 | x :: a => by
  have := lackN_le a
  simp only [lackN, List.length_cons]
  omega
/-- The three numbers of what is lacking. -/
def tailN (s : Nat) : List Nat := [s / 256, s / 16 % 16, s % 16]
/-- The numbers that a digest is signed by. -/
def digL (m : List Nat) : List Nat := nibs m ++ tailN (lackN (nibs m))
theorem digL_len {m : List Nat} (h : m.length = 32) : (digL m).length = 67 := by
 unfold digL tailN
 rw [List.length_append, nibs_len, h]
 rfl
theorem digL_small {m : List Nat} (h : m.length = 32) (hb : ∀ x ∈ m, x < 256) : ∀ y ∈ digL m, y ≤ 15 := fun y hy => by
 unfold digL tailN at hy
 have h1 := lackN_le (nibs m)
 rw [nibs_len, h] at h1
 rcases List.mem_append.1 hy with hy | hy
 ·exact nibs_small hb y hy
 ·simp only [List.mem_cons, List.not_mem_nil, or_false] at hy
  rcases hy with rfl | rfl | rfl <;> omega
/-- What is signed, the first so many. -/
def sigN (d ns : List Nat) (i : Nat) : List (List Nat) := (List.range i).map fun j => stepL (ns.getD j 0) (macL d [5, j])
theorem sigN_len (d ns : List Nat) (i : Nat) : (sigN d ns i).length = i := by simp [sigN]
theorem sigN_next (d ns : List Nat) (i : Nat) : sigN d ns (i + 1) = sigN d ns i ++ [stepL (ns.getD i 0) (macL d [5, i])] := by
 unfold sigN
 rw [List.range_succ, List.map_append]
 rfl
theorem sigN_succ (d ns : List Nat) (i : Nat) : (sigN d ns (i + 1)).flatMap id = (sigN d ns i).flatMap id ++ stepL (ns.getD i 0) (macL d [5, i]) := by
 rw [sigN_next, List.flatMap_append]
 simp
theorem sigN_dig (d ns : List Nat) (i : Nat) : ∀ x ∈ sigN d ns i, x.length = 32 ∧ ∀ y ∈ x, y < 256 := by
 intro x hx
 obtain ⟨j, _, rfl⟩ := List.mem_map.1 hx
 exact ⟨stepL_len (macL_len _ _) _, stepL_small (macL_small _ _) _⟩
theorem sigN_flat (d ns : List Nat) (i : Nat) : ((sigN d ns i).flatMap id).length = i * 32 := by
 rw [dig_flat_len fun x hx => (sigN_dig d ns i x hx).1, sigN_len]
/-- A signature. -/
def signL (d m : List Nat) : List Nat := (sigN d (digL m) 67).flatMap id
theorem signL_len (d m : List Nat) : (signL d m).length = 2144 := sigN_flat _ _ _
/-- A row of ints that are Nats. -/
def rowN (l : List Nat) : Array Value := (l.map fun (x : Nat) => Value.int .i64 (x : Int)).toArray
theorem rowN_size (l : List Nat) : (rowN l).size = l.length := by simp [rowN]
theorem rowN_one (l : List Nat) : (rowN l).all (·.oneCell') = true := by simp [rowN, Value.oneCell']
/-- A block of ints. -/
def BlkN (w : World) (b : Nat) (T : TypeId) (l : List Nat) : Prop := w.heap[b]? = some (.cells (rowN l) T (0, 0))
theorem BlkN.new (w : World) (T : TypeId) (l : List Nat) : BlkN (w.alloc (.cells (rowN l) T)) w.heap.size T l := heap_alloc_new _ _
theorem BlkN.lt {w : World} {b : Nat} {T : TypeId} {l : List Nat} (h : BlkN w b T l) : b < w.heap.size := (Array.getElem?_eq_some_iff.1 h).1
theorem BlkN.below {w w' : World} {b N : Nat} {T : TypeId} {l : List Nat} (h : BlkN w b T l) (hb : Below N w w') (hN : b < N) : BlkN w' b T l := (hb.block b hN).trans h
theorem BlkN.cell {w : World} {b : Nat} {T : TypeId} {l : List Nat} (h : BlkN w b T l) {k : Nat} (hk : k < l.length) : w.cell? ⟨b, k, none⟩ = some (.int .i64 ((l.getD k 0 : Nat) : Int)) := by
 have hs : w.heap[b]? = some (.cells (rowN l) T (0, 0)) := h
 rw [cell_of_row w b k _ _ _ hs]
 unfold rowN
 rw [List.getElem?_toArray, List.getElem?_map, List.getD_eq_getElem?_getD, List.getElem?_eq_getElem hk]
 rfl
theorem BlkN.fz {w : World} {b : Nat} {T : TypeId} {l : List Nat} (h : BlkN w b T l) (o : Nat) : w.frozen? ⟨b, o, none⟩ = false := frozen_of_row w b o _ _ h
theorem BlkN.set {w : World} {b : Nat} {T : TypeId} {l : List Nat} (h : BlkN w b T l) (k x : Nat) : BlkN (w.setCell ⟨b, k, none⟩ (.int .i64 (x : Int))) b T (l.set k x) := by
 have e : (rowN l).setIfInBounds k (.int .i64 (x : Int)) = rowN (l.set k x) := by
  unfold rowN
  rw [List.setIfInBounds_toArray, List.map_set]
 unfold BlkN
 rw [← e]
 exact heap_setCell_same w b k _ T _ h
end Go.Proofs.YtbpabjhcjffkmaaGreatDoor

/- The numbers that a digest is signed by, in the reference: the walk. Conditions: named in each theorem. -/
namespace Go.Proofs.YtbpabjhcjffkmaaGreatDoor
open Go.RowKit Go.ChangeShapes Go.WideShapes Go.ChangeAt

theorem nibs_at : ∀ (m : List Nat) (i : Nat), i < 2 * m.length → (nibs m).getD i 0 = if i % 2 = 1 then m.getD (i / 2) 0 % 16 else m.getD (i / 2) 0 / 16
 | [], i, h => by simp at h
 | b :: m, 0, _ => by simp [nibs]
 | b :: m, 1, _ => by simp [nibs]
 | b :: m, i + 2, h => by
  have ih := nibs_at m i (by simp only [List.length_cons] at h; omega)
  have e1 : (nibs (b :: m)).getD (i + 2) 0 = (nibs m).getD i 0 := by simp [nibs]
  have e2 : (i + 2) / 2 = i / 2 + 1 := by omega
  have e3 : (i + 2) % 2 = i % 2 := by omega
  rw [e1, ih, e2, e3]
  simp
def intsL (l : List Nat) : List Int := l.map Int.ofNat
theorem intsL_len (l : List Nat) : (intsL l).length = l.length := by simp [intsL]
theorem intsL_app (a b : List Nat) : intsL (a ++ b) = intsL a ++ intsL b := by simp [intsL]
set_option maxHeartbeats 20000000 in
set_option maxRecDepth 100000 in
theorem rnib_any (d : List Nat) (hd : d.length = 32) (hb : ∀ x ∈ d, x < 256) (w : World) :
  Calls Tryz.prog 51 #[digV d] w (fun e w' => ∃ A c, e = .returned (.slice A 67 c) ∧ ISl w' w'.heap.size A 67 (intsL (digL d)) ∧ Below w.heap.size w w') := by
 have B1 : Hid (Below w.heap.size w (w.alloc (.cells (rowY d) 23))) := aside ((Below.refl _ _).alloc (Nat.le_refl _) _)
 have D1 : Hid (BlkY (w.alloc (.cells (rowY d) 23)) w.heap.size 23 d) := aside (BlkY.new w _ _)
 have HDl := aside hd
 have HDb := aside hb
 clear hd hb
 unfold digV
 go_enter Tryz.func51, Tryz.ntmps51
 go_upto_region 4 with fail
 change Code.wp _ _ _ _ (w.alloc (.cells (rowY d) 23))
 generalize (w.alloc (.cells (rowY d) 23)) = w1 at B1 D1 ⊢
 obtain ⟨B0, hB0⟩ : ∃ B0, B0 = w.heap.size := ⟨_, rfl⟩
 have EB := aside hB0
 simp only [← hB0] at D1 ⊢
 clear hB0
 have l1 := D1.out.lt
 have HB1 := aside (Below.refl w1.heap.size w1)
 have HO0 : Hid (w1.ownsRow w1.heap.size 3 1 (.slice none 0 0) 0 ((intsL ((nibs d).take 0)).map (Value.int .i64))) := aside ⟨by simp [intsL], .inl ⟨rfl, rfl⟩⟩
 go_loopw [3, 4, 5] (fun v3 v4 v5 wr => ∃ (i s : Nat) (A : Option Addr) (c : Nat), i ≤ 64 ∧ s ≤ 15 * i ∧ v5 = .int .i64 i ∧ v4 = .int .i64 s ∧ v3 = .slice A i c ∧ Hid (s = lackN ((nibs d).take i)) ∧ Hid (wr.ownsRow w1.heap.size 3 1 (.slice A i c) i ((intsL ((nibs d).take i)).map (Value.int .i64))) ∧ Hid (Below w1.heap.size w1 wr)) (fun _ _ v5 _ => 64 - (Go.RowKit.intOf v5).toNat)
 case atStart => exact ⟨0, 0, none, 0, Nat.zero_le _, Nat.zero_le _, rfl, rfl, rfl, aside rfl, HO0, HB1⟩
 case round =>
  clear HB1 HO0
  obtain ⟨i, s, A, c, hi, hs, rfl, rfl, rfl, HS, HO, HB⟩ := hrel
  by_cases hin : i < 64
  ·have i0 : (i : Int) < 64 := by omega
   have hi2 : i / 2 < 32 := by omega
   have D2 := (HB.out.block B0 l1).trans D1.out
   have D3 : BlkY wr B0 23 d := D2
   have x0 := D3.cell (j := i / 2) (by rw [HDl.out]; exact hi2)
   have hxs : d.getD (i / 2) 0 < 256 := by
    rw [List.getD_eq_getElem?_getD, List.getElem?_eq_getElem (by rw [HDl.out]; exact hi2)]
    exact HDb.out _ (List.getElem_mem _)
   have hat := nibs_at d i (by rw [HDl.out]; omega)
   have htk : (nibs d).take (i + 1) = (nibs d).take i ++ [(nibs d).getD i 0] := by
    rw [List.take_add_one, List.getD_eq_getElem?_getD, List.getElem?_eq_getElem (by rw [nibs_len, HDl.out]; omega)]
    rfl
   generalize d.getD (i / 2) 0 = x at x0 hxs hat
   have q1 : IntKind.i64.wrap ((i : Int).tdiv 2) = ((i / 2 : Nat) : Int) := by rw [show (i : Int).tdiv 2 = ((i / 2 : Nat) : Int) from rfl, IntKind.wrap_i64]; omega
   have q2 : IntKind.i64.wrap ((x : Nat) : Int) = ((x : Nat) : Int) := by rw [IntKind.wrap_i64]; omega
   have q3 : IntKind.i64.wrap ((x : Int).tdiv 16) = ((x / 16 : Nat) : Int) := by rw [show (x : Int).tdiv 16 = ((x / 16 : Nat) : Int) from rfl, IntKind.wrap_i64]; omega
   have q4 : (i : Int).tmod 2 = ((i % 2 : Nat) : Int) := rfl
   have q5 : (x : Int).tmod 16 = ((x % 16 : Nat) : Int) := rfl
   have q6 : IntKind.i64.wrap (((x % 16 : Nat)) : Int) = ((x % 16 : Nat) : Int) := by rw [IntKind.wrap_i64]; omega
   have g1 : (0 : Int) ≤ ((i / 2 : Nat) : Int) := by omega
   have g2 : ((i / 2 : Nat) : Int) < 32 := by omega
   have hwz := HB.out.size
   have HTk := aside htk
   obtain ⟨y, hy⟩ : ∃ y, y = (nibs d).getD i 0 := ⟨_, rfl⟩
   have HY := aside hy
   rw [← hy] at hat
   have hy15 : y ≤ 15 := by rw [hat]; split <;> omega
   have HA := aside hat
   have w1' : IntKind.i64.wrap (15 - (y : Int)) = ((15 - y : Nat) : Int) := by rw [IntKind.wrap_i64]; omega
   have w2' : IntKind.i64.wrap ((s : Int) + ((15 - y : Nat) : Int)) = ((s + (15 - y) : Nat) : Int) := by rw [IntKind.wrap_i64]; omega
   have HS2 : Hid (s + (15 - y) = lackN ((nibs d).take (i + 1))) := aside (by rw [htk, lackN_app, ← HS.out, ← hy]; simp [lackN])
   clear htk D2 D3 hy hat
   by_cases hodd : i % 2 = 1
   ·have hob : (((i % 2 : Nat) : Int) == 1) = true := by rw [hodd]; rfl
    have hyx : x % 16 = y := by rw [HA.out, if_pos hodd]
    have HYx := aside hyx
    rw [hyx] at q5 q6
    clear hyx hodd
    go_wp2_with (first
     | (at_builtin; refine wpList_push rfl (.tmp 26) (.tmp 28) 50 rfl w1.heap.size _ 1 8 Tryz.underlying50 intInfo rfl (by decide) (.slice A i c) i _ rfl rfl rfl rfl HO.out (by omega) (by unfold maxLen; omega) hwz ?_; intro A3 c3 w5 hc3 hc3' hown3 hb5 hz5 hg5)
     | fail)
    have HO5 : Hid (w5.ownsRow w1.heap.size 3 1 (.slice A3 (i + 1) c3) (i + 1) ((intsL ((nibs d).take (i + 1))).map (Value.int .i64))) := aside (by
     rw [HTk.out, ← HY.out, intsL_app, List.map_append]
     exact hown3)
    exact ⟨⟨i + 1, s + (15 - y), A3, c3, by omega, by omega, by go_num, rfl, rfl, HS2, HO5, aside (HB.out.trans hb5)⟩, by simp [Go.RowKit.intOf]; omega⟩
   ·have hob : (((i % 2 : Nat) : Int) == 1) = false := by simp; omega
    have hyx : x / 16 = y := by rw [HA.out, if_neg hodd]
    rw [hyx] at q3
    have q7 : (x : Int) / 16 = (y : Int) := by omega
    clear hyx hodd q5 q6
    go_wp2_with (first
     | (at_builtin; refine wpList_push rfl (.tmp 26) (.tmp 28) 50 rfl w1.heap.size _ 1 8 Tryz.underlying50 intInfo rfl (by decide) (.slice A i c) i _ rfl rfl rfl rfl HO.out (by omega) (by unfold maxLen; omega) hwz ?_; intro A3 c3 w5 hc3 hc3' hown3 hb5 hz5 hg5)
     | fail)
    have HO5 : Hid (w5.ownsRow w1.heap.size 3 1 (.slice A3 (i + 1) c3) (i + 1) ((intsL ((nibs d).take (i + 1))).map (Value.int .i64))) := aside (by
     rw [HTk.out, ← HY.out, intsL_app, List.map_append]
     exact hown3)
    exact ⟨⟨i + 1, s + (15 - y), A3, c3, by omega, by omega, by go_num, rfl, rfl, HS2, HO5, aside (HB.out.trans hb5)⟩, by simp [Go.RowKit.intOf]; omega⟩
  ·obtain rfl : i = 64 := by omega
   have htn : (nibs d).take 64 = nibs d := List.take_of_length_le (by rw [nibs_len, HDl.out]; exact Nat.le_refl _)
   rw [htn] at HO HS
   have q1 : IntKind.i64.wrap ((s : Int).tdiv 256) = ((s / 256 : Nat) : Int) := by rw [show (s : Int).tdiv 256 = ((s / 256 : Nat) : Int) from rfl, IntKind.wrap_i64]; omega
   have q2 : IntKind.i64.wrap ((s : Int).tdiv 16) = ((s / 16 : Nat) : Int) := by rw [show (s : Int).tdiv 16 = ((s / 16 : Nat) : Int) from rfl, IntKind.wrap_i64]; omega
   have q3 : ((s / 16 : Nat) : Int).tmod 16 = ((s / 16 % 16 : Nat) : Int) := rfl
   have q4 : (s : Int).tmod 16 = ((s % 16 : Nat) : Int) := rfl
   have hwz := HB.out.size
   have B9 : Hid (Below wr.heap.size wr (wr.alloc (.cells #[.int .i64 ((s / 256 : Nat) : Int), .int .i64 ((s / 16 % 16 : Nat) : Int), .int .i64 ((s % 16 : Nat) : Int)] 3))) := aside ((Below.refl _ _).alloc (Nat.le_refl _) _)
   have HO9 : Hid ((wr.alloc (.cells #[.int .i64 ((s / 256 : Nat) : Int), .int .i64 ((s / 16 % 16 : Nat) : Int), .int .i64 ((s % 16 : Nat) : Int)] 3)).ownsRow w1.heap.size 3 1 (.slice A 64 c) 64 ((intsL (nibs d)).map (Value.int .i64))) := aside (own_below HO.out B9.out)
   have HI9 : Hid (Sl (wr.alloc (.cells #[.int .i64 ((s / 256 : Nat) : Int), .int .i64 ((s / 16 % 16 : Nat) : Int), .int .i64 ((s % 16 : Nat) : Int)] 3)) (wr.alloc (.cells #[.int .i64 ((s / 256 : Nat) : Int), .int .i64 ((s / 16 % 16 : Nat) : Int), .int .i64 ((s % 16 : Nat) : Int)] 3)).heap.size 1 (some ⟨wr.heap.size, 0, none⟩) 3 ((intsL (tailN s)).map (Value.int .i64))) := aside ⟨rfl, fun _ => ⟨wr.heap.size, 0, rfl, by simp, fun j u hu => by
    rw [Nat.zero_add, cell_of_row _ _ j _ _ _ (heap_alloc_new wr _), List.getElem?_toArray]
    exact hu⟩⟩
   have H19 : Hid (∀ u ∈ (intsL (tailN s)).map (Value.int .i64), u.oneCell' = true) := aside (fun u hu => by
    obtain ⟨x, _, rfl⟩ := List.mem_map.1 hu
    rfl)
   have hz9 : w1.heap.size ≤ (wr.alloc (.cells #[.int .i64 ((s / 256 : Nat) : Int), .int .i64 ((s / 16 % 16 : Nat) : Int), .int .i64 ((s % 16 : Nat) : Int)] 3)).heap.size := Nat.le_trans hwz B9.out.size
   clear hin htn HO
   go_wp2_with (first
    | (at_builtin; refine wpList_concat rfl (.tmp 34) (.tmp 42) 50 rfl w1.heap.size (.int .i64 0) 1 8 Tryz.underlying50 intInfo rfl (by decide) _ 64 _ rfl HO9.out _ (some ⟨wr.heap.size, 0, none⟩) 3 3 _ rfl HI9.out H19.out (by omega) (by unfold maxLen; omega) hz9 ?_; intro A4 c4 w4 hc4 hc4' hown4 hb4 hg4)
    | fail)
   have HI4 : Hid (ISl w4 w4.heap.size A4 67 (intsL (digL d))) := aside (by
    have h9 := Sl.own hown4
    rw [← List.map_append, ← intsL_app, HS.out] at h9
    exact h9)
   have HB4 : Hid (Below w.heap.size w w4) := aside (B1.out.trans ((HB.out.trans ((B9.out.mono hwz).trans hb4)).mono B1.out.size))
   clear hown4 hb4 hg4
   go_ret
   exact ⟨A4, c4, rfl, HI4.out, HB4.out⟩
end Go.Proofs.YtbpabjhcjffkmaaGreatDoor
