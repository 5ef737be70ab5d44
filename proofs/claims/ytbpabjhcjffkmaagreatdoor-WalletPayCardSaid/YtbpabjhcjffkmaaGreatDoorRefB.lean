/- The reference's digests: turned words, numbers of bytes: the walk. Conditions: named in each theorem. The reference's digests: rows of ints, numbers of bytes and bytes of numbers: the walk. Conditions: named in each theorem. -/
import Derived.Test.YtbpabjhcjffkmaaGreatDoorShaG
import Derived.Deep.OwnRows
/- The reference's digests: turned words, numbers of bytes: the walk. Conditions: named in each theorem. -/
namespace Go.Proofs.YtbpabjhcjffkmaaGreatDoor
open Go.RowKit Go.ChangeShapes Go.WideShapes Go.ChangeAt

theorem i64_and_nat (a b : Nat) (ha : a < 9223372036854775808) (hb : b < 9223372036854775808) : bits .and .i64 (a : Int) (b : Int) = ((a &&& b : Nat) : Int) := by
 have hx : a &&& b < 2 ^ 63 := Nat.and_lt_two_pow _ (by omega)
 show IntKind.i64.wrap ((BitVec.ofInt 64 (a : Int) &&& BitVec.ofInt 64 (b : Int)).toNat : Int) = _
 rw [BitVec.toNat_and, ofInt_u64 a (by omega), ofInt_u64 b (by omega), IntKind.wrap_i64]
 omega
theorem i64_or_nat (a b : Nat) (ha : a < 9223372036854775808) (hb : b < 9223372036854775808) : bits .or .i64 (a : Int) (b : Int) = ((a ||| b : Nat) : Int) := by
 have hx : a ||| b < 2 ^ 63 := Nat.or_lt_two_pow (by omega) (by omega)
 show IntKind.i64.wrap ((BitVec.ofInt 64 (a : Int) ||| BitVec.ofInt 64 (b : Int)).toNat : Int) = _
 rw [BitVec.toNat_or, ofInt_u64 a (by omega), ofInt_u64 b (by omega), IntKind.wrap_i64]
 omega
theorem i64_xor_nat (a b : Nat) (ha : a < 9223372036854775808) (hb : b < 9223372036854775808) : bits .xor .i64 (a : Int) (b : Int) = ((a ^^^ b : Nat) : Int) := by
 have hx : a ^^^ b < 2 ^ 63 := Nat.xor_lt_two_pow (by omega) (by omega)
 show IntKind.i64.wrap ((BitVec.ofInt 64 (a : Int) ^^^ BitVec.ofInt 64 (b : Int)).toNat : Int) = _
 rw [BitVec.toNat_xor, ofInt_u64 a (by omega), ofInt_u64 b (by omega), IntKind.wrap_i64]
 omega
theorem nat_mask32 (x : Nat) : x &&& 4294967295 = x % 4294967296 := Nat.and_two_pow_sub_one_eq_mod x 32
theorem i64_mask32 (a : Nat) (ha : a < 9223372036854775808) : bits .and .i64 (a : Int) 4294967295 = ((a % 4294967296 : Nat) : Int) := by
 rw [← nat_mask32, ← i64_and_nat a 4294967295 ha (by decide)]
 rfl
set_option maxHeartbeats 1000000 in
theorem turn_any (x n : Nat) (hx : x < 4294967296) (hn : 2 ≤ n ∧ n ≤ 31) (w : World) :
  Calls Tryz.prog 94 #[.int .i64 x, .int .i64 n] w (fun e w' => e = .returned (.int .i64 (rot x n)) ∧ ∃ m, w' = w.drewN m) := by
 have hp : x * 2 ^ (32 - n) < 9223372036854775808 := by
  have h1 : 2 ^ (32 - n) ≤ 2 ^ 30 := Nat.pow_le_pow_right (by decide) (by omega)
  have h2 : x * 2 ^ (32 - n) ≤ 4294967295 * 2 ^ 30 := Nat.mul_le_mul (by omega) h1
  omega
 have hd := Nat.div_le_self x (2 ^ n)
 have hr : rot x n = (x / 2 ^ n) ||| (x * 2 ^ (32 - n) % 4294967296) := by unfold rot; rw [Nat.or_comm]
 have e4 : (x : Int) / 2 ^ n = ((x / 2 ^ n : Nat) : Int) := by simp
 have e2' : (x : Int) * 2 ^ (32 - n) = ((x * 2 ^ (32 - n) : Nat) : Int) := by simp
 obtain ⟨y, hy⟩ : ∃ y, y = x * 2 ^ (32 - n) := ⟨_, rfl⟩
 obtain ⟨z, hz⟩ : ∃ z, z = x / 2 ^ n := ⟨_, rfl⟩
 rw [← hz] at e4 hd hr
 rw [← hy] at e2' hp hr
 have e1 : IntKind.i64.wrap (32 - (n : Int)) = ((32 - n : Nat) : Int) := by rw [IntKind.wrap_i64]; omega
 have e2 : IntKind.i64.wrap ((x : Int) * 2 ^ (32 - n)) = (y : Int) := by
  rw [e2', IntKind.wrap_i64]
  omega
 obtain ⟨u, hu⟩ : ∃ u, u = y % 4294967296 := ⟨_, rfl⟩
 have e3 : bits .and .i64 (y : Int) 4294967295 = (u : Int) := by rw [i64_mask32 _ hp, hu]
 have e5 : bits .or .i64 (z : Int) (u : Int) = ((rot x n : Nat) : Int) := by rw [i64_or_nat z u (by omega) (by omega), hr, hu]
 clear e2' hy hz hu hr hp hd
 obtain ⟨k, hk⟩ : ∃ k, k = 32 - n := ⟨_, rfl⟩
 rw [← hk] at e1 e2
 have k1 : k ≤ 30 := by omega
 clear hk
 go_enter Tryz.func94, Tryz.ntmps94
 go_wp2_with fail
 go_quiet (fail)
 go_wp2_with fail
 go_ret
 refine ⟨?_, _, rfl⟩
 rfl
theorem turn_at (n : Nat) {x : Nat} {m : Int} (hx : x < 4294967296) (hm : m = (n : Int)) (hn : 2 ≤ n ∧ n ≤ 31) (w : World) :
  Calls Tryz.prog 94 #[.int .i64 x, .int .i64 m] w (fun e w' => e = .returned (.int .i64 (rot x n)) ∧ ∃ m, w' = w.drewN m) := by
 subst hm
 exact turn_any x n hx hn w
end Go.Proofs.YtbpabjhcjffkmaaGreatDoor

/- The reference's digests: rows of ints, numbers of bytes and bytes of numbers: the walk. Conditions: named in each theorem. -/
namespace Go.Proofs.YtbpabjhcjffkmaaGreatDoor
open Go.RowKit Go.ChangeShapes Go.WideShapes Go.ChangeAt

/-- A word in an int. -/
def IV (x : Nat) : Value := .int .i64 (x : Int)
def rowI (l : List Nat) : Array Value := (l.map IV).toArray
/-- A block of ints begins with the words. -/
def RowI (w : World) (b : Nat) (T : TypeId) (l : List Nat) : Prop := ∃ cur : Array Value, w.heap[b]? = some (.cells cur T (0, 0)) ∧ cur.toList.take l.length = l.map IV
theorem RowI.at_ {w : World} {b : Nat} {T : TypeId} {l : List Nat} (h : RowI w b T l) {j : Nat} (hj : j < l.length) : w.cell? ⟨b, j, none⟩ = some (.int .i64 (l.getD j 0 : Nat)) := by
 obtain ⟨cur, h1, h2⟩ := h
 rw [cell_of_row w b j _ T (0, 0) h1]
 have h3 : (cur.toList.take l.length)[j]? = (l.map IV)[j]? := by rw [h2]
 rw [List.getElem?_take_of_lt hj] at h3
 rw [← Array.getElem?_toList, h3]
 simp [IV, hj, List.getD_eq_getElem?_getD]
theorem RowI.fr {w : World} {b : Nat} {T : TypeId} {l : List Nat} (h : RowI w b T l) (j : Nat) : w.frozen? ⟨b, j, none⟩ = false := by
 obtain ⟨cur, h1, -⟩ := h
 exact frozen_of_row w b j _ T h1
theorem RowI.set {w : World} {b : Nat} {T : TypeId} {l : List Nat} (h : RowI w b T l) (j x : Nat) : RowI (w.setCell ⟨b, j, none⟩ (.int .i64 (x : Int))) b T (l.set j x) := by
 obtain ⟨cur, h1, h2⟩ := h
 refine ⟨_, heap_setCell_same w b j cur T _ h1, ?_⟩
 rw [List.length_set, Array.toList_setIfInBounds, List.take_set, h2, List.map_set]
 rfl
theorem RowI.other {w : World} {b : Nat} {T : TypeId} {l : List Nat} (h : RowI w b T l) (c j : Nat) (v : Value) (hc : b ≠ c) : RowI (w.setCell ⟨c, j, none⟩ v) b T l := by
 obtain ⟨cur, h1, h2⟩ := h
 exact ⟨cur, (heap_setCell_other w ⟨c, j, none⟩ b v hc).trans h1, h2⟩
theorem RowI.below {w w' : World} {b B : Nat} {T : TypeId} {l : List Nat} (h : RowI w b T l) (hb : Below B w w') (hB : b < B) : RowI w' b T l := by
 obtain ⟨cur, h1, h2⟩ := h
 exact ⟨cur, (hb.block b hB).trans h1, h2⟩
theorem RowI.lt {w : World} {b : Nat} {T : TypeId} {l : List Nat} (h : RowI w b T l) : b < w.heap.size := by
 obtain ⟨cur, h1, -⟩ := h
 exact (Array.getElem?_eq_some_iff.1 h1).1
theorem RowI.new (w : World) (T : TypeId) (l : List Nat) : RowI (w.alloc (.cells (rowI l) T)) w.heap.size T l := ⟨rowI l, heap_alloc_new _ _, by rw [rowI, List.take_of_length_le (by simp)]⟩
theorem RowI.drewN {w : World} {b : Nat} {T : TypeId} {l : List Nat} (h : RowI w b T l) (q : Nat) : RowI (w.drewN q) b T l := h
/-- A slice of words in ints. -/
abbrev VSl (w : World) (B : Nat) (A : Option Addr) (n : Nat) (l : List Nat) : Prop := Sl w B 1 A n (l.map IV)
theorem RowI.sl {w : World} {b : Nat} {T : TypeId} {l : List Nat} (h : RowI w b T l) : VSl w w.heap.size (some ⟨b, 0, none⟩) l.length l :=
 ⟨by simp, fun _ => ⟨b, 0, rfl, h.lt, fun j u hu => by
  have hj : j < l.length := by
   have := (List.getElem?_eq_some_iff.1 hu).1
   simpa using this
  rw [Nat.zero_add, h.at_ hj]
  simpa [IV, hj, List.getD_eq_getElem?_getD] using hu⟩⟩
theorem VSl.at1 {w : World} {B n b : Nat} {l : List Nat} (h : VSl w B (some ⟨b, 0, none⟩) n l) {j : Nat} (hj : j < n) : w.cell? ⟨b, j, none⟩ = some (.int .i64 (l.getD j 0 : Nat)) ∧ b < B := by
 have hl : l.length = n := by have := h.len; simpa using this
 obtain ⟨b', off, e, hb, hc⟩ := h.cells (by omega)
 injection e with e
 injection e with e1 e2
 subst e1 e2
 have := hc j (.int .i64 (l.getD j 0 : Nat)) (by
  have hj' : j < l.length := by omega
  simp [IV, hj', List.getD_eq_getElem?_getD])
 rw [Nat.zero_add] at this
 exact ⟨this, hb⟩
theorem RowI.own {w : World} {base : Nat} {T : TypeId} {A : Option Addr} {n c : Nat} {l : List Nat} (h : w.ownsRow base T 1 (.slice A n c) n (l.map IV)) (hn : 0 < n) : ∃ b, A = some ⟨b, 0, none⟩ ∧ base ≤ b ∧ RowI w b T l := by
 obtain ⟨h0, h⟩ := h
 have hl : l.length = n := by simpa using h0
 rcases h with ⟨e, -⟩ | ⟨g, cap, cur, e, hg, h1, -, -, -, h2⟩
 ·injection e
  omega
 ·injection e with e1
  exact ⟨g, e1, hg, cur, h1, by rw [hl]; simpa using h2⟩
/-- What so many first bytes are. -/
def numN (bs : List Nat) : Nat → Nat
 | 0 => 0
 | k + 1 => numN bs k * 256 + bs.getD k 0
theorem numN_lt {bs : List Nat} (h : ∀ x ∈ bs, x < 256) : ∀ k, numN bs k < 256 ^ k
 | 0 => by simp [numN]
 | k + 1 => by
  have h1 := numN_lt h k
  have h2 := getD_lt h (by decide) k
  rw [numN, Nat.pow_succ]
  omega
set_option maxHeartbeats 1000000 in
theorem num_any (bs : List Nat) (A : Option Addr) (n c : Nat) (w : World) (h : YSl w w.heap.size A n bs) (h1 : 1 ≤ n) (h7 : n ≤ 7) (hby : ∀ x ∈ bs, x < 256) :
  Calls Tryz.prog 93 #[.slice A n c] w (fun e w' => e = .returned (.tuple #[.int .i64 (numN bs n : Nat), .bool true]) ∧ w' = w) := by
 have hlen := YSl.len1 h
 obtain ⟨mb, mo, rfl, hmb, hmc⟩ := YSl.at1 h (by omega)
 have HMc := aside hmc
 have HBy := aside hby
 clear h hmc hby
 have z1 : ((n : Int) = 0) = False := by simp only [eq_iff_iff, iff_false]; omega
 have z2 : ((n : Int) > 8) = False := by simp only [eq_iff_iff, iff_false]; omega
 have z3 : ((n : Int) = 8) = False := by simp only [eq_iff_iff, iff_false]; omega
 go_enter Tryz.func93, Tryz.ntmps93
 go_wp2_with fail
 go_loop [4, 5] (fun v4 v5 => ∃ (k : Nat), k ≤ n ∧ v4 = .int .i64 (numN bs k : Nat) ∧ v5 = .int .i64 k) (fun _ v5 => n - (Go.RowKit.intOf v5).toNat)
 case atStart => exact ⟨0, by omega, rfl, rfl⟩
 case round =>
  obtain ⟨k, hk, rfl, rfl⟩ := hrel
  by_cases k1 : k < n
  ·have k1' : (k : Int) < (n : Int) := by omega
   have m0 := HMc.out k k1
   have b0 := HBy.out _ (getD_mem (ls := bs) (k := k) 0 (by omega))
   have hN := numN_lt HBy.out k
   have hNb : numN bs k < 281474976710656 := Nat.lt_of_lt_of_le hN (Nat.le_trans (Nat.pow_le_pow_right (by decide) (show k ≤ 6 by omega)) (by decide))
   have HF : Hid (numN bs (k + 1) = numN bs k * 256 + bs.getD k 0) := aside rfl
   clear hN
   generalize bs.getD k 0 = x0 at m0 b0 HF
   generalize numN bs k = N at hNb HF ⊢
   go_wp2_with fail
   exact ⟨⟨k + 1, by omega, by rw [HF.out]; go_num, by go_num⟩, by simp [Go.RowKit.intOf]; omega⟩
  ·obtain rfl : k = n := by omega
   go_wp2_with fail
   go_ret2
   exact ⟨rfl, rfl⟩
/-- A number's last bytes: so many of them stand there. -/
def putK (x size k : Nat) : List Nat := (List.range size).map fun i => if size ≤ i + k then x / 256 ^ (size - 1 - i) % 256 else 0
def putL (x size : Nat) : List Nat := putK x size size
theorem putK_len (x size k : Nat) : (putK x size k).length = size := by simp [putK]
theorem putK_next (x : Nat) {size k j : Nat} (hj : j + k + 1 = size) : putK x size (k + 1) = (putK x size k).set j (x / 256 ^ k % 256) := by
 apply List.ext_getElem?
 intro i
 rw [List.getElem?_set, putK_len]
 unfold putK
 rw [List.getElem?_map, List.getElem?_map]
 by_cases hi : i < size
 ·rw [List.getElem?_range hi]
  by_cases e : j = i
  ·subst e
   rw [if_pos rfl, if_pos hi, Option.map_some, if_pos (by omega), show size - 1 - j = k by omega]
  ·rw [if_neg e, Option.map_some, Option.map_some]
   by_cases h : size ≤ i + k
   ·rw [if_pos h, if_pos (by omega)]
   ·rw [if_neg h, if_neg (by omega)]
 ·have : (List.range size)[i]? = none := List.getElem?_eq_none (by simp; omega)
  rw [this]
  by_cases e : j = i
  ·omega
  ·rw [if_neg e]
   rfl
/-- A block of bytes. -/
def RowY (w : World) (b : Nat) (l : List Nat) : Prop := w.heap[b]? = some (.cells (rowY l) 5 (0, 0))
theorem RowY.at_ {w : World} {b : Nat} {l : List Nat} (h : RowY w b l) {j : Nat} (hj : j < l.length) : w.cell? ⟨b, j, none⟩ = some (.int .u8 (l.getD j 0 : Nat)) := by
 rw [cell_of_row w b j _ _ _ h]
 simp [rowY, hj, List.getD_eq_getElem?_getD]
theorem RowY.fr {w : World} {b : Nat} {l : List Nat} (h : RowY w b l) (j : Nat) : w.frozen? ⟨b, j, none⟩ = false := frozen_of_row w b j _ _ h
theorem RowY.set {w : World} {b : Nat} {l : List Nat} (h : RowY w b l) (j x : Nat) {X : Int} (hX : X = (x : Int)) : RowY (w.setCell ⟨b, j, none⟩ (.int .u8 X)) b (l.set j x) := by
 subst hX
 have := heap_setCell_same w b j (rowY l) _ (.int .u8 (x : Int)) h
 rw [rowY_set] at this
 exact this
theorem RowY.ysl {w : World} {b : Nat} {l : List Nat} (h : RowY w b l) : YSl w w.heap.size (some ⟨b, 0, none⟩) l.length l := by
 have e : ∀ l : List Nat, l.flatMap byV = l.map fun (x : Nat) => Value.int .u8 (x : Int) := by
  intro l
  induction l with
  | nil => rfl
  | cons a r ih => rw [List.flatMap_cons, ih]; rfl
 refine ⟨by rw [e]; simp, fun _ => ⟨b, 0, rfl, (Array.getElem?_eq_some_iff.1 h).1, fun j u hu => ?_⟩⟩
 rw [e] at hu
 have hj : j < l.length := by
  have := (List.getElem?_eq_some_iff.1 hu).1
  simpa using this
 rw [Nat.zero_add, h.at_ hj]
 simpa [hj, List.getD_eq_getElem?_getD] using hu
theorem madeY (n : Nat) : madeCells #[Value.int .u8 0] n = rowY (List.replicate n 0) := by
 apply Array.ext'
 apply List.ext_getElem?
 intro i
 simp [madeCells, rowY, List.getElem?_replicate]
 by_cases h : i < n
 ·simp [h, Nat.mod_one]
 ·simp [h]
theorem putK_zero (x size : Nat) : putK x size 0 = List.replicate size 0 := by
 apply List.ext_getElem?
 intro i
 unfold putK
 rw [List.getElem?_map, List.getElem?_replicate]
 by_cases h : i < size
 ·rw [List.getElem?_range h, if_pos h, Option.map_some, if_neg (by omega)]
 ·rw [if_neg h, List.getElem?_eq_none (by simp; omega)]
  rfl
set_option maxHeartbeats 1000000 in
theorem put_any (x size : Nat) (hx : x < 9223372036854775808) (hs : 1 ≤ size ∧ size ≤ 8) (w : World) :
  Calls Tryz.prog 46 #[.int .i64 x, .int .i64 size] w (fun e w' => e = .returned (.tuple #[.slice (some ⟨w.heap.size, 0, none⟩) size size, .bool (decide (x / 256 ^ size = 0))]) ∧ RowY w' w.heap.size (putL x size) ∧ Below w.heap.size w w' ∧ w'.heap.size = w.heap.size + 1) := by
 have hmk := run_make_row' (P := Tryz.prog) 67 5 (.int .u8 0) 1 Tryz.underlying67 byteInfo rfl .i64 .i64 size (by omega) (by omega)
 simp only [madeY] at hmk
 have z1 : ((size : Int) < 1) = False := by simp only [eq_iff_iff, iff_false]; omega
 have z2 : ((size : Int) > 8) = False := by simp only [eq_iff_iff, iff_false]; omega
 have z3 : ((x : Int) < 0) = False := by simp only [eq_iff_iff, iff_false]; omega
 obtain ⟨B, hB⟩ : ∃ B, B = w.heap.size := ⟨_, rfl⟩
 have EB := aside hB
 go_enter Tryz.func46, Tryz.ntmps46
 go_wp2_with fail
 have R0 : Hid (RowY (w.alloc (.cells (rowY (List.replicate size 0)) 5)) B (putK x size 0)) := aside (by
  rw [hB, putK_zero]
  exact heap_alloc_new _ _)
 have B0 : Hid (Below B w (w.alloc (.cells (rowY (List.replicate size 0)) 5))) := aside (by
  rw [hB]
  exact (Below.refl _ _).alloc (Nat.le_refl _) _)
 have Z0 : Hid ((w.alloc (.cells (rowY (List.replicate size 0)) 5)).heap.size = B + 1) := aside (by simp [hB])
 change Code.wp _ _ _ _ (w.alloc (.cells (rowY (List.replicate size 0)) 5))
 simp only [← hB] at ⊢
 clear hB
 generalize w.alloc (.cells (rowY (List.replicate size 0)) 5) = w1 at R0 B0 Z0 ⊢
 clear hmk
 go_loopw [0, 7] (fun v0 v7 wr => ∃ (k : Nat), k ≤ size ∧ v0 = .int .i64 (x / 256 ^ k : Nat) ∧ v7 = .int .i64 ((size : Int) - 1 - k) ∧ Hid (RowY wr B (putK x size k)) ∧ Hid (Below B w wr) ∧ Hid (wr.heap.size = B + 1)) (fun _ v7 _ => (Go.RowKit.intOf v7 + 1).toNat)
 case atStart => exact ⟨0, by omega, by simp, by simp, R0, B0, Z0⟩
 case round =>
  clear R0 B0 Z0
  obtain ⟨k, hk, rfl, rfl, R0, B0, Z0⟩ := hrel
  by_cases k1 : k < size
  ·obtain ⟨j, hj⟩ : ∃ j, j + k + 1 = size := ⟨size - 1 - k, by omega⟩
   have ej : (size : Int) - 1 - k = (j : Int) := by omega
   have HF := aside (putK_next x hj)
   have c0 := R0.out.at_ (j := j) (by rw [putK_len]; omega)
   have f0 := R0.out.fr j
   have HN : Hid (x / 256 ^ (k + 1) = x / 256 ^ k / 256) := aside (by rw [Nat.pow_succ, Nat.div_div_eq_div_mul])
   have hxk := Nat.div_le_self x (256 ^ k)
   rw [ej]
   generalize x / 256 ^ k = y at hxk HN HF ⊢
   have hy : y < 9223372036854775808 := by omega
   have HJ := aside hj
   have HE := aside ej
   have j8 : j < size := by omega
   clear hj ej hxk hk k1
   go_wp2_with fail
   refine ⟨⟨k + 1, by have := HJ.out; omega, by rw [HN.out]; go_num, by have := HJ.out; go_num, aside (by rw [HF.out]; exact R0.out.set _ _ (by go_num)), aside (B0.out.setCell (Nat.le_refl _) _), aside (by have := Z0.out; simpa using this)⟩, by simp [Go.RowKit.intOf]⟩
  ·obtain rfl : k = size := by omega
   have e1 : (k : Int) - 1 - k = -1 := by omega
   rw [e1]
   have HD : Hid ((((x / 256 ^ k : Nat) : Int) == 0) = decide (x / 256 ^ k = 0)) := aside (by
    apply Bool.eq_iff_iff.2
    simp only [decide_eq_true_eq, beq_iff_eq]
    omega)
   go_wp2_with fail
   go_ret2
   rw [← EB.out, ← HD.out]
   exact ⟨rfl, R0.out, B0.out, Z0.out⟩
theorem rounds_any (w : World) :
  Calls Tryz.prog 47 #[] w (fun e w' => e = .returned (.slice (some ⟨w.heap.size, 0, none⟩) 64 64) ∧ RowI w' w.heap.size 3 roundK ∧ Below w.heap.size w w') := by
 go_enter Tryz.func47, Tryz.ntmps47
 go_wp2_with fail
 go_ret
 exact ⟨rfl, RowI.new w _ roundK, (Below.refl _ _).alloc (Nat.le_refl _) _⟩
end Go.Proofs.YtbpabjhcjffkmaaGreatDoor
