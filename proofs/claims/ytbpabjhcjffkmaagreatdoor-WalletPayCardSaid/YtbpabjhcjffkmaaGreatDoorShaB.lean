/- Digests: a block of 64 bytes: the walk. Conditions: named in each theorem. -/
import Derived.Test.YtbpabjhcjffkmaaGreatDoorShaA
import Derived.Test.YtbpabjhcjffkmaaGreatDoorRec
import Derived.StillTailTactics
import Derived.BigQuiet
import Derived.Deep.RegionWith
namespace Go.Proofs.YtbpabjhcjffkmaaGreatDoor
open Go.RowKit Go.ChangeShapes Go.WideShapes Go.ChangeAt

/-- Words, one behind the other. -/
def rowW (l : List Nat) : Array Value := (l.map W).toArray
theorem rowW_size (l : List Nat) : (rowW l).size = l.length := by simp [rowW]
theorem rowW_get {l : List Nat} {j : Nat} (h : j < l.length) : (rowW l)[j]? = some (.int .u32 (l.getD j 0 : Nat)) := by
 simp [rowW, W, h, List.getD_eq_getElem?_getD]
theorem rowW_set (l : List Nat) (j x : Nat) : (rowW l).setIfInBounds j (.int .u32 (x : Int)) = rowW (l.set j x) := by
 apply Array.ext'
 simp [rowW, W, List.map_set]
theorem rowW_one (l : List Nat) : (rowW l).all (·.oneCell') = true := by simp [rowW, W, Value.oneCell']
/-- A block in memory that is words. -/
def RowAt (w : World) (b : Nat) (T : TypeId) (l : List Nat) : Prop := w.heap[b]? = some (.cells (rowW l) T (0, 0))
theorem RowAt.at_ {w : World} {b : Nat} {T : TypeId} {l : List Nat} (h : RowAt w b T l) {j : Nat} (hj : j < l.length) : w.cell? ⟨b, j, none⟩ = some (.int .u32 (l.getD j 0 : Nat)) := by
 rw [cell_of_row w b j _ T (0, 0) h, rowW_get hj]
theorem RowAt.fr {w : World} {b : Nat} {T : TypeId} {l : List Nat} (h : RowAt w b T l) (j : Nat) : w.frozen? ⟨b, j, none⟩ = false := frozen_of_row w b j _ T h
theorem RowAt.set {w : World} {b : Nat} {T : TypeId} {l : List Nat} (h : RowAt w b T l) (j x : Nat) : RowAt (w.setCell ⟨b, j, none⟩ (.int .u32 (x : Int))) b T (l.set j x) := by
 have := heap_setCell_same w b j (rowW l) T (.int .u32 (x : Int)) h
 rw [rowW_set] at this
 exact this
theorem RowAt.other {w : World} {b : Nat} {T : TypeId} {l : List Nat} (h : RowAt w b T l) (c j : Nat) (v : Value) (hc : b ≠ c) : RowAt (w.setCell ⟨c, j, none⟩ v) b T l :=
 (heap_setCell_other w ⟨c, j, none⟩ b v hc).trans h
theorem RowAt.alloc {w : World} {b : Nat} {T : TypeId} {l : List Nat} (h : RowAt w b T l) (o : Obj) : RowAt (w.alloc o) b T l :=
 (heap_alloc_old w o (Array.getElem?_eq_some_iff.1 h).1).trans h
theorem RowAt.new (w : World) (T : TypeId) (l : List Nat) : RowAt (w.alloc (.cells (rowW l) T)) w.heap.size T l := heap_alloc_new _ _
/-- Bytes. -/
def byV (x : Nat) : List Value := [.int .u8 (x : Int)]
theorem byV_len (x : Nat) : (byV x).length = 1 := rfl
/-- A slice of bytes. -/
abbrev YSl (w : World) (B : Nat) (A : Option Addr) (n : Nat) (bs : List Nat) : Prop := FSl byV 1 w B A n bs
theorem YSl.len1 {w : World} {B n : Nat} {A : Option Addr} {bs : List Nat} (h : YSl w B A n bs) : bs.length = n := FSl.len byV_len (by decide) h
theorem YSl.at1 {w : World} {B n : Nat} {A : Option Addr} {bs : List Nat} (h : YSl w B A n bs) (hn : 0 < n) : ∃ b off, A = some ⟨b, off, none⟩ ∧ b < B ∧ ∀ k, k < n → w.cell? ⟨b, off + k, none⟩ = some (.int .u8 (bs.getD k 0 : Nat)) := by
 obtain ⟨b, off, rfl, hb, -⟩ := FSl.at_ byV_len (by decide) 0 h hn
 refine ⟨b, off, rfl, hb, fun k hk => ?_⟩
 obtain ⟨b', off', e, -, hc⟩ := FSl.at_ byV_len (by decide) 0 h hk
 injection e with e
 injection e with e1 e2
 subst e1 e2
 have := hc 0 _ rfl
 simpa using this
/-- Four bytes, the greatest first. -/
def be4 (a b c d : Nat) : Nat := a * 16777216 + b * 65536 + c * 256 + d
theorem be4_lt {a b c d : Nat} (ha : a < 256) (hb : b < 256) (hc : c < 256) (hd : d < 256) : be4 a b c d < 4294967296 := by unfold be4; omega
theorem be4_or {a b c d : Nat} (ha : a < 256) (hb : b < 256) (hc : c < 256) (hd : d < 256) : bits .or .u32 (bits .or .u32 (bits .or .u32 ((a : Int) * 16777216) ((b : Int) * 65536)) ((c : Int) * 256)) (d : Int) = ((be4 a b c d : Nat) : Int) := by
 have h1 : (a : Int) * 16777216 = ((a * 16777216 : Nat) : Int) := by simp
 have h2 : (b : Int) * 65536 = ((b * 65536 : Nat) : Int) := by simp
 have h3 : (c : Int) * 256 = ((c * 256 : Nat) : Int) := by simp
 rw [h1, h2, h3, u32_or_nat _ _ (by omega) (by omega), nat_join 24 _ _ (by omega) (by omega), u32_or_nat _ _ (by omega) (by omega), nat_join 16 _ _ (by omega) (by omega), u32_or_nat _ _ (by omega) (by omega), nat_join 8 _ _ (by omega) (by omega)]
 rfl
/-- The first words. -/
def firstW (bs : List Nat) : Nat → List Nat
 | 0 => List.replicate 64 0
 | k + 1 => (firstW bs k).set k (be4 (bs.getD (4 * k) 0) (bs.getD (4 * k + 1) 0) (bs.getD (4 * k + 2) 0) (bs.getD (4 * k + 3) 0))
theorem firstW_len (bs : List Nat) : ∀ k, (firstW bs k).length = 64
 | 0 => by simp [firstW]
 | k + 1 => by simp [firstW, firstW_len bs k]
/-- All are words. -/
def Small (l : List Nat) : Prop := ∀ i, l.getD i 0 < 4294967296
theorem Small.set {l : List Nat} (h : Small l) (k : Nat) {x : Nat} (hx : x < 4294967296) : Small (l.set k x) := by
 intro i
 have := h i
 rw [List.getD_eq_getElem?_getD] at this ⊢
 rw [List.getElem?_set]
 split
 ·split <;> simp_all
 ·exact this
theorem getD_lt {l : List Nat} {M : Nat} (h : ∀ x ∈ l, x < M) (hM : 0 < M) (i : Nat) : l.getD i 0 < M := by
 rcases Nat.lt_or_ge i l.length with h1 | h1
 ·exact h _ (getD_mem 0 h1)
 ·rw [List.getD_eq_getElem?_getD, List.getElem?_eq_none h1]; exact hM
theorem firstW_small {bs : List Nat} (h : ∀ x ∈ bs, x < 256) : ∀ k, Small (firstW bs k)
 | 0 => fun i => getD_lt (l := List.replicate 64 0) (fun x hx => by rw [(List.mem_replicate.1 hx).2]; decide) (by decide) i
 | k + 1 => (firstW_small h k).set k (be4_lt (getD_lt h (by decide) _) (getD_lt h (by decide) _) (getD_lt h (by decide) _) (getD_lt h (by decide) _))
def sig0 (x : Nat) : Nat := rot x 7 ^^^ rot x 18 ^^^ x / 8
def sig1 (x : Nat) : Nat := rot x 17 ^^^ rot x 19 ^^^ x / 1024
theorem sig0_lt {x : Nat} (h : x < 4294967296) : sig0 x < 4294967296 := xor_lt (xor_lt (rot_lt h) (rot_lt h)) (by omega)
theorem sig1_lt {x : Nat} (h : x < 4294967296) : sig1 x < 4294967296 := xor_lt (xor_lt (rot_lt h) (rot_lt h)) (by omega)
theorem sig0_is {x : Nat} (h : x < 4294967296) : bits .xor .u32 (bits .xor .u32 (rot x 7 : Int) (rot x 18 : Int)) ((x : Int) / 8) = ((sig0 x : Nat) : Int) := by
 rw [show (x : Int) / 8 = ((x / 8 : Nat) : Int) by simp, u32_xor_nat _ _ (rot_lt h) (rot_lt h), u32_xor_nat _ _ (xor_lt (rot_lt h) (rot_lt h)) (by omega)]
 rfl
theorem sig1_is {x : Nat} (h : x < 4294967296) : bits .xor .u32 (bits .xor .u32 (rot x 17 : Int) (rot x 19 : Int)) ((x : Int) / 1024) = ((sig1 x : Nat) : Int) := by
 rw [show (x : Int) / 1024 = ((x / 1024 : Nat) : Int) by simp, u32_xor_nat _ _ (rot_lt h) (rot_lt h), u32_xor_nat _ _ (xor_lt (rot_lt h) (rot_lt h)) (by omega)]
 rfl
/-- So many more words. -/
def moreW (bs : List Nat) : Nat → List Nat
 | 0 => firstW bs 16
 | k + 1 => (moreW bs k).set (k + 16) ((sig1 ((moreW bs k).getD (k + 14) 0) + (moreW bs k).getD (k + 9) 0 + sig0 ((moreW bs k).getD (k + 1) 0) + (moreW bs k).getD k 0) % 4294967296)
theorem moreW_len (bs : List Nat) : ∀ k, (moreW bs k).length = 64
 | 0 => firstW_len bs 16
 | k + 1 => by simp [moreW, moreW_len bs k]
theorem moreW_small {bs : List Nat} (h : ∀ x ∈ bs, x < 256) : ∀ k, Small (moreW bs k)
 | 0 => firstW_small h 16
 | k + 1 => (moreW_small h k).set _ (Nat.mod_lt _ (by decide))
theorem sum4_is (a b c d : Nat) : IntKind.u32.wrap (IntKind.u32.wrap (IntKind.u32.wrap ((a : Int) + b) + c) + d) = (((a + b + c + d) % 4294967296 : Nat) : Int) := by
 simp only [IntKind.wrap_u32']
 omega
theorem xor_all {e : Nat} (he : e < 4294967296) : 4294967295 ^^^ e = 4294967295 - e := by
 apply Nat.eq_of_testBit_eq
 intro i
 rw [Nat.testBit_xor, show 4294967295 - e = 2 ^ 32 - (e + 1) by omega, show (4294967295 : Nat) = 2 ^ 32 - 1 by decide, Nat.testBit_two_pow_sub_one, Nat.testBit_two_pow_sub_succ (by simpa using he)]
 by_cases hi : i < 32
 ·simp [hi]
 ·have hb : e.testBit i = false := Nat.testBit_lt_two_pow (Nat.lt_of_lt_of_le he (show 2 ^ 32 ≤ 2 ^ i from Nat.pow_le_pow_right (by decide) (by omega)))
  simp [hi, hb]
def chW (e f g : Nat) : Nat := (e &&& f) ^^^ ((4294967295 - e) &&& g)
def majW (a b c : Nat) : Nat := (a &&& b) ^^^ (a &&& c) ^^^ (b &&& c)
theorem neg_is {e : Nat} (he : e < 4294967296) : bits .xor .u32 (if IntKind.u32.signed = true then -1 else IntKind.u32.max) (e : Int) = ((4294967295 - e : Nat) : Int) := by
 have h : (if IntKind.u32.signed = true then -1 else IntKind.u32.max : Int) = ((4294967295 : Nat) : Int) := by decide
 rw [h, u32_xor_nat _ _ (by decide) he]
 congr 1
 exact xor_all he
theorem ch_is {e f g : Nat} (he : e < 4294967296) (hf : f < 4294967296) (hg : g < 4294967296) : bits .xor .u32 (bits .and .u32 (e : Int) (f : Int)) (bits .and .u32 ((4294967295 - e : Nat) : Int) (g : Int)) = ((chW e f g : Nat) : Int) := by
 rw [u32_and_nat _ _ he hf, u32_and_nat _ _ (by omega) hg, u32_xor_nat _ _ (and_lt he) (and_lt (by omega))]
 rfl
theorem maj_is {a b c : Nat} (ha : a < 4294967296) (hb : b < 4294967296) (hc : c < 4294967296) : bits .xor .u32 (bits .xor .u32 (bits .and .u32 (a : Int) (b : Int)) (bits .and .u32 (a : Int) (c : Int))) (bits .and .u32 (b : Int) (c : Int)) = ((majW a b c : Nat) : Int) := by
 rw [u32_and_nat _ _ ha hb, u32_and_nat _ _ ha hc, u32_and_nat _ _ hb hc, u32_xor_nat _ _ (and_lt ha) (and_lt ha), u32_xor_nat _ _ (xor_lt (and_lt ha) (and_lt ha)) (and_lt hb)]
 rfl
theorem add_is (a b : Nat) : IntKind.u32.wrap ((a : Int) + (b : Int)) = (((a + b) % 4294967296 : Nat) : Int) := by
 rw [IntKind.wrap_u32']
 omega
/-- One round. -/
def roundStep (k w : Nat) (v : List Nat) : List Nat :=
 [((v.getD 7 0 + rot3 (v.getD 4 0) 6 11 25 + ((v.getD 4 0 &&& v.getD 5 0) ^^^ ((4294967295 - v.getD 4 0) &&& v.getD 6 0)) + k + w) % 4294967296 + (rot3 (v.getD 0 0) 2 13 22 + ((v.getD 0 0 &&& v.getD 1 0) ^^^ (v.getD 0 0 &&& v.getD 2 0) ^^^ (v.getD 1 0 &&& v.getD 2 0))) % 4294967296) % 4294967296,
  v.getD 0 0, v.getD 1 0, v.getD 2 0, (v.getD 3 0 + (v.getD 7 0 + rot3 (v.getD 4 0) 6 11 25 + ((v.getD 4 0 &&& v.getD 5 0) ^^^ ((4294967295 - v.getD 4 0) &&& v.getD 6 0)) + k + w) % 4294967296) % 4294967296, v.getD 4 0, v.getD 5 0, v.getD 6 0]
/-- The words of the rounds. -/
def roundK : List Nat := [1116352408, 1899447441, 3049323471, 3921009573, 961987163, 1508970993, 2453635748, 2870763221, 3624381080, 310598401, 607225278, 1426881987, 1925078388, 2162078206, 2614888103, 3248222580, 3835390401, 4022224774, 264347078, 604807628, 770255983, 1249150122, 1555081692, 1996064986, 2554220882, 2821834349, 2952996808, 3210313671, 3336571891, 3584528711, 113926993, 338241895, 666307205, 773529912, 1294757372, 1396182291, 1695183700, 1986661051, 2177026350, 2456956037, 2730485921, 2820302411, 3259730800, 3345764771, 3516065817, 3600352804, 4094571909, 275423344, 430227734, 506948616, 659060556, 883997877, 958139571, 1322822218, 1537002063, 1747873779, 1955562222, 2024104815, 2227730452, 2361852424, 2428436474, 2756734187, 3204031479, 3329325298]
theorem roundK_len : roundK.length = 64 := by decide
theorem roundK_small : ∀ x ∈ roundK, x < 4294967296 := by decide
/-- So many rounds. -/
def roundsN (s bs : List Nat) : Nat → List Nat
 | 0 => s
 | k + 1 => roundStep (roundK.getD k 0) ((moreW bs 48).getD k 0) (roundsN s bs k)
theorem roundsN_len {s : List Nat} (bs : List Nat) (h : s.length = 8) : ∀ k, (roundsN s bs k).length = 8
 | 0 => h
 | _ + 1 => rfl
theorem eight {v : List Nat} (h : v.length = 8) : ∃ a b c d e f g x, v = [a, b, c, d, e, f, g, x] := by
 match v, h with
 | [a, b, c, d, e, f, g, x], _ => exact ⟨a, b, c, d, e, f, g, x, rfl⟩
theorem small8 {a b c d e f g x : Nat} (ha : a < 4294967296) (hb : b < 4294967296) (hc : c < 4294967296) (hd : d < 4294967296) (he : e < 4294967296) (hf : f < 4294967296) (hg : g < 4294967296) (hx : x < 4294967296) : Small [a, b, c, d, e, f, g, x] := by
 intro i
 match i with
 | 0 => exact ha
 | 1 => exact hb
 | 2 => exact hc
 | 3 => exact hd
 | 4 => exact he
 | 5 => exact hf
 | 6 => exact hg
 | 7 => exact hx
 | i + 8 => simp
theorem roundStep_small {v : List Nat} (k w : Nat) (h : Small v) : Small (roundStep k w v) := by
 unfold roundStep
 exact small8 (Nat.mod_lt _ (by decide)) (h 0) (h 1) (h 2) (Nat.mod_lt _ (by decide)) (h 4) (h 5) (h 6)
theorem roundsN_small {s : List Nat} (bs : List Nat) (h : Small s) : ∀ k, Small (roundsN s bs k)
 | 0 => h
 | k + 1 => roundStep_small _ _ (roundsN_small bs h k)
/-- So many words of both together. -/
def sumN (s v : List Nat) : Nat → List Nat
 | 0 => v
 | k + 1 => (sumN s v k).set k (((sumN s v k).getD k 0 + s.getD k 0) % 4294967296)
theorem sumN_len (s v : List Nat) : ∀ k, (sumN s v k).length = v.length
 | 0 => rfl
 | k + 1 => by simp [sumN, sumN_len s v k]
theorem sumN_small {s v : List Nat} (h : Small v) : ∀ k, Small (sumN s v k)
 | 0 => h
 | k + 1 => (sumN_small h k).set k (Nat.mod_lt _ (by decide))
/-- What a block makes of a state. -/
def blockL (s bs : List Nat) : List Nat := sumN s (roundsN s bs 64) 8
/-- The variable of the rounds. -/
def RoundsAt (w : World) : Prop := ∃ T fr, w.heap[1]? = some (.cells (rowW roundK) T fr) ∧ 1 < w.heap.size
theorem RoundsAt.below {w w' : World} (h : RoundsAt w) (hb : Below w.heap.size w w') : RoundsAt w' := by
 obtain ⟨T, fr, h1, h2⟩ := h
 exact ⟨T, fr, (hb.block _ h2).trans h1, Nat.lt_of_lt_of_le h2 hb.size⟩
theorem below_setRow {B : Nat} {w w' : World} (h : Below B w w') (g : Nat) (hg : B ≤ g) (cs : Array Value) : Below B w (w'.setRow g cs) :=
 ⟨h.os, h.tape, h.output, by simpa using h.size, fun k hk => (setRow_other w' g k cs (by omega)).trans (h.block k hk)⟩
theorem RowAt.setRow {w : World} {b : Nat} {T : TypeId} {l : List Nat} (h : RowAt w b T l) (l' : List Nat) : RowAt (w.setRow b (rowW l')) b T l' := setRow_heap w b _ _ T _ h
theorem RowAt.otherRow {w : World} {b : Nat} {T : TypeId} {l : List Nat} (h : RowAt w b T l) (g : Nat) (cs : Array Value) (hg : b ≠ g) : RowAt (w.setRow g cs) b T l := (setRow_other w g b cs hg).trans h
theorem index_row {cs : Array Value} {k : Nat} {v : Value} {T : TypeId} (hT : T = 203) (hk : k < 64) (h : cs[k]? = some v) (w : World) : (Instr.index T (.agg cs) (.int .i64 (k : Int))).run Tryz.prog w = .ok v w := by
 subst hT
 simp [Instr.index, run_underlying Tryz.underlying203, asIntOf, go_sem, h]
 intro h1
 omega
set_option maxHeartbeats 4000000 in
set_option maxRecDepth 100000 in
theorem block_any (s : List Nat) (hs : s.length = 8) (bs : List Nat) (A : Option Addr) (n c : Nat) (w : World) (h : YSl w w.heap.size A n bs) (hn : 64 ≤ n) (hby : ∀ x ∈ bs, x < 256) (hsm : Small s) (hg : RoundsAt w) :
  Calls Tryz.prog 133 #[.agg (rowW s), .slice A n c] w (fun e w' => e = .returned (.agg (rowW (blockL s bs))) ∧ Below w.heap.size w w') := by
 have hsz := rowW_size s
 have hlen := YSl.len1 h
 obtain ⟨mb, mo, rfl, hmb, hmc⟩ := YSl.at1 h (by omega)
 have HMc := aside hmc
 have HBy := aside hby
 have HS := aside hs
 have HG := aside hg
 have HSm := aside hsm
 clear h hmc hby hs hg hsm
 go_enter Tryz.func133, Tryz.ntmps133
 go_wp2_with fail
 obtain ⟨w1, hw1⟩ : ∃ w1, w1 = (((w.alloc (Obj.cells (rowW s) 172)).alloc (Obj.cells (rowW (List.replicate 8 0)) 172)).alloc (Obj.cells (rowW (List.replicate 64 0)) 203)) := ⟨_, rfl⟩
 have R0 : RowAt w1 w.heap.size 172 s := by
  rw [hw1]
  exact ((RowAt.new _ _ _).alloc _).alloc _
 have R1 : RowAt w1 (w.heap.size + 1) 172 (List.replicate 8 0) := by
  rw [hw1]
  have := RowAt.new (w.alloc (Obj.cells (rowW s) 172)) 172 (List.replicate 8 0)
  rw [show (w.alloc (Obj.cells (rowW s) 172)).heap.size = w.heap.size + 1 by simp] at this
  exact this.alloc _
 have R2 : RowAt w1 (w.heap.size + 1 + 1) 203 (List.replicate 64 0) := by
  rw [hw1]
  have := RowAt.new ((w.alloc (Obj.cells (rowW s) 172)).alloc (Obj.cells (rowW (List.replicate 8 0)) 172)) 203 (List.replicate 64 0)
  rw [show ((w.alloc (Obj.cells (rowW s) 172)).alloc (Obj.cells (rowW (List.replicate 8 0)) 172)).heap.size = w.heap.size + 1 + 1 by simp] at this
  exact this
 have hB1 : Below w.heap.size w w1 := by
  rw [hw1]
  exact (((Below.refl _ _).alloc (Nat.le_refl _) _).alloc (by simp) _).alloc (by simp; omega) _
 have hz1 : w1.heap.size = w.heap.size + 1 + 1 + 1 := by rw [hw1]; simp
 change Code.wp _ _ _ _ (((w.alloc (Obj.cells (rowW s) 172)).alloc (Obj.cells (rowW (List.replicate 8 0)) 172)).alloc (Obj.cells (rowW (List.replicate 64 0)) 203))
 rw [← hw1]
 have H1 := aside hB1
 have HW1 := aside hmb
 have Hz1 := aside hz1
 obtain ⟨B, hB⟩ : ∃ B, B = w.heap.size := ⟨_, rfl⟩
 rw [← hB] at R0 R1 R2 hmb hz1
 have EB := aside hB
 simp only [← hB]
 have HMw : Hid (∀ k, k < n → w1.cell? ⟨mb, mo + k, none⟩ = some (.int .u8 (bs.getD k 0 : Nat))) := aside (fun k hk => (H1.out.cell (p := ⟨mb, mo + k, none⟩) HW1.out).trans (HMc.out k hk))
 clear hw1 hB1 hB
 go_loopw [20] (fun v20 wr => ∃ (k : Nat), k ≤ 16 ∧ v20 = .int .i64 k ∧ RowAt wr B 172 s ∧ RowAt wr (B + 1) 172 (List.replicate 8 0) ∧ RowAt wr (B + 1 + 1) 203 (firstW bs k) ∧ Below B w1 wr ∧ wr.heap.size = B + 1 + 1 + 1) (fun v20 _ => 16 - (Go.RowKit.intOf v20).toNat)
 case atStart => exact ⟨0, by omega, rfl, R0, R1, R2, Below.refl _ _, hz1⟩
 case round =>
  obtain ⟨k, hk, rfl, r0, r1, r2, hb, hz⟩ := hrel
  by_cases k1 : k < 16
  ·have M := fun j (hj : j < n) => (hb.cell (p := ⟨mb, mo + j, none⟩) hmb).trans (HMw.out j hj)
   have HF : Hid (firstW bs (k + 1) = (firstW bs k).set k (be4 (bs.getD (4 * k) 0) (bs.getD (4 * k + 1) 0) (bs.getD (4 * k + 2) 0) (bs.getD (4 * k + 3) 0))) := aside rfl
   obtain ⟨j, hj⟩ : ∃ j, j = 4 * k := ⟨_, rfl⟩
   have m0 := M j (by omega)
   have m1 := M (j + 1) (by omega)
   have m2 := M (j + 2) (by omega)
   have m3 := M (j + 3) (by omega)
   rw [← hj] at HF
   have hlt : mb < wr.heap.size := by omega
   have b0 := HBy.out _ (getD_mem (ls := bs) (k := j) 0 (by omega))
   have b1 := HBy.out _ (getD_mem (ls := bs) (k := j + 1) 0 (by omega))
   have b2 := HBy.out _ (getD_mem (ls := bs) (k := j + 2) 0 (by omega))
   have b3 := HBy.out _ (getD_mem (ls := bs) (k := j + 3) 0 (by omega))
   generalize bs.getD j 0 = x0 at m0 b0 HF
   generalize bs.getD (j + 1) 0 = x1 at m1 b1 HF
   generalize bs.getD (j + 2) 0 = x2 at m2 b2 HF
   generalize bs.getD (j + 3) 0 = x3 at m3 b3 HF
   have q0 := r2.at_ (j := k) (by rw [firstW_len]; omega)
   have q1 := r2.fr k
   have e1 : IntKind.i64.wrap (j : Int) = (j : Int) := by rw [IntKind.wrap_i64]; omega
   have e2 : IntKind.i64.wrap ((j : Int) + 1) = (j : Int) + 1 := by rw [IntKind.wrap_i64]; omega
   have e3 : IntKind.i64.wrap ((j : Int) + 2) = (j : Int) + 2 := by rw [IntKind.wrap_i64]; omega
   have e4 : IntKind.i64.wrap ((j : Int) + 3) = (j : Int) + 3 := by rw [IntKind.wrap_i64]; omega
   have g1 : 4 * (k : Int) = (j : Int) := by omega
   have hjn : j + 3 < n := by omega
   have p1 : (0 : Int) ≤ (j : Int) + 1 := by omega
   have p2 : (0 : Int) ≤ (j : Int) + 2 := by omega
   have p3 : (0 : Int) ≤ (j : Int) + 3 := by omega
   have n1 : ((j : Int) + 1).toNat = j + 1 := by omega
   have n2 : ((j : Int) + 2).toNat = j + 2 := by omega
   have n3 : ((j : Int) + 3).toNat = j + 3 := by omega
   have u0 : IntKind.u32.wrap (x0 : Int) = x0 := by rw [IntKind.wrap_u32']; omega
   have u1 : IntKind.u32.wrap (x1 : Int) = x1 := by rw [IntKind.wrap_u32']; omega
   have u2 : IntKind.u32.wrap (x2 : Int) = x2 := by rw [IntKind.wrap_u32']; omega
   have u3 : IntKind.u32.wrap (x3 : Int) = x3 := by rw [IntKind.wrap_u32']; omega
   have v0 : IntKind.u32.wrap ((x0 : Int) * 16777216) = (x0 : Int) * 16777216 := by rw [IntKind.wrap_u32']; omega
   have v1 : IntKind.u32.wrap ((x1 : Int) * 65536) = (x1 : Int) * 65536 := by rw [IntKind.wrap_u32']; omega
   have v2 : IntKind.u32.wrap ((x2 : Int) * 256) = (x2 : Int) * 256 := by rw [IntKind.wrap_u32']; omega
   have l0 : (j : Int) < (n : Int) := by omega
   have l1 : (j : Int) + 1 < (n : Int) := by omega
   have l2 : (j : Int) + 2 < (n : Int) := by omega
   have l3 : (j : Int) + 3 < (n : Int) := by omega
   have hj64 : j < 64 := by omega
   have i1 : (k : Int) < 16 := by omega
   have i2 : (k : Int) < 64 := by omega
   have i3 : (0 : Int) ≤ (k : Int) := by omega
   have R0' := aside r0
   have R1' := aside r1
   have R2' := aside r2
   have HB := aside hb
   clear M r0 r1 r2 hb R0 R1 R2 hj
   go_wp2_with fail
   go_still_tail 35, (by kernel_rfl)
   change wpList _ _ _ _ _ wr.drew
   have D0 : wr.drew.cell? ⟨B + 1 + 1, k, none⟩ = some (.int .u32 ((firstW bs k).getD k 0 : Nat)) := q0
   have D1 : wr.drew.frozen? ⟨B + 1 + 1, k, none⟩ = false := q1
   have A0 : Hid (RowAt wr.drew B 172 s) := aside R0'.out
   have A1 : Hid (RowAt wr.drew (B + 1) 172 (List.replicate 8 0)) := aside R1'.out
   have A2 : Hid (RowAt wr.drew (B + 1 + 1) 203 (firstW bs k)) := aside R2'.out
   have AB : Hid (Below B w1 wr.drew) := aside (below_drawn HB.out 1)
   have AZ : wr.drew.heap.size = B + 1 + 1 + 1 := hz
   have HV := aside (be4_or b0 b1 b2 b3)
   clear q0 q1 R0' R1' R2' HB hz m0 m1 m2 m3 hlt
   generalize wr.drew = w2 at D0 D1 A0 A1 A2 AB AZ ⊢
   go_wp2
   rw [HV.out]
   exact ⟨⟨k + 1, by omega, by go_num, A0.out.other _ _ _ (by omega), A1.out.other _ _ _ (by omega), by rw [HF.out]; exact A2.out.set _ _, AB.out.setCell (show B ≤ B + 1 + 1 by omega) _, by simpa using AZ⟩, by simp [Go.RowKit.intOf]; omega⟩
  ·obtain rfl : k = 16 := by omega
   have i1 : ((16 : Int) < 16) = False := by decide
   clear R0 R1 R2
   have R0' := aside r0
   have R1' := aside r1
   have R2' := aside r2
   have HB := aside hb
   clear r0 r1 r2 hb
   go_wp2_with fail
   go_loopw [7] (fun v7 wr => ∃ (k t : Nat), t = k + 16 ∧ k ≤ 48 ∧ v7 = .int .i64 t ∧ Hid (RowAt wr B 172 s) ∧ Hid (RowAt wr (B + 1) 172 (List.replicate 8 0)) ∧ Hid (RowAt wr (B + 1 + 1) 203 (moreW bs k)) ∧ Hid (Below B w1 wr) ∧ wr.heap.size = B + 1 + 1 + 1) (fun v7 _ => 64 - (Go.RowKit.intOf v7).toNat)
   case atStart => exact ⟨0, 16, rfl, by omega, rfl, R0', R1', R2', HB, hz⟩
   case round =>
    clear R0' R1' R2' HB hz
    obtain ⟨k, t, ht, hk, rfl, R0, R1, R2, HB, hz⟩ := hrel
    by_cases t1 : t < 64
    ·have t1' : (t : Int) < 64 := by omega
     have HF : Hid (moreW bs (k + 1) = (moreW bs k).set t ((sig1 ((moreW bs k).getD (k + 14) 0) + (moreW bs k).getD (k + 9) 0 + sig0 ((moreW bs k).getD (k + 1) 0) + (moreW bs k).getD k 0) % 4294967296)) := aside (by rw [ht]; rfl)
     have c15 := R2.out.at_ (j := k + 1) (by rw [moreW_len]; omega)
     have c2 := R2.out.at_ (j := k + 14) (by rw [moreW_len]; omega)
     have c7 := R2.out.at_ (j := k + 9) (by rw [moreW_len]; omega)
     have c16 := R2.out.at_ (j := k) (by rw [moreW_len]; omega)
     have ct := R2.out.at_ (j := t) (by rw [moreW_len]; omega)
     have ft := R2.out.fr t
     have s15 := moreW_small HBy.out k (k + 1)
     have s2 := moreW_small HBy.out k (k + 14)
     have s7 := moreW_small HBy.out k (k + 9)
     have s16 := moreW_small HBy.out k k
     generalize (moreW bs k).getD (k + 1) 0 = x15 at c15 s15 HF
     generalize (moreW bs k).getD (k + 14) 0 = x2 at c2 s2 HF
     generalize (moreW bs k).getD (k + 9) 0 = x7 at c7 s7 HF
     generalize (moreW bs k).getD k 0 = x16 at c16 s16 HF
     generalize (moreW bs k).getD t 0 = xt at ct
     obtain ⟨a15, h15⟩ : ∃ a, a = k + 1 := ⟨_, rfl⟩
     obtain ⟨a2, h2⟩ : ∃ a, a = k + 14 := ⟨_, rfl⟩
     obtain ⟨a7, h7⟩ : ∃ a, a = k + 9 := ⟨_, rfl⟩
     rw [← h15] at c15
     rw [← h2] at c2
     rw [← h7] at c7
     have e15 : IntKind.i64.wrap ((t : Int) - 15) = (a15 : Int) := by rw [IntKind.wrap_i64]; omega
     have e2 : IntKind.i64.wrap ((t : Int) - 2) = (a2 : Int) := by rw [IntKind.wrap_i64]; omega
     have e7 : IntKind.i64.wrap ((t : Int) - 7) = (a7 : Int) := by rw [IntKind.wrap_i64]; omega
     have e16 : IntKind.i64.wrap ((t : Int) - 16) = (k : Int) := by rw [IntKind.wrap_i64]; omega
     have l15 : (a15 : Int) < 64 := by omega
     have l2 : (a2 : Int) < 64 := by omega
     have l7 : (a7 : Int) < 64 := by omega
     have l16 : (k : Int) < 64 := by omega
     have k48 : k + 1 ≤ 48 := by omega
     have HT : Hid (t = k + 16) := aside ht
     clear h15 h2 h7 ht hk
     go_wp2_with fail
     go_quiet (fail)
     have C7 : (wr.drewN nq).cell? ⟨B + 1 + 1, a7, none⟩ = some (.int .u32 (x7 : Int)) := c7
     have C16 : (wr.drewN nq).cell? ⟨B + 1 + 1, k, none⟩ = some (.int .u32 (x16 : Int)) := c16
     have CT : (wr.drewN nq).cell? ⟨B + 1 + 1, t, none⟩ = some (.int .u32 (xt : Int)) := ct
     have FT : (wr.drewN nq).frozen? ⟨B + 1 + 1, t, none⟩ = false := ft
     have A0 : Hid (RowAt (wr.drewN nq) B 172 s) := aside R0.out
     have A1 : Hid (RowAt (wr.drewN nq) (B + 1) 172 (List.replicate 8 0)) := aside R1.out
     have A2 : Hid (RowAt (wr.drewN nq) (B + 1 + 1) 203 (moreW bs k)) := aside R2.out
     have AB : Hid (Below B w1 (wr.drewN nq)) := aside (below_drawn HB.out nq)
     have AZ : (wr.drewN nq).heap.size = B + 1 + 1 + 1 := hz
     clear c7 c16 ct ft c15 c2 R0 R1 R2 HB hz
     generalize wr.drewN nq = wq at C7 C16 CT FT A0 A1 A2 AB AZ ⊢
     go_wp2_with fail
     refine (rot_at 7 s15 (by rfl) (by omega) _).mono ?_
     rintro e w3 ⟨rfl, rfl⟩
     go_wp2_with fail
     refine (rot_at 18 s15 (by rfl) (by omega) _).mono ?_
     rintro e w4 ⟨rfl, rfl⟩
     have z0 := sig0_is s15
     go_wp2_with fail
     refine (rot_at 17 s2 (by rfl) (by omega) _).mono ?_
     rintro e w5 ⟨rfl, rfl⟩
     go_wp2_with fail
     refine (rot_at 19 s2 (by rfl) (by omega) _).mono ?_
     rintro e w6 ⟨rfl, rfl⟩
     have z1 := sig1_is s2
     go_wp2_with fail
     go_still_tail 15, (by kernel_rfl)
     change wpList _ _ _ _ _ w6.drew
     have D0 : w6.drew.cell? ⟨B + 1 + 1, t, none⟩ = some (.int .u32 (xt : Int)) := CT
     have D1 : w6.drew.frozen? ⟨B + 1 + 1, t, none⟩ = false := FT
     have B0 : Hid (RowAt w6.drew B 172 s) := aside A0.out
     have B1 : Hid (RowAt w6.drew (B + 1) 172 (List.replicate 8 0)) := aside A1.out
     have B2 : Hid (RowAt w6.drew (B + 1 + 1) 203 (moreW bs k)) := aside A2.out
     have BB : Hid (Below B w1 w6.drew) := aside (below_drawn AB.out 1)
     have BZ : w6.drew.heap.size = B + 1 + 1 + 1 := AZ
     clear C7 C16 CT FT A0 A1 A2 AB AZ
     generalize w6.drew = wx at D0 D1 B0 B1 B2 BB BZ ⊢
     go_wp2
     rw [sum4_is]
     have hs4 : ((sig1 x2 : Int) + x7 + sig0 x15 + x16) % 4294967296 = (((sig1 x2 + x7 + sig0 x15 + x16) % 4294967296 : Nat) : Int) := by simp
     refine ⟨?_, ?measure⟩
     ·refine ⟨_, _, _, _, _, _, _, _, _, _, _, _, _, _, _, _, _, _, _, _, _, _, _, _, _, _, _, _, _, _, _, _, _, _, _, _, _, _, _, _, _, _, _, _, _, _, _, _, ?_, rfl⟩
      rw [hs4]
      exact ⟨k + 1, t + 1, by have := HT.out; omega, k48, by go_num, aside (B0.out.other _ _ _ (by omega)), aside (B1.out.other _ _ _ (by omega)), aside (by rw [HF.out]; exact B2.out.set _ _), aside (BB.out.setCell (show B ≤ B + 1 + 1 by omega) _), by simpa using BZ⟩
     case measure => simp [Go.RowKit.intOf]; omega
    ·have t1' : ((t : Int) < 64) = False := by simp only [eq_iff_iff, iff_false]; omega
     obtain rfl : k = 48 := by omega
     clear ht
     have HS8 : Hid ((Tryz.prog.info? 172).map (·.size) = some (rowW s).size) := aside (by rw [rowW_size, HS.out]; kernel_rfl)
     have HG2 : Hid (RoundsAt wr) := aside (HG.out.below (by rw [← EB.out]; exact (EB.out ▸ H1.out : Below B w w1).trans HB.out))
     obtain ⟨TG, fg, hG, hgl⟩ := HG2.out
     have HG3 : Hid (((wr.alloc (.cells (rowW (List.replicate 8 0)) 172)).setRow (B + 1 + 1 + 1) (rowW s)).heap[1]? = some (.cells (rowW roundK) TG fg)) := aside (by
      rw [setRow_other _ _ _ _ (by omega), heap_alloc_old _ _ hgl]
      exact hG)
     have HK8 : Hid ((Tryz.prog.info? 203).map (·.size) = some (rowW roundK).size) := aside (by rw [rowW_size, roundK_len]; kernel_rfl)
     have HR3 : Hid ((wr.alloc (.cells (rowW (List.replicate 8 0)) 172)).heap[B + 1 + 1 + 1]? = some (.cells (rowW (List.replicate 8 0)) 172 (0, 0))) := aside (by
      have := RowAt.new wr 172 (List.replicate 8 0)
      rw [hz] at this
      exact this)
     have HE8 : Hid ((rowW (List.replicate 8 0)).size = (rowW s).size) := aside (by rw [rowW_size, rowW_size, HS.out]; rfl)
     go_wp2_with (first
      | (refine wpList_load_row rfl 172 (.tmp 2) rfl B rfl 172 (rowW s) (0, 0) _ R0.out Tryz.underlying172 rfl HS8.out ?_)
      | (refine wpList_store_row rfl 172 (.tmp 12) (.tmp 102) rfl (B + 1 + 1 + 1) (rowW s) rfl rfl 172 (rowW (List.replicate 8 0)) HR3.out HS8.out HE8.out (rowW_one s) ?_)
      | (refine wpList_load_row rfl 203 (.global 1) rfl 1 rfl TG (rowW roundK) fg _ HG3.out Tryz.underlying203 rfl HK8.out ?_)
      | fail)
     obtain ⟨w8, hw8⟩ : ∃ w8, w8 = ((wr.alloc (.cells (rowW (List.replicate 8 0)) 172)).setRow (B + 1 + 1 + 1) (rowW s)) := ⟨_, rfl⟩
     have E0 : Hid (RowAt w8 B 172 s) := aside (by rw [hw8]; exact (R0.out.alloc _).otherRow _ _ (by omega))
     have E1 : Hid (RowAt w8 (B + 1) 172 (List.replicate 8 0)) := aside (by rw [hw8]; exact (R1.out.alloc _).otherRow _ _ (by omega))
     have E2 : Hid (RowAt w8 (B + 1 + 1) 203 (moreW bs 48)) := aside (by rw [hw8]; exact (R2.out.alloc _).otherRow _ _ (by omega))
     have E3 : Hid (RowAt w8 (B + 1 + 1 + 1) 172 s) := aside (by rw [hw8]; exact RowAt.setRow (l := List.replicate 8 0) HR3.out s)
     have E4 : Hid (Below B w1 w8) := aside (by rw [hw8]; exact below_setRow (HB.out.alloc (by omega) _) _ (by omega) _)
     have E5 : w8.heap.size = B + 1 + 1 + 1 + 1 := by rw [hw8]; simp; omega
     change Code.wp _ _ _ _ (((wr.alloc (.cells (rowW (List.replicate 8 0)) 172)).setRow (B + 1 + 1 + 1) (rowW s)))
     rw [← hw8]
     clear hw8 R0 R1 R2 HB hz HG3 HR3 hG hgl HG2
     go_loopw [104] (fun v104 wr => ∃ (k : Nat), k ≤ 64 ∧ v104 = .int .i64 k ∧ Hid (RowAt wr B 172 s) ∧ Hid (RowAt wr (B + 1) 172 (List.replicate 8 0)) ∧ Hid (RowAt wr (B + 1 + 1) 203 (moreW bs 48)) ∧ Hid (RowAt wr (B + 1 + 1 + 1) 172 (roundsN s bs k)) ∧ Hid (Below B w1 wr) ∧ wr.heap.size = B + 1 + 1 + 1 + 1) (fun v104 _ => 64 - (Go.RowKit.intOf v104).toNat)
     case atStart => exact ⟨0, by omega, rfl, E0, E1, E2, E3, E4, E5⟩
     case round =>
      clear E0 E1 E2 E3 E4 E5
      obtain ⟨k, hk, rfl, R0, R1, R2, R3, HB, hz⟩ := hrel
      by_cases k1 : k < 64
      ·have k1' : (k : Int) < 64 := by omega
       have k0 : (0 : Int) ≤ (k : Int) := by omega
       have HF : Hid (roundsN s bs (k + 1) = roundStep (roundK.getD k 0) ((moreW bs 48).getD k 0) (roundsN s bs k)) := aside rfl
       have cw := R2.out.at_ (j := k) (by rw [moreW_len]; omega)
       have sw := moreW_small HBy.out 48 k
       have ck : (rowW roundK)[k]? = some (.int .u32 (roundK.getD k 0 : Nat)) := rowW_get (by rw [roundK_len]; omega)
       have sk := getD_lt roundK_small (by decide) k
       have hidx : ∀ W, (Instr.index 203 (.agg (rowW roundK)) (.int .i64 (k : Int))).run Tryz.prog W = .ok (.int .u32 (roundK.getD k 0 : Nat)) W := fun W => index_row rfl (by omega) ck W
       have hksz : (rowW roundK).size = 64 := by rw [rowW_size, roundK_len]
       have hv8 := roundsN_len bs HS.out k
       have hvs := roundsN_small bs HSm.out k
       generalize (moreW bs 48).getD k 0 = ww at cw sw HF
       generalize roundK.getD k 0 = kk at ck sk HF hidx
       generalize roundsN s bs k = v at hv8 hvs HF R3
       obtain ⟨a, b, c', d, e, f, g, x, rfl⟩ := eight hv8
       have c0 : wr.cell? ⟨B + 1 + 1 + 1, 0, none⟩ = some (.int .u32 (a : Int)) := R3.out.at_ (j := 0) (by simp)
       have c1 : wr.cell? ⟨B + 1 + 1 + 1, 1, none⟩ = some (.int .u32 (b : Int)) := R3.out.at_ (j := 1) (by simp)
       have c2 : wr.cell? ⟨B + 1 + 1 + 1, 2, none⟩ = some (.int .u32 (c' : Int)) := R3.out.at_ (j := 2) (by simp)
       have c3 : wr.cell? ⟨B + 1 + 1 + 1, 3, none⟩ = some (.int .u32 (d : Int)) := R3.out.at_ (j := 3) (by simp)
       have c4 : wr.cell? ⟨B + 1 + 1 + 1, 4, none⟩ = some (.int .u32 (e : Int)) := R3.out.at_ (j := 4) (by simp)
       have c5 : wr.cell? ⟨B + 1 + 1 + 1, 5, none⟩ = some (.int .u32 (f : Int)) := R3.out.at_ (j := 5) (by simp)
       have c6 : wr.cell? ⟨B + 1 + 1 + 1, 6, none⟩ = some (.int .u32 (g : Int)) := R3.out.at_ (j := 6) (by simp)
       have c7 : wr.cell? ⟨B + 1 + 1 + 1, 7, none⟩ = some (.int .u32 (x : Int)) := R3.out.at_ (j := 7) (by simp)
       have sa : a < 4294967296 := hvs 0
       have sb : b < 4294967296 := hvs 1
       have sc : c' < 4294967296 := hvs 2
       have sd : d < 4294967296 := hvs 3
       have se : e < 4294967296 := hvs 4
       have sf : f < 4294967296 := hvs 5
       have sg : g < 4294967296 := hvs 6
       have sx : x < 4294967296 := hvs 7
       have kk1 : k + 1 ≤ 64 := by omega
       clear hv8 hvs
       go_wp2_with fail
       go_quiet (fail)
       have Ac0 : (wr.drewN nq).cell? ⟨B + 1 + 1 + 1, 0, none⟩ = some (.int .u32 (a : Int)) := c0
       have Ac1 : (wr.drewN nq).cell? ⟨B + 1 + 1 + 1, 1, none⟩ = some (.int .u32 (b : Int)) := c1
       have Ac2 : (wr.drewN nq).cell? ⟨B + 1 + 1 + 1, 2, none⟩ = some (.int .u32 (c' : Int)) := c2
       have Ac3 : (wr.drewN nq).cell? ⟨B + 1 + 1 + 1, 3, none⟩ = some (.int .u32 (d : Int)) := c3
       have Ac4 : (wr.drewN nq).cell? ⟨B + 1 + 1 + 1, 4, none⟩ = some (.int .u32 (e : Int)) := c4
       have Ac5 : (wr.drewN nq).cell? ⟨B + 1 + 1 + 1, 5, none⟩ = some (.int .u32 (f : Int)) := c5
       have Ac6 : (wr.drewN nq).cell? ⟨B + 1 + 1 + 1, 6, none⟩ = some (.int .u32 (g : Int)) := c6
       have Ac7 : (wr.drewN nq).cell? ⟨B + 1 + 1 + 1, 7, none⟩ = some (.int .u32 (x : Int)) := c7
       have Acw : (wr.drewN nq).cell? ⟨B + 1 + 1, k, none⟩ = some (.int .u32 (ww : Int)) := cw
       have AR0 : Hid (RowAt (wr.drewN nq) B 172 s) := aside R0.out
       have AR1 : Hid (RowAt (wr.drewN nq) (B + 1) 172 (List.replicate 8 0)) := aside R1.out
       have AR2 : Hid (RowAt (wr.drewN nq) (B + 1 + 1) 203 (moreW bs 48)) := aside R2.out
       have AR3 : Hid (RowAt (wr.drewN nq) (B + 1 + 1 + 1) 172 [a, b, c', d, e, f, g, x]) := aside R3.out
       have AHB : Hid (Below B w1 (wr.drewN nq)) := aside (below_drawn HB.out nq)
       have Ahz : (wr.drewN nq).heap.size = B + 1 + 1 + 1 + 1 := hz
       clear c0 c1 c2 c3 c4 c5 c6 c7 cw R0 R1 R2 R3 HB hz
       generalize wr.drewN nq = wa at Ac0 Ac1 Ac2 Ac3 Ac4 Ac5 Ac6 Ac7 Acw AR0 AR1 AR2 AR3 AHB Ahz ⊢
       clear nq
       go_wp2_with fail
       have y0 := neg_is se
       have y1 := ch_is se sf sg
       obtain ⟨p1, hp1⟩ : ∃ p, p = (x + rot3 e 6 11 25) % 4294967296 := ⟨_, rfl⟩
       have y2 := add_is x (rot3 e 6 11 25)
       rw [← hp1] at y2
       obtain ⟨p2, hp2⟩ : ∃ p, p = (p1 + chW e f g) % 4294967296 := ⟨_, rfl⟩
       have y3 := add_is p1 (chW e f g)
       rw [← hp2] at y3
       obtain ⟨p3, hp3⟩ : ∃ p, p = (p2 + kk) % 4294967296 := ⟨_, rfl⟩
       have y4 := add_is p2 kk
       rw [← hp3] at y4
       obtain ⟨p, hp⟩ : ∃ p, p = (p3 + ww) % 4294967296 := ⟨_, rfl⟩
       have y5 := add_is p3 ww
       rw [← hp] at y5
       have HP : Hid (p = (x + rot3 e 6 11 25 + chW e f g + kk + ww) % 4294967296) := aside (by omega)
       clear hp1 hp2 hp3 hp
       go_quiet (first | (go_at_call 153; exact Calls.quiet_of_same (turned_at 6 11 25 se (by rfl) (by rfl) (by rfl) (by omega) (by omega) (by omega) _)) | fail)
       clear y0 y1 y2 y3 y4 y5
       have Ec0 : (wa.drewN nq).cell? ⟨B + 1 + 1 + 1, 0, none⟩ = some (.int .u32 (a : Int)) := Ac0
       have Ec1 : (wa.drewN nq).cell? ⟨B + 1 + 1 + 1, 1, none⟩ = some (.int .u32 (b : Int)) := Ac1
       have Ec2 : (wa.drewN nq).cell? ⟨B + 1 + 1 + 1, 2, none⟩ = some (.int .u32 (c' : Int)) := Ac2
       have Ec3 : (wa.drewN nq).cell? ⟨B + 1 + 1 + 1, 3, none⟩ = some (.int .u32 (d : Int)) := Ac3
       have Ec4 : (wa.drewN nq).cell? ⟨B + 1 + 1 + 1, 4, none⟩ = some (.int .u32 (e : Int)) := Ac4
       have Ec5 : (wa.drewN nq).cell? ⟨B + 1 + 1 + 1, 5, none⟩ = some (.int .u32 (f : Int)) := Ac5
       have Ec6 : (wa.drewN nq).cell? ⟨B + 1 + 1 + 1, 6, none⟩ = some (.int .u32 (g : Int)) := Ac6
       have Ec7 : (wa.drewN nq).cell? ⟨B + 1 + 1 + 1, 7, none⟩ = some (.int .u32 (x : Int)) := Ac7
       have Ecw : (wa.drewN nq).cell? ⟨B + 1 + 1, k, none⟩ = some (.int .u32 (ww : Int)) := Acw
       have ER0 : Hid (RowAt (wa.drewN nq) B 172 s) := aside AR0.out
       have ER1 : Hid (RowAt (wa.drewN nq) (B + 1) 172 (List.replicate 8 0)) := aside AR1.out
       have ER2 : Hid (RowAt (wa.drewN nq) (B + 1 + 1) 203 (moreW bs 48)) := aside AR2.out
       have ER3 : Hid (RowAt (wa.drewN nq) (B + 1 + 1 + 1) 172 [a, b, c', d, e, f, g, x]) := aside AR3.out
       have EHB : Hid (Below B w1 (wa.drewN nq)) := aside (below_drawn AHB.out nq)
       have Ehz : (wa.drewN nq).heap.size = B + 1 + 1 + 1 + 1 := Ahz
       clear Ac0 Ac1 Ac2 Ac3 Ac4 Ac5 Ac6 Ac7 Acw AR0 AR1 AR2 AR3 AHB Ahz
       generalize wa.drewN nq = wb at Ec0 Ec1 Ec2 Ec3 Ec4 Ec5 Ec6 Ec7 Ecw ER0 ER1 ER2 ER3 EHB Ehz ⊢
       clear nq
       have y1 := maj_is sa sb sc
       obtain ⟨q, hq⟩ : ∃ p, p = (rot3 a 2 13 22 + majW a b c') % 4294967296 := ⟨_, rfl⟩
       have y2 := add_is (rot3 a 2 13 22) (majW a b c')
       rw [← hq] at y2
       have HQ := aside hq
       clear hq
       go_wp2_with fail
       go_quiet (first | (go_at_call 153; exact Calls.quiet_of_same (turned_at 2 13 22 sa (by rfl) (by rfl) (by rfl) (by omega) (by omega) (by omega) _)) | fail)
       clear y1 y2
       have Fc0 : (wb.drewN nq).cell? ⟨B + 1 + 1 + 1, 0, none⟩ = some (.int .u32 (a : Int)) := Ec0
       have Fc1 : (wb.drewN nq).cell? ⟨B + 1 + 1 + 1, 1, none⟩ = some (.int .u32 (b : Int)) := Ec1
       have Fc2 : (wb.drewN nq).cell? ⟨B + 1 + 1 + 1, 2, none⟩ = some (.int .u32 (c' : Int)) := Ec2
       have Fc3 : (wb.drewN nq).cell? ⟨B + 1 + 1 + 1, 3, none⟩ = some (.int .u32 (d : Int)) := Ec3
       have Fc4 : (wb.drewN nq).cell? ⟨B + 1 + 1 + 1, 4, none⟩ = some (.int .u32 (e : Int)) := Ec4
       have Fc5 : (wb.drewN nq).cell? ⟨B + 1 + 1 + 1, 5, none⟩ = some (.int .u32 (f : Int)) := Ec5
       have Fc6 : (wb.drewN nq).cell? ⟨B + 1 + 1 + 1, 6, none⟩ = some (.int .u32 (g : Int)) := Ec6
       have Fc7 : (wb.drewN nq).cell? ⟨B + 1 + 1 + 1, 7, none⟩ = some (.int .u32 (x : Int)) := Ec7
       have Fcw : (wb.drewN nq).cell? ⟨B + 1 + 1, k, none⟩ = some (.int .u32 (ww : Int)) := Ecw
       have FR0 : Hid (RowAt (wb.drewN nq) B 172 s) := aside ER0.out
       have FR1 : Hid (RowAt (wb.drewN nq) (B + 1) 172 (List.replicate 8 0)) := aside ER1.out
       have FR2 : Hid (RowAt (wb.drewN nq) (B + 1 + 1) 203 (moreW bs 48)) := aside ER2.out
       have FR3 : Hid (RowAt (wb.drewN nq) (B + 1 + 1 + 1) 172 [a, b, c', d, e, f, g, x]) := aside ER3.out
       have FHB : Hid (Below B w1 (wb.drewN nq)) := aside (below_drawn EHB.out nq)
       have Fhz : (wb.drewN nq).heap.size = B + 1 + 1 + 1 + 1 := Ehz
       clear Ec0 Ec1 Ec2 Ec3 Ec4 Ec5 Ec6 Ec7 Ecw ER0 ER1 ER2 ER3 EHB Ehz
       generalize wb.drewN nq = wc at Fc0 Fc1 Fc2 Fc3 Fc4 Fc5 Fc6 Fc7 Fcw FR0 FR1 FR2 FR3 FHB Fhz ⊢
       clear nq
       obtain ⟨z0, hz0⟩ : ∃ z, z = (p + q) % 4294967296 := ⟨_, rfl⟩
       have y1 := add_is p q
       rw [← hz0] at y1
       obtain ⟨z4, hz4⟩ : ∃ z, z = (d + p) % 4294967296 := ⟨_, rfl⟩
       have y2 := add_is d p
       rw [← hz4] at y2
       have HV : Hid (roundsN s bs (k + 1) = [z0, a, b, c', z4, e, f, g]) := aside (by
        rw [HF.out, hz0, hz4, HP.out, HQ.out]
        rfl)
       clear hz0 hz4
       have HI8 : Hid ((Tryz.prog.info? 172).map (·.size) = some (rowW [z0, a, b, c', z4, e, f, g]).size) := aside (by rw [rowW_size]; kernel_rfl)
       have HO8 : Hid ((rowW [a, b, c', d, e, f, g, x]).size = (rowW [z0, a, b, c', z4, e, f, g]).size) := aside (by rw [rowW_size, rowW_size]; rfl)
       go_wp2_with (first
        | (refine wpList_store_row rfl 172 (.tmp 12) (.tmp 169) rfl (B + 1 + 1 + 1) (rowW [z0, a, b, c', z4, e, f, g]) rfl rfl 172 (rowW [a, b, c', d, e, f, g, x]) FR3.out HI8.out HO8.out (rowW_one _) ?_)
        | fail)
       exact ⟨⟨k + 1, kk1, by go_num, aside (FR0.out.otherRow _ _ (by omega)), aside (FR1.out.otherRow _ _ (by omega)), aside (FR2.out.otherRow _ _ (by omega)), aside (by rw [HV.out]; exact RowAt.setRow FR3.out _), aside (below_setRow FHB.out _ (by omega) _), by simpa using Fhz⟩, by simp [Go.RowKit.intOf]; omega⟩
      ·obtain rfl : k = 64 := by omega
       have k1' : ((64 : Int) < 64) = False := by decide
       go_wp2_with fail
       go_loopw [171] (fun v171 wr => ∃ (k : Nat), k ≤ 8 ∧ v171 = .int .i64 k ∧ Hid (RowAt wr B 172 s) ∧ Hid (RowAt wr (B + 1) 172 (List.replicate 8 0)) ∧ Hid (RowAt wr (B + 1 + 1 + 1) 172 (sumN s (roundsN s bs 64) k)) ∧ Hid (Below B w1 wr) ∧ wr.heap.size = B + 1 + 1 + 1 + 1) (fun v171 _ => 8 - (Go.RowKit.intOf v171).toNat)
       case atStart => exact ⟨0, by omega, rfl, R0, R1, R3, HB, hz⟩
       case round =>
        clear R0 R1 R2 R3 HB hz hk
        obtain ⟨k, hk, rfl, R0, R1, R3, HB, hz⟩ := hrel
        have hl8 : (sumN s (roundsN s bs 64) k).length = 8 := by rw [sumN_len, roundsN_len bs HS.out]
        by_cases k8 : k < 8
        ·have k8' : (k : Int) < 8 := by omega
         have k0 : (0 : Int) ≤ (k : Int) := by omega
         have HF : Hid (sumN s (roundsN s bs 64) (k + 1) = (sumN s (roundsN s bs 64) k).set k (((sumN s (roundsN s bs 64) k).getD k 0 + s.getD k 0) % 4294967296)) := aside rfl
         have cs := R0.out.at_ (j := k) (by rw [HS.out]; omega)
         have cv := R3.out.at_ (j := k) (by rw [hl8]; omega)
         have fv := R3.out.fr k
         have hkk : k + 1 ≤ 8 := by omega
         generalize s.getD k 0 = y at cs HF
         generalize (sumN s (roundsN s bs 64) k).getD k 0 = x at cv HF
         obtain ⟨z, hzz⟩ : ∃ z, z = (x + y) % 4294967296 := ⟨_, rfl⟩
         have y1 := add_is x y
         rw [← hzz] at y1 HF
         clear hzz
         go_wp2_with fail
         go_still_tail 8, (by kernel_rfl)
         clear y1
         change wpList _ _ _ _ _ wr.drew
         have D0 : wr.drew.cell? ⟨B + 1 + 1 + 1, k, none⟩ = some (.int .u32 (x : Int)) := cv
         have D1 : wr.drew.frozen? ⟨B + 1 + 1 + 1, k, none⟩ = false := fv
         have A0 : Hid (RowAt wr.drew B 172 s) := aside R0.out
         have A1 : Hid (RowAt wr.drew (B + 1) 172 (List.replicate 8 0)) := aside R1.out
         have A3 : Hid (RowAt wr.drew (B + 1 + 1 + 1) 172 (sumN s (roundsN s bs 64) k)) := aside R3.out
         have AB : Hid (Below B w1 wr.drew) := aside (below_drawn HB.out 1)
         have AZ : wr.drew.heap.size = B + 1 + 1 + 1 + 1 := hz
         clear cs cv fv R0 R1 R3 HB hz
         generalize wr.drew = wd at D0 D1 A0 A1 A3 AB AZ ⊢
         go_wp2
         refine ⟨?_, ?measure⟩
         ·refine ⟨_, _, _, _, _, _, _, _, _, _, _, _, _, ?_, rfl⟩
          exact ⟨k + 1, hkk, by go_num, aside (A0.out.other _ _ _ (by omega)), aside (A1.out.other _ _ _ (by omega)), aside (by rw [HF.out]; exact A3.out.set _ _), aside (AB.out.setCell (show B ≤ B + 1 + 1 + 1 by omega) _), by simpa using AZ⟩
         case measure => simp [Go.RowKit.intOf]; omega
        ·obtain rfl : k = 8 := by omega
         have k8' : ((8 : Int) < 8) = False := by decide
         have HI8 : Hid ((Tryz.prog.info? 172).map (·.size) = some (rowW (sumN s (roundsN s bs 64) 8)).size) := aside (by rw [rowW_size, hl8]; kernel_rfl)
         have HO8 : Hid ((rowW (List.replicate 8 0)).size = (rowW (sumN s (roundsN s bs 64) 8)).size) := aside (by rw [rowW_size, rowW_size, hl8]; rfl)
         go_wp2_with (first
          | (refine wpList_load_row rfl 172 (.tmp 12) rfl (B + 1 + 1 + 1) rfl 172 (rowW (sumN s (roundsN s bs 64) 8)) (0, 0) _ R3.out Tryz.underlying172 rfl HI8.out ?_)
          | (refine wpList_store_row rfl 172 (.tmp 4) (.tmp 183) rfl (B + 1) (rowW (sumN s (roundsN s bs 64) 8)) rfl rfl 172 (rowW (List.replicate 8 0)) R1.out HI8.out HO8.out (rowW_one _) ?_)
          | fail)
         refine bodyPost_ret (results_cell_row rfl _ _ (B + 1) 172 (rowW (sumN s (roundsN s bs 64) 8)) (0, 0) _ rfl (RowAt.setRow R1.out _) Tryz.underlying172 rfl HI8.out) rfl ?_
         refine ⟨rfl, ?_⟩
         have h2 : Below B w w1 := EB.out ▸ H1.out
         have h3 := h2.trans (below_setRow HB.out (B + 1) (by omega) (rowW (sumN s (roundsN s bs 64) 8)))
         exact EB.out ▸ h3
end Go.Proofs.YtbpabjhcjffkmaaGreatDoor
