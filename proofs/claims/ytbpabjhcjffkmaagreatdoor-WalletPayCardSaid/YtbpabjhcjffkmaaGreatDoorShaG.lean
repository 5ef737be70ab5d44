/- Digests: a hasher that has taken nothing. Conditions: named in each theorem. Digests: what the digest of bytes is: plain words. Conditions: named in each theorem. Digests: a hasher takes bytes: the walk. Conditions: named in each theorem. Digests: a hasher tells the digest: the walk. Conditions: named in each theorem. Digests: the digest of bytes: the walk. Conditions: named in each theorem. -/
import Derived.Test.YtbpabjhcjffkmaaGreatDoorShaB
import Derived.Deep.RegionWith
import Derived.Deep.Cut
/- Digests: a hasher that has taken nothing. Conditions: named in each theorem. -/
namespace Go.Proofs.YtbpabjhcjffkmaaGreatDoor
open Go.RowKit Go.ChangeShapes Go.WideShapes Go.ChangeAt

def startL : List Nat := [1779033703, 3144134277, 1013904242, 2773480762, 1359893119, 2600822924, 528734635, 1541459225]
set_option maxRecDepth 100000 in
theorem begin_any (w : World) : Calls Tryz.prog 132 #[] w (fun e w' => e = .returned (.agg (rowW startL)) ∧ Below w.heap.size w w') := by
 have HI8 : Hid ((Tryz.prog.info? 172).map (·.size) = some (rowW startL).size) := aside (by rw [rowW_size]; kernel_rfl)
 have HO8 : Hid ((rowW (List.replicate 8 0)).size = (rowW startL).size) := aside (by rw [rowW_size, rowW_size]; rfl)
 have R := RowAt.new w 172 (List.replicate 8 0)
 go_enter Tryz.func132, Tryz.ntmps132
 go_wp2_with (first
  | (refine wpList_store_row rfl 172 (.tmp 0) (.tmp 1) rfl w.heap.size (rowW startL) rfl rfl 172 (rowW (List.replicate 8 0)) R HI8.out HO8.out (rowW_one _) ?_)
  | fail)
 refine bodyPost_ret (results_cell_row rfl _ _ w.heap.size 172 (rowW startL) (0, 0) _ rfl (RowAt.setRow R _) Tryz.underlying172 rfl HI8.out) rfl ?_
 exact ⟨rfl, below_setRow ((Below.refl _ _).alloc (Nat.le_refl _) _) _ (Nat.le_refl _) _⟩
/-- A hasher in memory. -/
def HashAt (w : World) (b : Nat) (s : List Nat) (rest : Value) (cnt : Int) : Prop :=
 w.heap[b]? = some (.cells (s.map W ++ [rest, .int .i64 cnt]).toArray 175 (0, 0))
set_option maxRecDepth 100000 in
theorem new_hash (w : World) : Calls Tryz.prog 112 #[] w (fun e w' => ∃ b, e = .returned (.pointer (some ⟨b, 0, none⟩)) ∧ w.heap.size ≤ b ∧ HashAt w' b startL (.slice none 0 0) 0 ∧ Below w.heap.size w w') := by
 go_enter Tryz.func112, Tryz.ntmps112
 go_wp2_with fail
 refine (begin_any _).mono ?_
 rintro e w1 ⟨rfl, hb⟩
 go_wp2
 go_ret
 refine ⟨w1.heap.size, rfl, hb.size, ?_, hb.alloc hb.size _⟩
 unfold HashAt
 refine (heap_alloc_new _ _).trans ?_
 kernel_rfl
end Go.Proofs.YtbpabjhcjffkmaaGreatDoor

/- Digests: what the digest of bytes is: plain words. Conditions: named in each theorem. -/
namespace Go.Proofs.YtbpabjhcjffkmaaGreatDoor
open Go.RowKit Go.ChangeShapes Go.WideShapes Go.ChangeAt

/-- What so many blocks make of a state. -/
def blocksN (s bs : List Nat) : Nat → List Nat
 | 0 => s
 | k + 1 => blockL (blocksN s bs k) (bs.drop (64 * k))
theorem blockL_len {s : List Nat} (bs : List Nat) (h : s.length = 8) : (blockL s bs).length = 8 := by
 unfold blockL
 rw [sumN_len, roundsN_len bs h]
theorem blockL_small {s : List Nat} (bs : List Nat) (h : Small s) : Small (blockL s bs) := sumN_small (roundsN_small bs h 64) 8
theorem blocksN_len {s : List Nat} (bs : List Nat) (h : s.length = 8) : ∀ k, (blocksN s bs k).length = 8
 | 0 => h
 | k + 1 => blockL_len _ (blocksN_len bs h k)
theorem blocksN_small {s : List Nat} (bs : List Nat) (h : Small s) : ∀ k, Small (blocksN s bs k)
 | 0 => h
 | k + 1 => blockL_small _ (blocksN_small bs h k)
/-- So many zeros behind r bytes and one. -/
def zerosOf (r : Nat) : Nat := (119 - r % 64) % 64
theorem zeros_mod (r : Nat) : (r + 1 + zerosOf r) % 64 = 56 := by unfold zerosOf; omega
theorem zeros_not {r k : Nat} (h : k < zerosOf r) : (r + 1 + k) % 64 ≠ 56 := by unfold zerosOf at h; omega
/-- The length, in bits, in eight bytes. -/
def longL (n : Nat) : List Nat := [n * 8 % 18446744073709551616 / 72057594037927936 % 256, n * 8 % 18446744073709551616 / 281474976710656 % 256, n * 8 % 18446744073709551616 / 1099511627776 % 256, n * 8 % 18446744073709551616 / 4294967296 % 256,
 n * 8 % 18446744073709551616 / 16777216 % 256, n * 8 % 18446744073709551616 / 65536 % 256, n * 8 % 18446744073709551616 / 256 % 256, n * 8 % 18446744073709551616 % 256]
/-- What stands behind all whole blocks. -/
def tailL (rest : List Nat) (n : Nat) : List Nat := rest ++ [128] ++ List.replicate (zerosOf rest.length) 0 ++ longL n
/-- A state's bytes. -/
def outL (s : List Nat) : List Nat := s.flatMap fun x => [x / 16777216 % 256, x / 65536 % 256, x / 256 % 256, x % 256]
/-- The digest of bytes. -/
def shaL (bs : List Nat) : List Nat :=
 outL (blocksN (blocksN startL bs (bs.length / 64)) (tailL (bs.drop (64 * (bs.length / 64))) bs.length) ((tailL (bs.drop (64 * (bs.length / 64))) bs.length).length / 64))
theorem start_small : Small startL := fun i => getD_lt (l := startL) (by decide) (by decide) i
theorem shaL_len (bs : List Nat) : (shaL bs).length = 32 := by
 unfold shaL
 have h : ∀ s : List Nat, (outL s).length = s.length * 4 := by
  intro s
  induction s with
  | nil => rfl
  | cons x r ih =>
   unfold outL at ih ⊢
   rw [List.flatMap_cons, List.length_append, ih, List.length_cons]
   simp
   omega
 rw [h, blocksN_len _ (blocksN_len _ rfl _)]
/-- The block, its words one by one. -/
theorem block_eight {v0 v1 v2 v3 v4 v5 v6 v7 : Nat} (bs : List Nat) (A : Option Addr) (n c : Nat) (w : World) (h : YSl w w.heap.size A n bs) (hn : 64 ≤ n) (hby : ∀ x ∈ bs, x < 256) (hsm : Small [v0, v1, v2, v3, v4, v5, v6, v7]) (hg : RoundsAt w) :
  Calls Tryz.prog 133 #[.agg #[.int .u32 (v0 : Int), .int .u32 (v1 : Int), .int .u32 (v2 : Int), .int .u32 (v3 : Int), .int .u32 (v4 : Int), .int .u32 (v5 : Int), .int .u32 (v6 : Int), .int .u32 (v7 : Int)], .slice A n c] w (fun e w' => ∃ u0 u1 u2 u3 u4 u5 u6 u7 : Nat, blockL [v0, v1, v2, v3, v4, v5, v6, v7] bs = [u0, u1, u2, u3, u4, u5, u6, u7] ∧ e = .returned (.agg #[.int .u32 (u0 : Int), .int .u32 (u1 : Int), .int .u32 (u2 : Int), .int .u32 (u3 : Int), .int .u32 (u4 : Int), .int .u32 (u5 : Int), .int .u32 (u6 : Int), .int .u32 (u7 : Int)]) ∧ Below w.heap.size w w') := by
 have hb := block_any [v0, v1, v2, v3, v4, v5, v6, v7] rfl bs A n c w h hn hby hsm hg
 refine (show Calls _ _ #[.agg (rowW [v0, v1, v2, v3, v4, v5, v6, v7]), .slice A n c] _ _ from hb).mono ?_
 rintro e w' ⟨rfl, hb⟩
 obtain ⟨u0, u1, u2, u3, u4, u5, u6, u7, hu⟩ := eight (blockL_len (s := [v0, v1, v2, v3, v4, v5, v6, v7]) bs rfl)
 exact ⟨u0, u1, u2, u3, u4, u5, u6, u7, hu, by rw [hu]; rfl, hb⟩
end Go.Proofs.YtbpabjhcjffkmaaGreatDoor

/- Digests: a hasher takes bytes: the walk. Conditions: named in each theorem. -/
namespace Go.Proofs.YtbpabjhcjffkmaaGreatDoor
open Go.RowKit Go.ChangeShapes Go.WideShapes Go.ChangeAt

theorem HashAt.w {w : World} {b : Nat} {a c d e f g h x : Nat} {rest : Value} {cnt : Int} (hh : HashAt w b [a, c, d, e, f, g, h, x] rest cnt) :
  w.cell? ⟨b, 8, none⟩ = some rest ∧ w.cell? ⟨b, 9, none⟩ = some (.int .i64 cnt) ∧ ∀ o, w.frozen? ⟨b, o, none⟩ = false := by
 refine ⟨?_, ?_, fun o => frozen_of_row w b o _ _ hh⟩
 ·rw [cell_of_row w b 8 _ _ _ hh]; rfl
 ·rw [cell_of_row w b 9 _ _ _ hh]; rfl
theorem HashAt.cs {w : World} {b : Nat} {a0 a1 a2 a3 a4 a5 a6 a7 : Nat} {rest : Value} {cnt : Int} (hh : HashAt w b [a0, a1, a2, a3, a4, a5, a6, a7] rest cnt) :
  (w.cell? ⟨b, 0, none⟩ = some (.int .u32 (a0 : Int)) ∧ w.cell? ⟨b, 1, none⟩ = some (.int .u32 (a1 : Int)) ∧ w.cell? ⟨b, 2, none⟩ = some (.int .u32 (a2 : Int)) ∧ w.cell? ⟨b, 3, none⟩ = some (.int .u32 (a3 : Int)) ∧ w.cell? ⟨b, 4, none⟩ = some (.int .u32 (a4 : Int)) ∧ w.cell? ⟨b, 5, none⟩ = some (.int .u32 (a5 : Int)) ∧ w.cell? ⟨b, 6, none⟩ = some (.int .u32 (a6 : Int)) ∧ w.cell? ⟨b, 7, none⟩ = some (.int .u32 (a7 : Int))) ∧ (w.frozen? ⟨b, 0, none⟩ = false ∧ w.frozen? ⟨b, 1, none⟩ = false ∧ w.frozen? ⟨b, 2, none⟩ = false ∧ w.frozen? ⟨b, 3, none⟩ = false ∧ w.frozen? ⟨b, 4, none⟩ = false ∧ w.frozen? ⟨b, 5, none⟩ = false ∧ w.frozen? ⟨b, 6, none⟩ = false ∧ w.frozen? ⟨b, 7, none⟩ = false) := by
 have fr := fun o => frozen_of_row w b o _ _ hh
 refine ⟨⟨?_, ?_, ?_, ?_, ?_, ?_, ?_, ?_⟩, fr 0, fr 1, fr 2, fr 3, fr 4, fr 5, fr 6, fr 7⟩
 ·rw [cell_of_row w b 0 _ _ _ hh]; rfl
 ·rw [cell_of_row w b 1 _ _ _ hh]; rfl
 ·rw [cell_of_row w b 2 _ _ _ hh]; rfl
 ·rw [cell_of_row w b 3 _ _ _ hh]; rfl
 ·rw [cell_of_row w b 4 _ _ _ hh]; rfl
 ·rw [cell_of_row w b 5 _ _ _ hh]; rfl
 ·rw [cell_of_row w b 6 _ _ _ hh]; rfl
 ·rw [cell_of_row w b 7 _ _ _ hh]; rfl
theorem HashAt.put {w : World} {b : Nat} {s : List Nat} {rest : Value} {cnt : Int} (hh : HashAt w b s rest cnt) (i x : Nat) (hi : i < s.length) : HashAt (w.setCell ⟨b, i, none⟩ (.int .u32 (x : Int))) b (s.set i x) rest cnt := by
 have h := heap_setCell_same w b i _ _ (.int .u32 (x : Int)) hh
 have e : (s.map W ++ [rest, .int .i64 cnt]).toArray.setIfInBounds i (.int .u32 (x : Int)) = ((s.set i x).map W ++ [rest, .int .i64 cnt]).toArray := by
  apply Array.ext'
  simp [hi, List.map_set, W]
 rw [e] at h
 exact h
theorem HashAt.put8 {w : World} {b : Nat} {a0 a1 a2 a3 a4 a5 a6 a7 : Nat} {rest : Value} {cnt : Int} (hh : HashAt w b [a0, a1, a2, a3, a4, a5, a6, a7] rest cnt) (u0 u1 u2 u3 u4 u5 u6 u7 : Nat) :
  HashAt ((((((((w.setCell ⟨b, 0, none⟩ (.int .u32 (u0 : Int))).setCell ⟨b, 1, none⟩ (.int .u32 (u1 : Int))).setCell ⟨b, 2, none⟩ (.int .u32 (u2 : Int))).setCell ⟨b, 3, none⟩ (.int .u32 (u3 : Int))).setCell ⟨b, 4, none⟩ (.int .u32 (u4 : Int))).setCell ⟨b, 5, none⟩ (.int .u32 (u5 : Int))).setCell ⟨b, 6, none⟩ (.int .u32 (u6 : Int))).setCell ⟨b, 7, none⟩ (.int .u32 (u7 : Int))) b [u0, u1, u2, u3, u4, u5, u6, u7] rest cnt :=
 ((((((((hh.put 0 u0 (by simp)).put 1 u1 (by simp)).put 2 u2 (by simp)).put 3 u3 (by simp)).put 4 u4 (by simp)).put 5 u5 (by simp)).put 6 u6 (by simp)).put 7 u7 (by simp))
theorem YSl.of {w : World} {B n b off : Nat} {bs : List Nat} (hl : bs.length = n) (hb : b < B) (h : ∀ k, k < n → w.cell? ⟨b, off + k, none⟩ = some (.int .u8 (bs.getD k 0 : Nat))) : YSl w B (some ⟨b, off, none⟩) n bs := by
 refine ⟨by rw [flat_len byV_len, hl], fun hn => ⟨b, off, rfl, hb, fun j u hu => ?_⟩⟩
 have hj : j < bs.length := by
  have := (List.getElem?_eq_some_iff.1 hu).1
  rw [flat_len byV_len] at this
  omega
 have e := flat_get byV_len 0 bs (k := j) (j := 0) hj (by decide)
 rw [Nat.mul_one, Nat.add_zero] at e
 rw [e] at hu
 injection hu with hu
 rw [← hu]
 exact h j (by omega)
/-- How long a slice in a cell is. -/
def lenC : Option Value → Nat
 | some (.slice _ n _) => n
 | _ => 0
theorem byteInfo : (Tryz.prog.info? 5).map (fun i => (i.zero, i.size, i.bytes)) = some (some (.int .u8 0), 1, 1) := by kernel_rfl
theorem HashAt.rest {w : World} {b : Nat} {a0 a1 a2 a3 a4 a5 a6 a7 : Nat} {rest : Value} {cnt : Int} (hh : HashAt w b [a0, a1, a2, a3, a4, a5, a6, a7] rest cnt) (v : Value) :
  HashAt (w.setCell ⟨b, 8, none⟩ v) b [a0, a1, a2, a3, a4, a5, a6, a7] v cnt := heap_setCell_same w b 8 _ _ v hh
theorem YSl.farKeep {w w' : World} {B N n : Nat} {A : Option Addr} {bs : List Nat} (h : YSl w B A n bs) (hf : Far N A) (hk : ∀ p : Addr, N ≤ p.block → p.block < B → w'.cell? p = w.cell? p) : YSl w' B A n bs :=
 ⟨Sl.len h, fun hn => by
  obtain ⟨b, off, e, hb, hc⟩ := Sl.cells h hn
  exact ⟨b, off, e, hb, fun j u hu => (hk ⟨b, off + j, none⟩ (hf _ _ _ e) hb).trans (hc j u hu)⟩⟩
theorem far_set {w : World} {b i : Nat} {v : Value} {p : Addr} (h : b < p.block) : (w.setCell ⟨b, i, none⟩ v).cell? p = w.cell? p :=
 World.cell?_setCell_other w ⟨b, i, none⟩ p v (fun e => by subst e; exact absurd h (Nat.lt_irrefl b))
theorem far8 {w : World} {b : Nat} {p : Addr} (h : b < p.block) (u0 u1 u2 u3 u4 u5 u6 u7 : Nat) :
  ((((((((w.setCell ⟨b, 0, none⟩ (.int .u32 (u0 : Int))).setCell ⟨b, 1, none⟩ (.int .u32 (u1 : Int))).setCell ⟨b, 2, none⟩ (.int .u32 (u2 : Int))).setCell ⟨b, 3, none⟩ (.int .u32 (u3 : Int))).setCell ⟨b, 4, none⟩ (.int .u32 (u4 : Int))).setCell ⟨b, 5, none⟩ (.int .u32 (u5 : Int))).setCell ⟨b, 6, none⟩ (.int .u32 (u6 : Int))).setCell ⟨b, 7, none⟩ (.int .u32 (u7 : Int))).cell? p = w.cell? p := by
 rw [far_set h, far_set h, far_set h, far_set h, far_set h, far_set h, far_set h, far_set h]
theorem below8 {B : Nat} {a w : World} {b : Nat} (hb : Below B a w) (h : B ≤ b) (u0 u1 u2 u3 u4 u5 u6 u7 : Nat) :
  Below B a ((((((((w.setCell ⟨b, 0, none⟩ (.int .u32 (u0 : Int))).setCell ⟨b, 1, none⟩ (.int .u32 (u1 : Int))).setCell ⟨b, 2, none⟩ (.int .u32 (u2 : Int))).setCell ⟨b, 3, none⟩ (.int .u32 (u3 : Int))).setCell ⟨b, 4, none⟩ (.int .u32 (u4 : Int))).setCell ⟨b, 5, none⟩ (.int .u32 (u5 : Int))).setCell ⟨b, 6, none⟩ (.int .u32 (u6 : Int))).setCell ⟨b, 7, none⟩ (.int .u32 (u7 : Int))) :=
 (((((((hb.setCell (show B ≤ b from h) _).setCell (show B ≤ b from h) _).setCell (show B ≤ b from h) _).setCell (show B ≤ b from h) _).setCell (show B ≤ b from h) _).setCell (show B ≤ b from h) _).setCell (show B ≤ b from h) _).setCell (show B ≤ b from h) _
theorem size8 (w : World) (b u0 u1 u2 u3 u4 u5 u6 u7 : Nat) :
  ((((((((w.setCell ⟨b, 0, none⟩ (.int .u32 (u0 : Int))).setCell ⟨b, 1, none⟩ (.int .u32 (u1 : Int))).setCell ⟨b, 2, none⟩ (.int .u32 (u2 : Int))).setCell ⟨b, 3, none⟩ (.int .u32 (u3 : Int))).setCell ⟨b, 4, none⟩ (.int .u32 (u4 : Int))).setCell ⟨b, 5, none⟩ (.int .u32 (u5 : Int))).setCell ⟨b, 6, none⟩ (.int .u32 (u6 : Int))).setCell ⟨b, 7, none⟩ (.int .u32 (u7 : Int))).heap.size = w.heap.size := by simp
theorem RoundsAt.low {w w' : World} {B : Nat} (h : RoundsAt w) (hl : 1 < B) (hb : Below B w w') : RoundsAt w' := by
 obtain ⟨T, fr, h1, h2⟩ := h
 exact ⟨T, fr, (hb.block _ hl).trans h1, Nat.lt_of_lt_of_le h2 hb.size⟩
theorem getD_drop (bs : List Nat) (a k : Nat) : (bs.drop a).getD k 0 = bs.getD (a + k) 0 := by simp [List.getD_eq_getElem?_getD]
/-- The slice without its first 64 bytes. -/
theorem YSl.shift {w : World} {B m : Nat} {G : Option Addr} {bs : List Nat} (h : YSl w B G m bs) (hm : 64 ≤ m) (G' : Option Addr) (hG : 64 < m → ∀ b o, G = some ⟨b, o, none⟩ → G' = some ⟨b, o + 64, none⟩) : YSl w B G' (m - 64) (bs.drop 64) := by
 have hl := YSl.len1 h
 by_cases h0 : m = 64
 ·have e : bs.drop 64 = [] := by simp; omega
  rw [e, h0]
  exact Sl.nil_
 ·obtain ⟨b, off, rfl, hb, hc⟩ := YSl.at1 h (by omega)
  rw [hG (by omega) b off rfl]
  refine YSl.of (by simp; omega) hb fun k hk => ?_
  rw [getD_drop, show off + 64 + k = off + (64 + k) by omega]
  exact hc (64 + k) (by omega)
theorem far_if {N c : Nat} {G : Option Addr} (h : Far N G) : Far N (if c = 64 then G else Option.map (fun x => (⟨x.block, x.off + 64, none⟩ : Addr)) G) := by
 split
 ·exact h
 ·rintro b o s e
  cases G with
  | none => simp at e
  | some g =>
   simp only [Option.map_some, Option.some.injEq, Addr.mk.injEq] at e
   exact e.1 ▸ h g.block g.off g.spot rfl
theorem drop64 (bs : List Nat) (k : Nat) : (bs.drop (64 * k)).drop 64 = bs.drop (64 * (k + 1)) := by
 rw [List.drop_drop, Nat.mul_add, Nat.mul_one]
set_option maxHeartbeats 4000000 in
set_option maxRecDepth 100000 in
theorem write_any (b : Nat) (s : List Nat) (hs : s.length = 8) (hsm : Small s) (bs : List Nat) (A : Option Addr) (n c : Nat) (w : World) (hh : HashAt w b s (.slice none 0 0) 0) (h : YSl w b A n bs) (hn : n ≤ 1000000) (hby : ∀ x ∈ bs, x < 256) (hg : RoundsAt w) (hgb : 1 < b) :
  Calls Tryz.prog 113 #[.pointer (some ⟨b, 0, none⟩), .slice A n c] w (fun e w' => e = .returned (.tuple #[]) ∧ Below b w w' ∧ ∃ G c' v0 v1 v2 v3 v4 v5 v6 v7, blocksN s bs (n / 64) = [v0, v1, v2, v3, v4, v5, v6, v7] ∧ HashAt w' b [v0, v1, v2, v3, v4, v5, v6, v7] (.slice G (n % 64) c') n ∧ YSl w' w'.heap.size G (n % 64) (bs.drop (64 * (n / 64)))) := by
 obtain ⟨a0, a1, a2, a3, a4, a5, a6, a7, rfl⟩ := eight hs
 obtain ⟨h8, h9, hfr⟩ := hh.w
 have f9 := hfr 9
 have f8 := hfr 8
 have e1 : IntKind.i64.wrap ((n : Int)) = (n : Int) := by rw [IntKind.wrap_i64]; omega
 go_enter Tryz.func113, Tryz.ntmps113
 have hb : b < w.heap.size := (Array.getElem?_eq_some_iff.1 hh).1
 have B1 : Below b w (w.setCell ⟨b, 9, none⟩ (.int .i64 n)) := (Below.refl b w).setCell (show b ≤ b from Nat.le_refl b) _
 have HY := aside (Sl.below h B1)
 have HH : Hid (HashAt (w.setCell ⟨b, 9, none⟩ (.int .i64 n)) b [a0, a1, a2, a3, a4, a5, a6, a7] (.slice none 0 0) n) := aside (by
  have := heap_setCell_same w b 9 _ _ (.int .i64 n) hh
  exact this)
 have h1 : ∀ u ∈ bs.flatMap byV, u.oneCell' = true := by
  intro u hu
  obtain ⟨x, -, hx⟩ := List.mem_flatMap.1 hu
  simp only [byV, List.mem_singleton] at hx
  rw [hx]; rfl
 have HB1 := aside B1
 have H1 := aside h1
 have HHo := aside hh
 have HYo := aside h
 have HSm := aside hsm
 have HBy := aside hby
 have HG := aside hg
 have HGb := aside hgb
 clear B1 h1 hh h hsm hby hg hgb
 go_wp2_with (first
  | (at_builtin; refine wpList_concat rfl (.tmp 17) (.tmp 18) 67 rfl w.heap.size (.int .u8 0) 1 1 Tryz.underlying67 byteInfo rfl (by decide) _ 0 [] rfl (⟨by simp, .inl ⟨rfl, rfl⟩⟩) b A n c _ rfl HY.out H1.out (by omega) (by unfold maxLen; omega) (by simp) ?_; intro G cg w2 hc2 hc2' hown hb2 hg2; simp only [Nat.zero_add, List.nil_append] at hown; have hq : HashAt w2 b [a0, a1, a2, a3, a4, a5, a6, a7] (.slice none 0 0) n := (hb2.block b hb).trans HH.out; have k8 := hq.w.1; have kf := hq.w.2.2 8; have HQ := aside hq; have HO := aside hown; have HB2 := aside hb2; clear hq hown hb2 hg2)
  | fail)
 go_loopw [] (fun wr => ∃ (k m : Nat) (G' : Option Addr) (c' : Nat) (v0 v1 v2 v3 v4 v5 v6 v7 : Nat), m + 64 * k = n ∧ Hid (blocksN [a0, a1, a2, a3, a4, a5, a6, a7] bs k = [v0, v1, v2, v3, v4, v5, v6, v7]) ∧ Hid (HashAt wr b [v0, v1, v2, v3, v4, v5, v6, v7] (.slice G' m c') n) ∧ Hid (YSl wr wr.heap.size G' m (bs.drop (64 * k))) ∧ m ≤ c' ∧ Hid (Far w.heap.size G') ∧ Hid (Below b w wr)) (fun wr => lenC (wr.cell? ⟨b, 8, none⟩))
 case atStart =>
  refine ⟨0, n, G, cg, a0, a1, a2, a3, a4, a5, a6, a7, by omega, aside rfl, aside (HQ.out.rest _), ?_, by omega, aside (far_own HO.out), aside ((HB1.out.trans (HB2.out.mono (Nat.le_of_lt hb))).setCell (show b ≤ b from Nat.le_refl b) _)⟩
  have h0 : YSl w2 w2.heap.size G n bs := Sl.own HO.out
  exact aside ((YSl.farKeep h0 (far_own HO.out) (fun p h1 h2 => far_set (show b < p.block by omega))).more (by simp))
 case round =>
  obtain ⟨k, m, G1, c1, v0, v1, v2, v3, v4, v5, v6, v7, hm, HV, HH1, HY1, hc1, HF1, HB3⟩ := hrel
  obtain ⟨⟨q0, q1, q2, q3, q4, q5, q6, q7⟩, -⟩ := HH1.out.cs
  have q8 := HH1.out.w.1
  by_cases m64 : 64 ≤ m
  ·have m1 : (64 : Int) ≤ (m : Int) := by omega
   have hm64 : m ≥ 64 := m64
   have HRg : Hid (RoundsAt wr) := aside (HG.out.low HGb.out HB3.out)
   have HSv : Hid (Small [v0, v1, v2, v3, v4, v5, v6, v7]) := aside (by rw [← HV.out]; exact blocksN_small _ HSm.out _)
   have HBb : Hid (∀ x ∈ bs.drop (64 * k), x < 256) := aside (fun x hx => HBy.out x (List.mem_of_mem_drop hx))
   have HYd : Hid (YSl wr.drew wr.drew.heap.size G1 m (bs.drop (64 * k))) := aside (FSl.drewN HY1.out 1)
   have HRd : Hid (RoundsAt wr.drew) := aside HRg.out
   have hbr : b < wr.heap.size := (Array.getElem?_eq_some_iff.1 HH1.out).1
   have HL := aside (show lenC (wr.cell? ⟨b, 8, none⟩) = m by rw [q8]; rfl)
   go_wp2_with fail
   go_region_with (first
    | (refine (block_eight (bs.drop (64 * k)) G1 m c1 _ HYd.out m64 HBb.out HSv.out HRd.out).mono ?_; rintro e w' ⟨u0, u1, u2, u3, u4, u5, u6, u7, hu, rfl, hbw⟩; have hq' : HashAt w' b [v0, v1, v2, v3, v4, v5, v6, v7] (.slice G1 m c1) n := (hbw.block b hbr).trans HH1.out; obtain ⟨⟨t0, t1, t2, t3, t4, t5, t6, t7⟩, g0, g1, g2, g3, g4, g5, g6, g7⟩ := hq'.cs)
    | fail)
   all_goals have HN := aside (HashAt.put8 ((hbw.block b hbr).trans HH1.out : HashAt w' b [v0, v1, v2, v3, v4, v5, v6, v7] (.slice G1 m c1) n) u0 u1 u2 u3 u4 u5 u6 u7)
   all_goals have HBz := aside (below8 ((HB3.out.trans (below_drawn (Below.refl b wr) 1)).trans (hbw.mono (Nat.le_of_lt hbr))) (Nat.le_refl b) u0 u1 u2 u3 u4 u5 u6 u7)
   all_goals have HYz := aside (((YSl.farKeep HY1.out HF1.out (fun p h1 h2 => (far8 (w := w') (show b < p.block by omega) u0 u1 u2 u3 u4 u5 u6 u7).trans (hbw.cell h2))).more hbw.size).more (Nat.le_of_eq (size8 w' b u0 u1 u2 u3 u4 u5 u6 u7).symm))
   all_goals generalize ((((((((w'.setCell ⟨b, 0, none⟩ (.int .u32 (u0 : Int))).setCell ⟨b, 1, none⟩ (.int .u32 (u1 : Int))).setCell ⟨b, 2, none⟩ (.int .u32 (u2 : Int))).setCell ⟨b, 3, none⟩ (.int .u32 (u3 : Int))).setCell ⟨b, 4, none⟩ (.int .u32 (u4 : Int))).setCell ⟨b, 5, none⟩ (.int .u32 (u5 : Int))).setCell ⟨b, 6, none⟩ (.int .u32 (u6 : Int))).setCell ⟨b, 7, none⟩ (.int .u32 (u7 : Int))) = wz at HN HBz HYz ⊢
   all_goals have n8 := HN.out.w.1
   all_goals have n8f := HN.out.w.2.2 8
   all_goals have hl : (64 : Int) ≤ (c1 : Int) := by omega
   all_goals go_wp2_with fail
   all_goals refine ⟨⟨k + 1, m - 64, _, c1 - 64, u0, u1, u2, u3, u4, u5, u6, u7, by omega, aside (by show blockL (blocksN _ bs k) _ = _; rw [HV.out]; exact hu), aside (HN.out.rest _), ?_, by omega, aside (far_if HF1.out), aside (HBz.out.setCell (show b ≤ b from Nat.le_refl b) _)⟩, ?_⟩
   all_goals first
    | (rw [← drop64]; exact aside ((YSl.farKeep (YSl.shift HYz.out m64 _ (fun h b o e => by rw [if_neg (by omega), e]; rfl)) (far_if HF1.out) (fun p h1 h2 => far_set (show b < p.block by omega))).more (by simp)))
    | (rw [(HN.out.rest _).w.1, HL.out]; show m - 64 < m; omega)
  ·have m1 : ((64 : Int) ≤ (m : Int)) = False := by simp only [eq_iff_iff, iff_false]; omega
   obtain rfl : m = n % 64 := by omega
   obtain rfl : k = n / 64 := by omega
   go_wp2
   refine bodyPost_end (results_none rfl _ _ _) rfl ?_
   exact ⟨rfl, HB3.out, G1, c1, v0, v1, v2, v3, v4, v5, v6, v7, HV.out, HH1.out, HY1.out⟩
end Go.Proofs.YtbpabjhcjffkmaaGreatDoor

/- Digests: a hasher tells the digest: the walk. Conditions: named in each theorem. -/
namespace Go.Proofs.YtbpabjhcjffkmaaGreatDoor
open Go.RowKit Go.ChangeShapes Go.WideShapes Go.ChangeAt

/-- How long a slice is. -/
def lenV : Value → Nat
 | .slice _ n _ => n
 | _ => 0
/-- Bytes in a row. -/
def rowY (l : List Nat) : Array Value := (l.map fun (x : Nat) => Value.int .u8 (x : Int)).toArray
theorem rowY_size (l : List Nat) : (rowY l).size = l.length := by simp [rowY]
theorem rowY_set (l : List Nat) (j x : Nat) : (rowY l).setIfInBounds j (.int .u8 (x : Int)) = rowY (l.set j x) := by
 apply Array.ext'
 simp [rowY, List.map_set]
theorem rowY_one (l : List Nat) : (rowY l).all (·.oneCell') = true := by simp [rowY, Value.oneCell']
theorem outL_len : ∀ s : List Nat, (outL s).length = s.length * 4
 | [] => rfl
 | x :: r => by
  have ih := outL_len r
  unfold outL at ih ⊢
  rw [List.flatMap_cons, List.length_append, ih, List.length_cons]
  simp
  omega
theorem outL_get : ∀ (s : List Nat) (i j : Nat), i < s.length → j < 4 → (outL s)[4 * i + j]? = [s.getD i 0 / 16777216 % 256, s.getD i 0 / 65536 % 256, s.getD i 0 / 256 % 256, s.getD i 0 % 256][j]?
 | x :: r, 0, j, _, hj => by
  unfold outL
  rw [List.flatMap_cons, Nat.mul_zero, Nat.zero_add, List.getElem?_append_left (by simpa using hj)]
  rfl
 | x :: r, i + 1, j, hi, hj => by
  have ih := outL_get r i j (by simpa using hi) hj
  unfold outL at ih ⊢
  rw [List.flatMap_cons, List.getElem?_append_right (by simp; omega)]
  rw [show 4 * (i + 1) + j - [x / 16777216 % 256, x / 65536 % 256, x / 256 % 256, x % 256].length = 4 * i + j by simp; omega, ih]
  rfl
/-- The first q bytes of a state's stand there. -/
def OutAt (w : World) (b q : Nat) (s : List Nat) : Prop := w.heap[b]? = some (.cells (rowY ((outL s).take q ++ List.replicate (32 - q) 0)) 23 (0, 0))
theorem OutAt.at_ {w : World} {b q : Nat} {s : List Nat} (h : OutAt w b q s) (hs : s.length = 8) (hq : q < 32) : w.cell? ⟨b, q, none⟩ = some (.int .u8 0) ∧ w.frozen? ⟨b, q, none⟩ = false := by
 refine ⟨?_, frozen_of_row w b q _ _ h⟩
 rw [cell_of_row w b q _ _ _ h]
 have hl : ((outL s).take q).length = q := by rw [List.length_take, outL_len, hs]; omega
 unfold rowY
 rw [List.getElem?_toArray, List.getElem?_map, List.getElem?_append_right (by omega), hl, Nat.sub_self, List.getElem?_replicate, if_pos (by omega)]
 rfl
theorem OutAt.put {w : World} {b q x : Nat} {s : List Nat} {X : Int} (h : OutAt w b q s) (hs : s.length = 8) (hq : q < 32) (hx : (outL s)[q]? = some x) (hX : X = (x : Int)) : OutAt (w.setCell ⟨b, q, none⟩ (.int .u8 X)) b (q + 1) s := by
 subst hX
 have := heap_setCell_same w b q _ _ (.int .u8 (x : Int)) h
 rw [rowY_set] at this
 unfold OutAt
 have hl : ((outL s).take q).length = q := by rw [List.length_take, outL_len, hs]; omega
 have e : (((outL s).take q ++ List.replicate (32 - q) 0).set q x) = (outL s).take (q + 1) ++ List.replicate (32 - (q + 1)) 0 := by
  rw [List.set_append_right _ _ (by omega), hl, Nat.sub_self, show 32 - q = (32 - (q + 1)) + 1 by omega, List.replicate_succ, List.set_cons_zero, List.take_add_one, hx, List.append_assoc]
  rfl
 rw [← e]
 exact this
theorem index_row8 {cs : Array Value} {k : Nat} {v : Value} (hk : k < 8) (h : cs[k]? = some v) (w : World) : (Instr.index 172 (.agg cs) (.int .i64 (k : Int))).run Tryz.prog w = .ok v w := by
 simp [Instr.index, run_underlying Tryz.underlying172, asIntOf, go_sem, h]
 intro h1
 omega
/-- A row of bytes of the call's own. -/
def YRow (w : World) (base : Nat) (v : Value) (n : Nat) (bs : List Nat) : Prop := w.ownsRow base 5 1 v n (bs.flatMap byV)
theorem YRow.push {w : World} {base : Nat} {v : Value} {n n' : Nat} {bs : List Nat} {x : Nat} {X : Int} (hx : X = (x : Int)) (hn : n = n') (h : w.ownsRow base 5 1 v n (bs.flatMap byV ++ (#[Value.int .u8 X] : Array Value).toList)) : YRow w base v n' (bs ++ [x]) := by
 subst hn
 unfold YRow
 subst hx
 rw [List.flatMap_append]
 exact h
theorem longL_small (n : Nat) : ∀ x ∈ longL n, x < 256 := by
 intro x hx
 simp only [longL, List.mem_cons, List.not_mem_nil, or_false] at hx
 rcases hx with rfl | rfl | rfl | rfl | rfl | rfl | rfl | rfl <;> exact Nat.mod_lt _ (by decide)
theorem tailL_small {rest : List Nat} (n : Nat) (h : ∀ x ∈ rest, x < 256) : ∀ x ∈ tailL rest n, x < 256 := by
 intro x hx
 simp only [tailL, List.mem_append, List.mem_singleton] at hx
 rcases hx with ((hx | rfl) | hx) | hx
 ·exact h x hx
 ·decide
 ·rw [(List.mem_replicate.1 hx).2]; decide
 ·exact longL_small n x hx
set_option maxHeartbeats 4000000 in
set_option maxRecDepth 100000 in
theorem hsum_any (b : Nat) (v0 v1 v2 v3 v4 v5 v6 v7 : Nat) (hsm : Small [v0, v1, v2, v3, v4, v5, v6, v7]) (rest : List Nat) (G : Option Addr) (r c n : Nat) (w : World) (hh : HashAt w b [v0, v1, v2, v3, v4, v5, v6, v7] (.slice G r c) n) (h : YSl w w.heap.size G r rest) (hr : r < 64) (hn : n ≤ 1000000) (hby : ∀ x ∈ rest, x < 256) (hg : RoundsAt w) :
  Calls Tryz.prog 114 #[.pointer (some ⟨b, 0, none⟩)] w (fun e w' => e = .returned (.agg (rowY (outL (blocksN [v0, v1, v2, v3, v4, v5, v6, v7] (tailL rest n) ((tailL rest n).length / 64))))) ∧ Below w.heap.size w w') := by
 have hlen := YSl.len1 h
 have h1 : ∀ u ∈ rest.flatMap byV, u.oneCell' = true := by
  intro u hu
  obtain ⟨x, -, hx⟩ := List.mem_flatMap.1 hu
  simp only [byV, List.mem_singleton] at hx
  rw [hx]; rfl
 have hb : b < w.heap.size := (Array.getElem?_eq_some_iff.1 hh).1
 have HH := aside hh
 have HY := aside h
 have HSm := aside hsm
 have HBy := aside hby
 have HG := aside hg
 have H1 := aside h1
 clear hh h hsm hby hg h1
 go_enter Tryz.func114, Tryz.ntmps114
 go_upto_region 1 with fail
 have F1 := aside (Below.heap_alloc w (.cells (rowY (List.replicate 32 0)) 23))
 have B1 : Hid (Below w.heap.size w (w.alloc (.cells (rowY (List.replicate 32 0)) 23))) := aside ((Below.refl _ _).alloc (Nat.le_refl _) _)
 have D1 : Hid ((w.alloc (.cells (rowY (List.replicate 32 0)) 23)).heap[w.heap.size]? = some (.cells (rowY (List.replicate 32 0)) 23 (0, 0))) := aside (heap_alloc_new _ _)
 have Hz1 : Hid ((w.alloc (.cells (rowY (List.replicate 32 0)) 23)).heap.size = w.heap.size + 1) := aside (by simp)
 obtain ⟨B0, hB0⟩ : ∃ B0, B0 = w.heap.size := ⟨_, rfl⟩
 have EB := aside hB0
 change Code.wp _ _ _ _ (w.alloc (.cells (rowY (List.replicate 32 0)) 23))
 simp only [← hB0] at D1 Hz1 hb ⊢
 generalize w.alloc (.cells (rowY (List.replicate 32 0)) 23) = w1 at B1 D1 Hz1 F1 ⊢
 have HH1 : Hid (HashAt w1 b [v0, v1, v2, v3, v4, v5, v6, v7] (.slice G r c) n) := aside ((B1.out.block b (by rw [← EB.out]; exact hb)).trans HH.out)
 have HY1 : Hid (YSl w1 w.heap.size G r rest) := aside (Sl.below HY.out B1.out)
 have hb1 : b < w1.heap.size := by rw [Hz1.out]; omega
 have q8 := HH1.out.w.1
 clear hB0 F1
 go_upto_region 3 with (first
  | (at_builtin; refine wpList_concat rfl (.const (.slice none 0 0)) (.tmp 12) 67 rfl w1.heap.size (.int .u8 0) 1 1 Tryz.underlying67 byteInfo rfl (by decide) _ 0 [] rfl (⟨by simp, .inl ⟨rfl, rfl⟩⟩) w.heap.size G r c _ rfl HY1.out H1.out (by omega) (by unfold maxLen; omega) (by simp) ?_; intro G2 c2 w2 hc2 hc2' hown hb2 hg2; simp only [Nat.zero_add, List.nil_append] at hown hc2; have HO2 := aside hown; have HB2 := aside hb2; clear hown hb2 hg2)
  | (at_builtin; refine wpList_push rfl (.tmp 14) (.tmp 15) 67 rfl w1.heap.size (.int .u8 0) 1 1 Tryz.underlying67 byteInfo rfl (by decide) _ r _ rfl rfl rfl (by decide) HO2.out (by omega) (by unfold maxLen; omega) HB2.out.size ?_; intro G3 c3 w3 hc3 hc3' hown hb3 hz3 hg3; have HO3 : Hid (YRow w3 w1.heap.size (.slice G3 (r + 1) c3) (r + 1) (rest ++ [128])) := aside (YRow.push rfl rfl hown); have HB3 := aside (HB2.out.trans hb3); clear hown hb3 hg3 hz3)
  | fail)
 have hz : zerosOf r < 64 := by unfold zerosOf; omega
 clear HO2 HB2 HH HY
 go_loopw [3] (fun v3 wr => ∃ (k m : Nat) (A : Option Addr) (c : Nat), m = r + 1 + k ∧ k ≤ zerosOf r ∧ v3 = .slice A m c ∧ m ≤ c ∧ Hid (YRow wr w1.heap.size (.slice A m c) m (rest ++ [128] ++ List.replicate k 0)) ∧ Hid (Below w1.heap.size w1 wr)) (fun v3 _ => r + 1 + zerosOf r - lenV v3)
 case atStart => exact ⟨0, r + 1, G3, c3, by omega, by omega, rfl, by omega, aside (by simpa using HO3.out), HB3⟩
 case round =>
  clear HO3 HB3 hc3 hc3'
  obtain ⟨k, m, G4, c4, hm, hk, rfl, hc4, HO4, HB4⟩ := hrel
  by_cases k1 : k < zerosOf r
  ·have e1 : (((m : Int) % 64) != 56) = true := by
    have := zeros_not k1
    simp only [bne_iff_ne, ne_eq]
    omega
   have hm1 : m ≤ 130 := by omega
   have Hm := aside hm
   clear hm
   go_wp2_with (first
    | (at_builtin; refine wpList_push rfl (.tmp 21) (.tmp 22) 67 rfl w1.heap.size (.int .u8 0) 1 1 Tryz.underlying67 byteInfo rfl (by decide) _ m _ rfl rfl rfl (by decide) HO4.out (by omega) (by unfold maxLen; omega) HB4.out.size ?_; intro G5 c5 w5 hc5 hc5' hown hb5 hz5 hg5; have HO5 : Hid (YRow w5 w1.heap.size (.slice G5 (m + 1) c5) (m + 1) (rest ++ [128] ++ List.replicate k 0 ++ [0])) := aside (YRow.push rfl rfl hown); have HB5 := aside (HB4.out.trans hb5); clear hown hb5 hg5 hz5)
    | fail)
   have hm := Hm.out
   refine ⟨⟨k + 1, m + 1, G5, c5, by omega, by omega, rfl, hc5, aside ?_, HB5⟩, by show r + 1 + zerosOf r - (m + 1) < r + 1 + zerosOf r - m; omega⟩
   rw [List.replicate_succ', ← List.append_assoc]
   exact HO5.out
  ·obtain rfl : k = zerosOf r := by omega
   have e1 : (((m : Int) % 64) != 56) = false := by
    have := zeros_mod r
    simp only [bne_eq_false_iff_eq]
    omega
   have HT : Hid (YRow wr w1.heap.size (.slice G4 m c4) m (rest ++ [128] ++ List.replicate (zerosOf rest.length) 0)) := aside (by rw [hlen]; exact HO4.out)
   have hm1 : m ≤ 130 := by omega
   have hm8 : (m + 8) % 64 = 0 := by
    have := zeros_mod r
    omega
   have Hm := aside hm
   clear hm k1 hk HO4
   have q9 : wr.cell? ⟨b, 9, none⟩ = some (.int .i64 n) := (HB4.out.cell (p := ⟨b, 9, none⟩) hb1).trans HH1.out.w.2.1
   go_upto_region 6 with fail
   go_loopw [3, 4] (fun v3 v4 wr => ∃ (k m' : Nat) (A : Option Addr) (c : Nat), m' = m + k ∧ k ≤ 8 ∧ v3 = .slice A m' c ∧ v4 = .int .i64 (7 - k) ∧ m' ≤ c ∧ Hid (YRow wr w1.heap.size (.slice A m' c) m' (rest ++ [128] ++ List.replicate (zerosOf rest.length) 0 ++ (longL n).take k)) ∧ Hid (Below w1.heap.size w1 wr)) (fun v3 _ _ => m + 8 - lenV v3)
   case atStart => exact ⟨0, m, G4, c4, by omega, by omega, rfl, rfl, hc4, aside (by simpa using HT.out), HB4⟩
   case round =>
    clear HT HB4 hc4 q9
    obtain ⟨k, m2, G5, c5, hm2, hk, rfl, rfl, hc5, HO5, HB5⟩ := hrel
    have q9 : wr.cell? ⟨b, 9, none⟩ = some (.int .i64 n) := (HB5.out.cell (p := ⟨b, 9, none⟩) hb1).trans HH1.out.w.2.1
    have Hm2 := aside hm2
    have hm3 : m2 ≤ 140 := by omega
    clear hm2
    by_cases k8 : k < 8
    ·obtain ⟨x, hx⟩ : ∃ x, x = (longL n).getD k 0 := ⟨_, rfl⟩
     have HX := aside hx
     obtain ⟨k2, hk2⟩ : ∃ k2, k2 = k + 1 := ⟨_, rfl⟩
     have HTk : Hid ((longL n).take k2 = (longL n).take k ++ [x]) := aside (by rw [hx, hk2]; exact take_next 0 (by simpa [longL] using k8))
     have HK2 := aside hk2
     clear hx hk2
     rcases (show k = 0 ∨ k = 1 ∨ k = 2 ∨ k = 3 ∨ k = 4 ∨ k = 5 ∨ k = 6 ∨ k = 7 by omega) with rfl | rfl | rfl | rfl | rfl | rfl | rfl | rfl
     all_goals
      clear k8 hk
      go_wp2_with (first
       | (at_builtin; refine wpList_push rfl (.tmp 28) (.tmp 39) 67 rfl w1.heap.size (.int .u8 0) 1 1 Tryz.underlying67 byteInfo rfl (by decide) _ m2 _ rfl rfl rfl (by simp [Value.oneCell']) HO5.out (by omega) (by unfold maxLen; omega) HB5.out.size ?_; intro G6 c6 w6 hc6 hc6' hown hb6 hz6 hg6; have HO6 := aside (YRow.push (x := x) (by have hx := HX.out; simp only [longL, List.getD_cons_succ, List.getD_cons_zero] at hx; simp only [hx]; omega) rfl hown); have HB6 := aside (HB5.out.trans hb6); clear hown hb6 hg6 hz6)
       | fail)
      have hm2 := Hm2.out
      have hk2 := HK2.out
      refine ⟨⟨k2, m2 + 1, G6, c6, by omega, by omega, rfl, ?_, hc6, aside ?_, HB6⟩, by show m + 8 - (m2 + 1) < m + 8 - m2; omega⟩
      ·rw [hk2]
       rfl
      ·rw [HTk.out, ← List.append_assoc]
       exact HO6.out
    ·obtain rfl : k = 8 := by omega
     obtain ⟨T, hT⟩ : ∃ T, T = tailL rest n := ⟨_, rfl⟩
     have HT : Hid (YRow wr w1.heap.size (.slice G5 m2 c5) m2 T) := aside (by rw [hT]; exact HO5.out)
     have hm64 : m2 % 64 = 0 := by
      have := Hm2.out
      omega
     have HYT : Hid (YSl wr wr.heap.size G5 m2 T) := aside (Sl.own HT.out)
     have HTl := aside (YSl.len1 HYT.out)
     have HTt := aside hT
     have HTb : Hid (∀ x ∈ T, x < 256) := aside (by rw [hT]; exact tailL_small n HBy.out)
     have HGr : Hid (RoundsAt wr) := aside (HG.out.below (B1.out.trans (HB5.out.mono (by rw [Hz1.out, EB.out]; omega))))
     have HHr : Hid (HashAt wr b [v0, v1, v2, v3, v4, v5, v6, v7] (.slice G r c) n) := aside ((HB5.out.block b hb1).trans HH1.out)
     obtain ⟨⟨t0, t1, t2, t3, t4, t5, t6, t7⟩, -⟩ := HHr.out.cs
     have R5 := RowAt.new wr 172 (List.replicate 8 0)
     have HI8 : Hid ((Tryz.prog.info? 172).map (·.size) = some (rowW [v0, v1, v2, v3, v4, v5, v6, v7]).size) := aside (by rw [rowW_size]; kernel_rfl)
     have HO8 : Hid ((rowW (List.replicate 8 0)).size = (rowW [v0, v1, v2, v3, v4, v5, v6, v7]).size) := aside (by rw [rowW_size, rowW_size]; rfl)
     obtain ⟨w4, hw4⟩ : ∃ w4, w4 = wr := ⟨_, rfl⟩
     subst hw4
     clear hT HO5 HT k8 hk Hm2
     go_wp2_with (first
      | (refine wpList_store_row rfl 172 (.tmp 5) (.tmp 44) rfl w4.heap.size (rowW [v0, v1, v2, v3, v4, v5, v6, v7]) rfl rfl 172 (rowW (List.replicate 8 0)) R5 HI8.out HO8.out (rowW_one _) ?_)
      | fail)
     have R6 : Hid (RowAt ((w4.alloc (.cells (rowW (List.replicate 8 0)) 172)).setRow w4.heap.size (rowW [v0, v1, v2, v3, v4, v5, v6, v7])) w4.heap.size 172 [v0, v1, v2, v3, v4, v5, v6, v7]) := aside (R5.setRow _)
     have B6 : Hid (Below w4.heap.size w4 ((w4.alloc (.cells (rowW (List.replicate 8 0)) 172)).setRow w4.heap.size (rowW [v0, v1, v2, v3, v4, v5, v6, v7]))) := aside (below_setRow ((Below.refl _ _).alloc (Nat.le_refl _) _) _ (Nat.le_refl _) _)
     have Z6 : Hid (w4.heap.size < ((w4.alloc (.cells (rowW (List.replicate 8 0)) 172)).setRow w4.heap.size (rowW [v0, v1, v2, v3, v4, v5, v6, v7])).heap.size) := aside (by simp)
     change Code.wp _ _ _ _ ((w4.alloc (.cells (rowW (List.replicate 8 0)) 172)).setRow w4.heap.size (rowW [v0, v1, v2, v3, v4, v5, v6, v7]))
     clear R5
     generalize ((w4.alloc (.cells (rowW (List.replicate 8 0)) 172)).setRow w4.heap.size (rowW [v0, v1, v2, v3, v4, v5, v6, v7])) = w6 at R6 B6 Z6 ⊢
     rw [show ∀ (a : Act) (v : Value), a.put none v = a from fun _ _ => rfl]
     go_loopw [3] (fun x3 wr => ∃ (k m' : Nat) (A : Option Addr) (c' : Nat), m' + 64 * k = m2 ∧ x3 = .slice A m' c' ∧ m' ≤ c' ∧ Hid (RowAt wr w4.heap.size 172 (blocksN [v0, v1, v2, v3, v4, v5, v6, v7] T k)) ∧ Hid (YSl wr w4.heap.size A m' (T.drop (64 * k))) ∧ Hid (Below w4.heap.size w4 wr) ∧ w4.heap.size < wr.heap.size) (fun x3 _ => lenV x3)
     case atStart => exact ⟨0, m2, G5, c5, by omega, rfl, hc5, R6, aside (Sl.below HYT.out B6.out), B6, Z6.out⟩
     case round =>
      obtain ⟨k, m5, G6, c6, hm5, rfl, hc6, HR6, HY6, HB6, hz6⟩ := hrel
      by_cases m0 : 0 < m5
      ·have m64 : 64 ≤ m5 := by omega
       have i1 : (0 : Int) < (m5 : Int) := by omega
       have i2 : (64 : Int) ≤ (m5 : Int) := by omega
       have i3 : (64 : Int) ≤ (c6 : Int) := by omega
       have HS6 : Hid ((Tryz.prog.info? 172).map (·.size) = some (rowW (blocksN [v0, v1, v2, v3, v4, v5, v6, v7] T k)).size) := aside (by rw [rowW_size, blocksN_len _ rfl]; kernel_rfl)
       have HS7 : Hid ((Tryz.prog.info? 172).map (·.size) = some (rowW (blocksN [v0, v1, v2, v3, v4, v5, v6, v7] T (k + 1))).size) := aside (by rw [rowW_size, blocksN_len _ rfl]; kernel_rfl)
       have HS8 : Hid ((rowW (blocksN [v0, v1, v2, v3, v4, v5, v6, v7] T k)).size = (rowW (blocksN [v0, v1, v2, v3, v4, v5, v6, v7] T (k + 1))).size) := aside (by rw [rowW_size, rowW_size, blocksN_len _ rfl, blocksN_len _ rfl])
       have HYw := aside (FSl.more HY6.out (Nat.le_of_lt hz6))
       have HGw : Hid (RoundsAt wr) := aside (HGr.out.below HB6.out)
       have Hm5 := aside hm5
       clear hm5
       go_wp2_with (first
        | (refine wpList_load_row rfl 172 (.tmp 5) rfl w4.heap.size rfl 172 (rowW (blocksN [v0, v1, v2, v3, v4, v5, v6, v7] T k)) (0, 0) _ HR6.out Tryz.underlying172 rfl HS6.out ?_)
        | (go_at_call 133; refine (block_any (blocksN [v0, v1, v2, v3, v4, v5, v6, v7] T k) (blocksN_len _ rfl k) (T.drop (64 * k)) G6 m5 c6 _ HYw.out m64 (fun x hx => HTb.out x (List.mem_of_mem_drop hx)) (blocksN_small _ HSm.out k) HGw.out).mono ?_; rintro e w7 ⟨rfl, hb7⟩; have HR7 : Hid (RowAt w7 w4.heap.size 172 (blocksN [v0, v1, v2, v3, v4, v5, v6, v7] T k)) := aside ((hb7.block _ hz6).trans HR6.out); have HB7 := aside hb7; clear hb7)
        | (refine wpList_store_row rfl 172 (.tmp 5) (.tmp 52) rfl w4.heap.size (rowW (blocksN [v0, v1, v2, v3, v4, v5, v6, v7] T (k + 1))) rfl rfl 172 (rowW (blocksN [v0, v1, v2, v3, v4, v5, v6, v7] T k)) HR7.out HS7.out HS8.out (rowW_one _) ?_)
        | fail)
       all_goals have hm5 := Hm5.out
       case inl =>
        refine ⟨⟨k + 1, m5 - 64, by omega, G6, 0, ⟨rfl, rfl, rfl⟩, by omega, aside (HR7.out.setRow _), aside ?_, aside (below_setRow (HB6.out.trans (HB7.out.mono (Nat.le_of_lt hz6))) _ (Nat.le_refl _) _), Nat.lt_of_lt_of_le hz6 HB7.out.size⟩, by show m5 - 64 < m5; omega⟩
        rw [← drop64]
        exact Sl.below (YSl.shift HY6.out m64 _ (fun h b o e => by omega)) (below_setRow (HB7.out.mono (Nat.le_of_lt hz6)) _ (Nat.le_refl _) _)
       case inr =>
        refine ⟨⟨k + 1, m5 - 64, by omega, _, c6 - 64, ⟨rfl, rfl, rfl⟩, by omega, aside (HR7.out.setRow _), aside ?_, aside (below_setRow (HB6.out.trans (HB7.out.mono (Nat.le_of_lt hz6))) _ (Nat.le_refl _) _), Nat.lt_of_lt_of_le hz6 HB7.out.size⟩, by show m5 - 64 < m5; omega⟩
        rw [← drop64]
        exact Sl.below (YSl.shift HY6.out m64 _ (fun h b o e => by rw [e]; rfl)) (below_setRow (HB7.out.mono (Nat.le_of_lt hz6)) _ (Nat.le_refl _) _)
      ·obtain rfl : m5 = 0 := by omega
       obtain ⟨w8, hw8⟩ : ∃ w8, w8 = wr := ⟨_, rfl⟩
       subst hw8
       have hk : k = T.length / 64 := by have := HTl.out; omega
       obtain ⟨s0, s1, s2, s3, s4, s5, s6, s7, hs⟩ := eight (blocksN_len (s := [v0, v1, v2, v3, v4, v5, v6, v7]) T rfl k)
       have hss := blocksN_small (s := [v0, v1, v2, v3, v4, v5, v6, v7]) T HSm.out k
       have HD8 : Hid (w8.heap[B0]? = some (.cells (rowY (List.replicate 32 0)) 23 (0, 0))) := aside ((HB6.out.block B0 (Nat.lt_of_lt_of_le (by rw [Hz1.out]; omega) HB5.out.size)).trans ((HB5.out.block B0 (by rw [Hz1.out]; omega)).trans D1.out))
       have HB8 : Hid (Below B0 w w8) := aside (by rw [EB.out]; exact B1.out.trans ((HB5.out.trans (HB6.out.mono HB5.out.size)).mono (by rw [Hz1.out, EB.out]; omega)))
       rw [hs] at hss HR6
       have HSS := aside hss
       have HE := aside hs
       have HK := aside hk
       have HS6 : Hid ((Tryz.prog.info? 172).map (·.size) = some (rowW [s0, s1, s2, s3, s4, s5, s6, s7]).size) := aside (by rw [rowW_size]; kernel_rfl)
       clear hss hs hk HY6 HB6 HB5 hm5 m0 hz6
       go_wp2_with (first
        | (refine wpList_load_row rfl 172 (.tmp 5) rfl w4.heap.size rfl 172 (rowW [s0, s1, s2, s3, s4, s5, s6, s7]) (0, 0) _ HR6.out Tryz.underlying172 rfl HS6.out ?_)
        | fail)
       have HO0 : Hid (OutAt w8 B0 0 [s0, s1, s2, s3, s4, s5, s6, s7]) := aside HD8.out
       clear HD8 HR6
       go_loopw [54] (fun x54 wr => ∃ (i : Nat), i ≤ 8 ∧ x54 = .int .i64 i ∧ Hid (OutAt wr B0 (4 * i) [s0, s1, s2, s3, s4, s5, s6, s7]) ∧ Hid (Below B0 w wr)) (fun x54 _ => 8 - (Go.RowKit.intOf x54).toNat)
       case atStart => exact ⟨0, by omega, rfl, HO0, HB8⟩
       case round =>
        clear HO0 HB8
        obtain ⟨i, hi, rfl, HO, HB⟩ := hrel
        by_cases i8 : i < 8
        ·obtain ⟨x, hx⟩ : ∃ x, x = [s0, s1, s2, s3, s4, s5, s6, s7].getD i 0 := ⟨_, rfl⟩
         have hidx : ∀ W, (Instr.index 172 (.agg (rowW [s0, s1, s2, s3, s4, s5, s6, s7])) (.int .i64 (i : Int))).run Tryz.prog W = .ok (.int .u32 (x : Int)) W := fun W => index_row8 i8 (by rw [hx]; exact rowW_get (by simpa using i8)) W
         have hxs : x < 4294967296 := by rw [hx]; exact HSS.out i
         have HX := aside hx
         have hi8 : (i : Int) < 8 := by omega
         have hi0 : (0 : Int) ≤ (i : Int) := by omega
         clear hx
         go_wp2_with fail
         go_loopw [58] (fun x58 wr => ∃ (j : Nat), j ≤ 4 ∧ x58 = .int .i64 j ∧ Hid (OutAt wr B0 (4 * i + j) [s0, s1, s2, s3, s4, s5, s6, s7]) ∧ Hid (Below B0 w wr)) (fun x58 _ => 4 - (Go.RowKit.intOf x58).toNat)
         case atStart => exact ⟨0, by omega, rfl, HO, HB⟩
         case round =>
          clear HO HB
          obtain ⟨j, hj, rfl, HO, HB⟩ := hrel
          by_cases j4 : j < 4
          ·obtain ⟨o0, o1⟩ := OutAt.at_ HO.out rfl (show 4 * i + j < 32 by omega)
           have HG4 : Hid ((outL [s0, s1, s2, s3, s4, s5, s6, s7])[4 * i + j]? = [x / 16777216 % 256, x / 65536 % 256, x / 256 % 256, x % 256][j]?) := aside (by rw [HX.out]; exact outL_get _ i j (by simpa using i8) j4)
           obtain ⟨q, hq⟩ : ∃ q, q = 4 * i + j := ⟨_, rfl⟩
           have HN : Hid (∀ (y : Nat) (X : Int), [x / 16777216 % 256, x / 65536 % 256, x / 256 % 256, x % 256][j]? = some y → X = (y : Int) → OutAt (wr.setCell ⟨B0, q, none⟩ (.int .u8 X)) B0 (4 * i + (j + 1)) [s0, s1, s2, s3, s4, s5, s6, s7]) := aside (fun y X h1 h2 => by rw [hq]; exact OutAt.put HO.out rfl (by omega) (HG4.out.trans h1) h2)
           rw [← hq] at o0 o1
           obtain ⟨p, hp⟩ : ∃ p, p = 4 * i := ⟨_, rfl⟩
           have hp28 : p ≤ 28 := by omega
           have g1 : 4 * (i : Int) = (p : Int) := by omega
           rw [← hp] at hq
           have hq31 : q ≤ 31 := by omega
           have HBs : Hid (∀ X : Int, Below B0 w (wr.setCell ⟨B0, q, none⟩ (.int .u8 X))) := aside (fun X => HB.out.setCell (show B0 ≤ B0 from Nat.le_refl _) _)
           clear hp HO HB HG4
           rcases (show j = 0 ∨ j = 1 ∨ j = 2 ∨ j = 3 by omega) with rfl | rfl | rfl | rfl
           case inl =>
            obtain rfl : q = p := hq
            clear hj j4
            go_wp2_with fail
            exact ⟨⟨1, by omega, rfl, aside (HN.out (x / 16777216 % 256) _ rfl (by omega)), aside (HBs.out _)⟩, by simp [Go.RowKit.intOf]⟩
           case inr.inl =>
            have g2 : (p : Int) + 1 = (q : Int) := by omega
            clear hq hj j4
            go_wp2_with fail
            exact ⟨⟨2, by omega, rfl, aside (HN.out (x / 65536 % 256) _ rfl (by simp)), aside (HBs.out _)⟩, by simp [Go.RowKit.intOf]⟩
           case inr.inr.inl =>
            have g2 : (p : Int) + 2 = (q : Int) := by omega
            clear hq hj j4
            go_wp2_with fail
            exact ⟨⟨3, by omega, rfl, aside (HN.out (x / 256 % 256) _ rfl (by simp)), aside (HBs.out _)⟩, by simp [Go.RowKit.intOf]⟩
           case inr.inr.inr =>
            have g2 : (p : Int) + 3 = (q : Int) := by omega
            clear hq hj j4
            go_wp2_with fail
            exact ⟨⟨4, by omega, rfl, aside (HN.out (x % 256) _ rfl (by simp)), aside (HBs.out _)⟩, by simp [Go.RowKit.intOf]⟩
          ·obtain rfl : j = 4 := by omega
           go_wp2_with fail
           exact ⟨⟨i + 1, by omega, by go_num, HO, HB⟩, by simp [Go.RowKit.intOf]; omega⟩
        ·obtain rfl : i = 8 := by omega
         have HD9 : Hid (wr.heap[B0]? = some (.cells (rowY (outL [s0, s1, s2, s3, s4, s5, s6, s7])) 23 (0, 0))) := aside (by
          have := HO.out
          unfold OutAt at this
          rw [List.take_of_length_le (by rw [outL_len]; simp)] at this
          simpa using this)
         have HS9 : Hid ((Tryz.prog.info? 23).map (·.size) = some (rowY (outL [s0, s1, s2, s3, s4, s5, s6, s7])).size) := aside (by rw [rowY_size, outL_len]; kernel_rfl)
         go_wp2_with (first
          | (refine wpList_load_row rfl 23 (.tmp 2) rfl B0 rfl 23 (rowY (outL [s0, s1, s2, s3, s4, s5, s6, s7])) (0, 0) _ HD9.out Tryz.underlying23 rfl HS9.out ?_)
          | (refine wpList_store_row rfl 23 (.tmp 2) (.tmp 74) rfl B0 (rowY (outL [s0, s1, s2, s3, s4, s5, s6, s7])) rfl rfl 23 (rowY (outL [s0, s1, s2, s3, s4, s5, s6, s7])) HD9.out HS9.out rfl (rowY_one _) ?_)
          | fail)
         refine bodyPost_ret (results_cell_row rfl _ _ B0 23 (rowY (outL [s0, s1, s2, s3, s4, s5, s6, s7])) (0, 0) _ rfl (setRow_heap wr B0 _ _ _ _ HD9.out) Tryz.underlying23 rfl HS9.out) rfl ?_
         refine ⟨?_, ?_⟩
         ·rw [← HTt.out, ← HK.out, HE.out]
         ·rw [← EB.out]
          exact below_setRow HB.out _ (Nat.le_refl _) _
end Go.Proofs.YtbpabjhcjffkmaaGreatDoor

/- Digests: the digest of bytes: the walk. Conditions: named in each theorem. -/
namespace Go.Proofs.YtbpabjhcjffkmaaGreatDoor
open Go.RowKit Go.ChangeShapes Go.WideShapes Go.ChangeAt

/-- A digest, as a value. -/
def digV (l : List Nat) : Value := .agg (rowY l)
set_option maxRecDepth 100000 in
theorem sha_any (bs : List Nat) (A : Option Addr) (n c : Nat) (w : World) (h : YSl w w.heap.size A n bs) (hn : n ≤ 1000000) (hby : ∀ x ∈ bs, x < 256) (hg : RoundsAt w) :
  Calls Tryz.prog 75 #[.slice A n c] w (fun e w' => e = .returned (digV (shaL bs)) ∧ Below w.heap.size w w') := by
 have hlen := YSl.len1 h
 have hr : 1 < w.heap.size := by
  obtain ⟨T, fr, -, h2⟩ := hg
  exact h2
 have HY := aside h
 have HBy := aside hby
 have HG := aside hg
 clear h hby hg
 go_enter Tryz.func75, Tryz.ntmps75
 go_wp2_with fail
 have B1 : Hid (Below w.heap.size w (w.alloc (.cells (rowY (List.replicate 32 0)) 23))) := aside ((Below.refl _ _).alloc (Nat.le_refl _) _)
 have D1 : Hid ((w.alloc (.cells (rowY (List.replicate 32 0)) 23)).heap[w.heap.size]? = some (.cells (rowY (List.replicate 32 0)) 23 (0, 0))) := aside (heap_alloc_new _ _)
 have Hz1 : Hid ((w.alloc (.cells (rowY (List.replicate 32 0)) 23)).heap.size = w.heap.size + 1) := aside (by simp)
 obtain ⟨B0, hB0⟩ : ∃ B0, B0 = w.heap.size := ⟨_, rfl⟩
 have EB := aside hB0
 change Calls _ _ _ (w.alloc (.cells (rowY (List.replicate 32 0)) 23)) _
 simp only [← hB0] at D1 Hz1 ⊢
 generalize w.alloc (.cells (rowY (List.replicate 32 0)) 23) = w0 at B1 D1 Hz1 ⊢
 clear hB0
 refine (new_hash w0).mono ?_
 rintro e w1 ⟨b, rfl, hb, hh, hb1⟩
 have HB1 := aside hb1
 have HH := aside hh
 have HG1 : Hid (RoundsAt w1) := aside (HG.out.below (B1.out.trans (hb1.mono B1.out.size)))
 have hb' : w.heap.size ≤ b := Nat.le_trans B1.out.size hb
 have HY1 : Hid (YSl w1 b A n bs) := aside ((Sl.below HY.out (B1.out.trans (hb1.mono B1.out.size))).more hb')
 have hb0 := Nat.lt_of_lt_of_le hr hb'
 clear hb1 hh hb'
 go_wp2_with fail
 refine (write_any b startL rfl start_small bs A n c w1 HH.out HY1.out hn HBy.out HG1.out hb0).mono ?_
 rintro e w2 ⟨rfl, hb2, G, c2, v0, v1, v2, v3, v4, v5, v6, v7, hv, hh2, hy2⟩
 have HB2 : Hid (Below w0.heap.size w0 w2) := aside (HB1.out.trans (hb2.mono hb))
 have HH2 := aside hh2
 have HY2 := aside hy2
 have HV := aside hv
 have HG2 : Hid (RoundsAt w2) := aside (HG.out.below (B1.out.trans (HB2.out.mono B1.out.size)))
 have HS2 : Hid (Small [v0, v1, v2, v3, v4, v5, v6, v7]) := aside (by rw [← hv]; exact blocksN_small bs start_small _)
 clear hb2 hv hh2 hy2
 go_wp2_with fail
 refine (hsum_any b v0 v1 v2 v3 v4 v5 v6 v7 HS2.out (bs.drop (64 * (n / 64))) G (n % 64) c2 n w2 HH2.out HY2.out (Nat.mod_lt _ (by decide)) hn (fun x hx => HBy.out x (List.mem_of_mem_drop hx)) HG2.out).mono ?_
 rintro e w3 ⟨rfl, hb3⟩
 have hsh : blocksN [v0, v1, v2, v3, v4, v5, v6, v7] (tailL (bs.drop (64 * (n / 64))) n) ((tailL (bs.drop (64 * (n / 64))) n).length / 64) = blocksN (blocksN startL bs (bs.length / 64)) (tailL (bs.drop (64 * (bs.length / 64))) bs.length) ((tailL (bs.drop (64 * (bs.length / 64))) bs.length).length / 64) := by rw [hlen, HV.out]
 have hsh2 : outL (blocksN [v0, v1, v2, v3, v4, v5, v6, v7] (tailL (bs.drop (64 * (n / 64))) n) ((tailL (bs.drop (64 * (n / 64))) n).length / 64)) = shaL bs := by rw [hsh]; rfl
 rw [hsh2]
 have HB3 := aside (HB2.out.trans (hb3.mono HB2.out.size))
 have D3 : Hid (w3.heap[B0]? = some (.cells (rowY (List.replicate 32 0)) 23 (0, 0))) := aside ((HB3.out.block B0 (by rw [Hz1.out]; omega)).trans D1.out)
 have HS9 : Hid ((Tryz.prog.info? 23).map (·.size) = some (rowY (shaL bs)).size) := aside (by rw [rowY_size, shaL_len]; kernel_rfl)
 have HS8 : Hid ((rowY (List.replicate 32 0)).size = (rowY (shaL bs)).size) := aside (by rw [rowY_size, rowY_size, shaL_len]; rfl)
 clear hb3 hsh hsh2
 go_wp2_with (first
  | (refine wpList_store_row rfl 23 (.tmp 2) (.tmp 9) rfl B0 (rowY (shaL bs)) rfl rfl 23 (rowY (List.replicate 32 0)) D3.out HS9.out HS8.out (rowY_one _) ?_)
  | fail)
 refine bodyPost_ret (results_cell_row rfl _ _ B0 23 (rowY (shaL bs)) (0, 0) _ rfl (setRow_heap w3 B0 _ _ _ _ D3.out) Tryz.underlying23 rfl HS9.out) rfl ?_
 refine ⟨rfl, ?_⟩
 rw [← EB.out]
 exact below_setRow (by rw [EB.out]; exact B1.out.trans (HB3.out.mono B1.out.size)) _ (Nat.le_refl _) _
end Go.Proofs.YtbpabjhcjffkmaaGreatDoor
