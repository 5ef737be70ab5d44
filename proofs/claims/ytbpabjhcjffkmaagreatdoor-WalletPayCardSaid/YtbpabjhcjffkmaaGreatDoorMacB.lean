/- Digests with a key: plain laws. No program in sight. Conditions: named in each theorem. Appending to an empty slice that may have room. Conditions: named in each theorem. Digests: Hasher.Write onto a hasher that has taken whole blocks. Conditions: named in each theorem. mac.Mac: the walk. Conditions: named in each theorem. -/
import Derived.Test.YtbpabjhcjffkmaaGreatDoorShaG
import Derived.Test.YtbpabjhcjffkmaaGreatDoorRec
import Derived.ArgAppend
import Derived.Deep.Upon
import Derived.StillTailTactics
/- Digests with a key: plain laws. No program in sight. Conditions: named in each theorem. -/
namespace Go.Proofs.YtbpabjhcjffkmaaGreatDoor

theorem getD_app {a m : List Nat} {i : Nat} (h : i < a.length) : (a ++ m).getD i 0 = a.getD i 0 := by
 simp only [List.getD_eq_getElem?_getD, List.getElem?_append_left h]
theorem firstW_app {a : List Nat} (m : List Nat) (h : a.length = 64) : ∀ k, k ≤ 16 → firstW (a ++ m) k = firstW a k
 | 0, _ => rfl
 | k + 1, hk => by
  unfold firstW
  rw [firstW_app m h k (by omega), getD_app (by omega), getD_app (by omega), getD_app (by omega), getD_app (by omega)]
theorem moreW_app {a : List Nat} (m : List Nat) (h : a.length = 64) : ∀ k, moreW (a ++ m) k = moreW a k
 | 0 => firstW_app m h 16 (Nat.le_refl _)
 | k + 1 => by
  unfold moreW
  rw [moreW_app m h k]
theorem roundsN_app {s a : List Nat} (m : List Nat) (h : a.length = 64) : ∀ k, roundsN s (a ++ m) k = roundsN s a k
 | 0 => rfl
 | k + 1 => by
  unfold roundsN
  rw [roundsN_app m h k, moreW_app m h 48]
theorem blockL_app {s a : List Nat} (m : List Nat) (h : a.length = 64) : blockL s (a ++ m) = blockL s a := by
 unfold blockL
 rw [roundsN_app m h]
theorem blocksN_app {s a : List Nat} (m : List Nat) (h : a.length = 64) : ∀ k, blocksN s (a ++ m) (k + 1) = blocksN (blocksN s a 1) m k
 | 0 => by
  show blockL s ((a ++ m).drop (64 * 0)) = blockL s (a.drop (64 * 0))
  rw [Nat.mul_zero, List.drop_zero, List.drop_zero]
  exact blockL_app m h
 | k + 1 => by
  show blockL (blocksN s (a ++ m) (k + 1)) ((a ++ m).drop (64 * (k + 1))) = blockL (blocksN (blocksN s a 1) m k) (m.drop (64 * k))
  rw [blocksN_app m h k]
  congr 1
  rw [List.drop_append, List.drop_of_length_le (by omega), h, List.nil_append]
  congr 1
/-- The digest of a block and what comes behind it. -/
theorem sha_app {a m : List Nat} (h : a.length = 64) : shaL (a ++ m) = outL (blocksN (blocksN (blocksN startL a 1) m (m.length / 64)) (tailL (m.drop (64 * (m.length / 64))) (64 + m.length)) ((tailL (m.drop (64 * (m.length / 64))) (64 + m.length)).length / 64)) := by
 unfold shaL
 have hl : (a ++ m).length = 64 + m.length := by rw [List.length_append, h]
 have hd : (a ++ m).length / 64 = m.length / 64 + 1 := by rw [hl]; omega
 have hr : (a ++ m).drop (64 * ((a ++ m).length / 64)) = m.drop (64 * (m.length / 64)) := by
  rw [hd, List.drop_append, List.drop_of_length_le (by omega), h, List.nil_append]
  congr 1
 rw [hr, hd, blocksN_app m h, hl]
/-- A key, so many bytes of it, each with a byte more. -/
def padN (x : Nat) (k : List Nat) (i : Nat) : List Nat := (List.range 64).map fun j => if j < i then k.getD j 0 ^^^ x else 0
theorem padN_len (x : Nat) (k : List Nat) (i : Nat) : (padN x k i).length = 64 := by simp [padN]
theorem padN_zero (x : Nat) (k : List Nat) : padN x k 0 = List.replicate 64 0 := by
 refine List.eq_replicate_iff.2 ⟨padN_len x k 0, fun b hb => ?_⟩
 obtain ⟨j, _, rfl⟩ := List.mem_map.1 hb
 rfl
theorem padN_at {x : Nat} {k : List Nat} {i j : Nat} (h : j < 64) : (padN x k i)[j]? = some (if j < i then k.getD j 0 ^^^ x else 0) := by
 unfold padN
 rw [List.getElem?_map, List.getElem?_range h]
 rfl
theorem padN_set {x : Nat} {k : List Nat} {i : Nat} (h : i < 64) : (padN x k i).set i (k.getD i 0 ^^^ x) = padN x k (i + 1) := by
 refine List.ext_getElem? fun j => ?_
 by_cases hj : j < 64
 ·rw [padN_at hj, List.getElem?_set, padN_len]
  by_cases hij : i = j
  ·subst hij
   rw [if_pos rfl, if_pos h, if_pos (Nat.lt_succ_self _)]
  ·rw [if_neg hij, padN_at hj]
   by_cases h1 : j < i
   ·rw [if_pos h1, if_pos (by omega)]
   ·rw [if_neg h1, if_neg (by omega)]
 ·rw [List.getElem?_eq_none (by rw [List.length_set, padN_len]; omega), List.getElem?_eq_none (by rw [padN_len]; omega)]
theorem xor_byte {a b : Nat} (ha : a < 256) (hb : b < 256) : a ^^^ b < 256 := Nat.xor_lt_two_pow (n := 8) ha hb
theorem padN_small {x : Nat} {k : List Nat} (hx : x < 256) (hk : ∀ y ∈ k, y < 256) (i : Nat) : ∀ y ∈ padN x k i, y < 256 := by
 intro y hy
 obtain ⟨j, _, rfl⟩ := List.mem_map.1 hy
 split
 ·exact xor_byte (getD_lt hk (by decide) j) hx
 ·decide
/-- A digest with a key. -/
def macL (k m : List Nat) : List Nat := shaL (padN 92 k 64 ++ shaL (padN 54 k 64 ++ m))
theorem macL_len (k m : List Nat) : (macL k m).length = 32 := shaL_len _
theorem outL_small : ∀ s : List Nat, ∀ x ∈ outL s, x < 256 := by
 intro s x hx
 unfold outL at hx
 obtain ⟨y, _, hy⟩ := List.mem_flatMap.1 hx
 simp only [List.mem_cons, List.not_mem_nil, or_false] at hy
 rcases hy with rfl | rfl | rfl | rfl <;> exact Nat.mod_lt _ (by decide)
theorem shaL_small (bs : List Nat) : ∀ x ∈ shaL bs, x < 256 := outL_small _
theorem macL_small (k m : List Nat) : ∀ x ∈ macL k m, x < 256 := shaL_small _
end Go.Proofs.YtbpabjhcjffkmaaGreatDoor

/- Appending to an empty slice that may have room. Conditions: named in each theorem. -/
namespace Go.Proofs.YtbpabjhcjffkmaaGreatDoor
open Go.RowKit Go.ChangeShapes Go.WideShapes Go.ChangeAt

/-- A slice's block, behind N, has all the room that the slice says. -/
def RoomS (w : World) (N : Nat) (G : Option Addr) (c : Nat) : Prop := Far N G ∧ c ≤ maxLen ∧ (c = 0 ∨ ∃ g o cur T, G = some ⟨g, o, none⟩ ∧ w.heap[g]? = some (.cells cur T (0, 0)) ∧ o + c ≤ cur.size)
theorem RoomS.nil (w : World) (N : Nat) : RoomS w N none 0 := ⟨fun _ _ _ e => (by cases e), Nat.zero_le _, .inl rfl⟩
theorem RoomS.keep {w w' : World} {N c : Nat} {G : Option Addr} (h : RoomS w N G c) (hk : ∀ g, N ≤ g → g < w.heap.size → w'.heap[g]? = w.heap[g]?) : RoomS w' N G c := by
 obtain ⟨h1, h2, h3⟩ := h
 refine ⟨h1, h2, h3.imp id ?_⟩
 rintro ⟨g, o, cur, T, e, hg, ho⟩
 exact ⟨g, o, cur, T, e, (hk g (h1 g o none e) (Array.getElem?_eq_some_iff.1 hg).1).trans hg, ho⟩
theorem RoomS.less {w : World} {N M c : Nat} {G : Option Addr} (h : RoomS w N G c) (hM : M ≤ N) : RoomS w M G c := ⟨h.1.mono hM, h.2⟩
theorem RoomS.of_own {w : World} {N n c : Nat} {A : Option Addr} {e : TypeId} {xs : List Value} (h : w.ownsRow N e 1 (.slice A n c) n xs) : RoomS w N A c := by
 refine ⟨far_own h, ?_, ?_⟩
 ·rcases h.2 with ⟨hv, _⟩ | ⟨g, cap, cur, hv, _, _, _, hm, _⟩
  ·injection hv with _ _ e3
   rw [e3]; exact Nat.zero_le _
  ·injection hv with _ _ e3
   rw [e3]; exact hm
 ·rcases h.2 with ⟨hv, _⟩ | ⟨g, cap, cur, hv, _, hg, _, _, hs, _⟩
  ·injection hv with _ _ e3
   exact .inl e3
  ·injection hv with e1 _ e3
   exact .inr ⟨g, 0, cur, e, e1, hg, by rw [hs, e3]; omega⟩
theorem RoomS.shift {w : World} {N c : Nat} {G : Option Addr} (h : RoomS w N G c) (k : Nat) (hk : k ≤ c) : RoomS w N (if c = k then G else Option.map (fun x => (⟨x.block, x.off + k, none⟩ : Addr)) G) (c - k) := by
 obtain ⟨h1, h2, h3⟩ := h
 by_cases hc : c = k
 ·rw [if_pos hc]
  exact ⟨h1, by omega, .inl (by omega)⟩
 ·rw [if_neg hc]
  rcases h3 with h3 | ⟨g, o, cur, T, e, hg, ho⟩
  ·omega
  ·refine ⟨?_, by omega, .inr ⟨g, o + k, cur, T, by rw [e]; rfl, hg, by omega⟩⟩
   rw [e]
   rintro b o' s e2
   simp at e2
   obtain ⟨rfl, _⟩ := e2
   exact h1 g o none e
theorem heap_setCells_same {g : Nat} {T : TypeId} : ∀ (vs : List Value) (o : Nat) (w : World) (cur : Array Value), w.heap[g]? = some (.cells cur T (0, 0)) → ∃ cur', (w.setCells g o vs).heap[g]? = some (.cells cur' T (0, 0)) ∧ cur'.size = cur.size
 | [], _, _, cur, h => ⟨cur, h, rfl⟩
 | v :: vs, o, w, cur, h => by
  obtain ⟨cur', h1, h2⟩ := heap_setCells_same vs (o + 1) (w.setCell ⟨g, o, none⟩ v) _ (heap_setCell_same w g o _ T v h)
  exact ⟨cur', h1, by rw [h2]; simp⟩
theorem below_cells {B g : Nat} {a : World} (hB : B ≤ g) : ∀ (vs : List Value) (o : Nat) (w : World), Below B a w → Below B a (w.setCells g o vs)
 | [], _, _, h => h
 | v :: vs, o, w, h => below_cells hB vs (o + 1) (w.setCell ⟨g, o, none⟩ v) (h.setCell (p := ⟨g, o, none⟩) hB v)
theorem size_cells {g : Nat} : ∀ (vs : List Value) (o : Nat) (w : World), (w.setCells g o vs).heap.size = w.heap.size
 | [], _, _ => rfl
 | v :: vs, o, w => (size_cells vs (o + 1) (w.setCell ⟨g, o, none⟩ v)).trans (by simp)
theorem run_none {P : Program} (w : World) (t ty e : TypeId) (i : TypeInfo) (ht : P.underlying t = some (.slice e)) (hi : P.info? e = some i) (G A : Option Addr) (c c2 : Nat) :
  (Builtin.append_ #[t, t] ty #[.slice G 0 c, .slice A 0 c2]).run P w = .ok (.slice G 0 c) w := by
 cases A with
 | none => cases G <;> simp [Builtin.append_, run_underlying ht, sizeOf, typeInfo, hi, Builtin.lenOf, Builtin.firstCells, storeCells]
 | some a =>
  have hfc := run_firstCells_some (P := P) w i.size 0 a 0 c2 [] (by simp) (fun j u h => by simp at h)
  cases G <;> simp [Builtin.append_, run_underlying ht, sizeOf, typeInfo, hi, Builtin.lenOf, hfc, storeCells]
/-- 'append(v, s...)', v empty, with room or without: the world behind it, and where the new slice lies. -/
theorem wpList_fill {P : Program} {ops : Array Oper} {rest : List Oper} {o : Oper} {a : Act} {Q : Exit → Act → World → Prop} {w : World} {e : TypeId}
  (hgd : o.guard = none) (s x : Operand) (t : TypeId) (ho : o.op = .call { callee := .builtin .append, args := #[s, x], argTypes := #[t, t] })
  (z : Value) (bytes : Nat) (ht : P.underlying t = some (.slice e)) (hinfo : (P.info? e).map (fun i => (i.zero, i.size, i.bytes)) = some (some z, 1, bytes)) (hzs : z.cells.size = 1)
  (N : Nat) (G : Option Addr) (c : Nat) (hs : a.eval s = .slice G 0 c) (hr : RoomS w N G c)
  (B : Nat) (A : Option Addr) (m c2 : Nat) (ys : List Value) (hx : a.eval x = .slice A m c2) (hy : Sl w B 1 A m ys) (h1 : ∀ u ∈ ys, u.oneCell' = true)
  (hn : m * bytes ≤ 140737488355328) (hm : m ≤ maxLen) (hN : N ≤ w.heap.size)
  (h : ∀ A' c' w', Sl w' w'.heap.size 1 A' m ys → RoomS w' N A' c' → m ≤ c' → Below N w w' → wpList P ops Q rest (a.put o.dst (.slice A' m c')) w') :
  wpList P ops Q (o :: rest) a w := by
 obtain ⟨i0, hI, hIz, hIs, hIb⟩ := info_parts hinfo
 have hyl : ys.length = m := by simpa using hy.len
 by_cases hm0 : m = 0
 ·subst hm0
  have hys : ys = [] := List.eq_nil_of_length_eq_zero hyl
  subst hys
  refine wpList_plain hgd fun K hK => ?_
  have hrun := run_none (P := P) w t o.type e i0 ht hI G A c c2
  unfold Oper.wp execOp
  simp only [ho, resolve, invoke, builtin, Sem.run_bind, Sem.run_pure, Result.andThen_ok, List.map_toArray, List.map_cons, List.map_nil, hs, hx, hrun]
  exact hK _ _ (h G c w Sl.nil_ hr (Nat.zero_le _) (Below.refl _ _))
 obtain ⟨b, off, rfl, hb, hcell⟩ := hy.cells (by omega)
 have hcs : ∀ j u, ys[j]? = some u → w.cell? ((⟨b, off, none⟩ : Addr).add j) = some u := fun j u hj => by rw [add_plain]; exact hcell j u hj
 have hgrown : ∀ v' w', w'.ownsRow w.heap.size e 1 v' (0 + m) ([] ++ ys) → w.grownBy w' none → wpList P ops Q rest (a.put o.dst v') w' := fun v' w' hown hg => by
  rw [Nat.zero_add, List.nil_append] at hown
  obtain ⟨A', c', rfl, hc1, hc2⟩ := own_slice hown
  refine h A' c' w' (Sl.own hown) ((RoomS.of_own hown).less hN) hc1 ?_
  exact ⟨hg.os, hg.tape, hg.output, hg.size, fun k hk => hg.block k (by omega) (by simp)⟩
 obtain ⟨r1, r2, r3⟩ := hr
 rcases r3 with r3 | ⟨g, og, cur, T, rfl, hg, hoc⟩
 ·subst r3
  exact wpList_append_grows w hgd s x t ho e i0 z 1 bytes ht hI hIz hIs hIb hzs (by decide) G 0 0 [] hs (fun _ => ⟨rfl, rfl⟩) rfl (fun _ _ j u hj => by simp at hj) ⟨b, off, none⟩ m c2 ys hx (by omega) hcs h1 (by omega) (by omega) (by rw [Nat.zero_add]; exact hn) hgrown
 ·have hNg := r1 g og none rfl
  have hglt := (Array.getElem?_eq_some_iff.1 hg).1
  have hsp : ∀ j, j < c → (w.cell? ⟨g, og + j, none⟩).isSome = true ∧ w.frozen? ⟨g, og + j, none⟩ = false := fun j hj => by
   constructor
   ·rw [cell_of_row w g (og + j) _ _ _ hg, Array.getElem?_eq_getElem (by omega)]
    rfl
   ·exact frozen_of_row w g (og + j) _ _ hg
  refine wpList_append_arg w hgd s x t ho e i0 z 1 bytes ht hI hIz hIs hIb hzs (by decide) g og 0 c [] hs rfl (fun j u hj => by simp at hj) ⟨b, off, none⟩ m c2 ys hx (by omega) hcs h1 (fun hle j hj => by rw [Nat.zero_mul, Nat.add_zero]; exact hsp j (by omega)) (by omega) (by rw [Nat.zero_add]; exact hn) (fun hle => ?_) (fun _ => hgrown)
  rw [Nat.zero_mul, Nat.add_zero, Nat.zero_add]
  obtain ⟨cur', hc1, hc2⟩ := heap_setCells_same ys og w cur hg
  refine h (some ⟨g, og, none⟩) c _ ⟨by simpa using hyl, fun _ => ⟨g, og, rfl, by rw [size_cells]; exact hglt, fun j u hj => ?_⟩⟩ ⟨r1, r2, .inr ⟨g, og, cur', T, rfl, hc1, by rw [hc2]; exact hoc⟩⟩ (by omega) (below_cells hNg ys og w (Below.refl _ _))
  have hjl := (List.getElem?_eq_some_iff.1 hj).1
  rw [World.cell?_setCells_in g ys og w (fun k hk => (hsp k (by omega)).1) j hjl]
  rw [← (List.getElem?_eq_some_iff.1 hj).2]
end Go.Proofs.YtbpabjhcjffkmaaGreatDoor

/- Digests: Hasher.Write onto a hasher that has taken whole blocks. Conditions: named in each theorem. -/
namespace Go.Proofs.YtbpabjhcjffkmaaGreatDoor
open Go.RowKit Go.ChangeShapes Go.WideShapes Go.ChangeAt

theorem heap8 {w : World} {b g : Nat} (h : g ≠ b) (u0 u1 u2 u3 u4 u5 u6 u7 : Nat) :
  ((((((((w.setCell ⟨b, 0, none⟩ (.int .u32 (u0 : Int))).setCell ⟨b, 1, none⟩ (.int .u32 (u1 : Int))).setCell ⟨b, 2, none⟩ (.int .u32 (u2 : Int))).setCell ⟨b, 3, none⟩ (.int .u32 (u3 : Int))).setCell ⟨b, 4, none⟩ (.int .u32 (u4 : Int))).setCell ⟨b, 5, none⟩ (.int .u32 (u5 : Int))).setCell ⟨b, 6, none⟩ (.int .u32 (u6 : Int))).setCell ⟨b, 7, none⟩ (.int .u32 (u7 : Int))).heap[g]? = w.heap[g]? := by
 simp only [Below.heap_setCell _ _ _ _ (show g ≠ (⟨b, 0, none⟩ : Addr).block from h), Below.heap_setCell _ _ _ _ (show g ≠ (⟨b, 1, none⟩ : Addr).block from h), Below.heap_setCell _ _ _ _ (show g ≠ (⟨b, 2, none⟩ : Addr).block from h), Below.heap_setCell _ _ _ _ (show g ≠ (⟨b, 3, none⟩ : Addr).block from h), Below.heap_setCell _ _ _ _ (show g ≠ (⟨b, 4, none⟩ : Addr).block from h), Below.heap_setCell _ _ _ _ (show g ≠ (⟨b, 5, none⟩ : Addr).block from h), Below.heap_setCell _ _ _ _ (show g ≠ (⟨b, 6, none⟩ : Addr).block from h), Below.heap_setCell _ _ _ _ (show g ≠ (⟨b, 7, none⟩ : Addr).block from h)]
set_option maxHeartbeats 4000000 in
set_option maxRecDepth 100000 in
theorem write_room (b : Nat) (s : List Nat) (hs : s.length = 8) (hsm : Small s) (bs : List Nat) (A : Option Addr) (n c : Nat) (G0 : Option Addr) (c0 cnt : Nat) (hcnt : cnt ≤ 1000000) (w : World) (hh : HashAt w b s (.slice G0 0 c0) cnt) (hr : RoomS w (b + 1) G0 c0) (h : YSl w b A n bs) (hn : n ≤ 1000000) (hby : ∀ x ∈ bs, x < 256) (hg : RoundsAt w) (hgb : 1 < b) :
  Calls Tryz.prog 113 #[.pointer (some ⟨b, 0, none⟩), .slice A n c] w (fun e w' => e = .returned (.tuple #[]) ∧ Below b w w' ∧ ∃ G c' v0 v1 v2 v3 v4 v5 v6 v7, blocksN s bs (n / 64) = [v0, v1, v2, v3, v4, v5, v6, v7] ∧ HashAt w' b [v0, v1, v2, v3, v4, v5, v6, v7] (.slice G (n % 64) c') ((cnt + n : Nat) : Int) ∧ YSl w' w'.heap.size G (n % 64) (bs.drop (64 * (n / 64))) ∧ RoomS w' (b + 1) G c') := by
 obtain ⟨a0, a1, a2, a3, a4, a5, a6, a7, rfl⟩ := eight hs
 obtain ⟨h8, h9, hfr⟩ := hh.w
 have f9 := hfr 9
 have f8 := hfr 8
 have e1 : IntKind.i64.wrap ((cnt : Int) + (n : Int)) = ((cnt + n : Nat) : Int) := by rw [IntKind.wrap_i64]; omega
 obtain ⟨cn, hcn⟩ : ∃ cn, cn = cnt + n := ⟨_, rfl⟩
 rw [← hcn] at e1 ⊢
 have HCn := aside hcn
 clear hcn hcnt
 go_enter Tryz.func113, Tryz.ntmps113
 have hb : b < w.heap.size := (Array.getElem?_eq_some_iff.1 hh).1
 have B1 : Below b w (w.setCell ⟨b, 9, none⟩ (.int .i64 cn)) := (Below.refl b w).setCell (show b ≤ b from Nat.le_refl b) _
 have HY := aside (Sl.below h B1)
 have HH : Hid (HashAt (w.setCell ⟨b, 9, none⟩ (.int .i64 cn)) b [a0, a1, a2, a3, a4, a5, a6, a7] (.slice G0 0 c0) cn) := aside (by
  have := heap_setCell_same w b 9 _ _ (.int .i64 cn) hh
  exact this)
 have h1 : ∀ u ∈ bs.flatMap byV, u.oneCell' = true := by
  intro u hu
  obtain ⟨x, -, hx⟩ := List.mem_flatMap.1 hu
  simp only [byV, List.mem_singleton] at hx
  rw [hx]; rfl
 have HB1 := aside B1
 have HR1 : Hid (RoomS (w.setCell ⟨b, 9, none⟩ (.int .i64 cn)) (b + 1) G0 c0) := aside (hr.keep fun g hg _ => Below.heap_setCell _ _ _ _ (show g ≠ b by omega))
 have hbN : b + 1 ≤ (w.setCell ⟨b, 9, none⟩ (.int .i64 cn)).heap.size := by
  have h9 : (w.setCell ⟨b, 9, none⟩ (.int .i64 cn)).heap.size = w.heap.size := by simp
  omega
 have H1 := aside h1
 have HHo := aside hh
 have HYo := aside h
 have HSm := aside hsm
 have HBy := aside hby
 have HG := aside hg
 have HGb := aside hgb
 clear B1 h1 hh hr h hsm hby hg hgb
 go_wp2_with (first
  | (at_builtin; refine wpList_fill rfl (.tmp 17) (.tmp 18) 67 rfl (.int .u8 0) 1 Tryz.underlying67 byteInfo rfl (b + 1) G0 c0 rfl HR1.out b A n c _ rfl HY.out H1.out (by omega) (by unfold maxLen; omega) hbN ?_; intro G cg w2 hsl hro hcg hb2; have hq : HashAt w2 b [a0, a1, a2, a3, a4, a5, a6, a7] (.slice G0 0 c0) cn := (hb2.block b (Nat.lt_succ_self b)).trans HH.out; have k8 := hq.w.1; have kf := hq.w.2.2 8; have HQ := aside hq; have HSl := aside hsl; have HRo := aside hro; have HB2 := aside hb2; clear hq hsl hro hb2)
  | fail)
 go_loopw [] (fun wr => ∃ (k m : Nat) (G' : Option Addr) (c' : Nat) (v0 v1 v2 v3 v4 v5 v6 v7 : Nat), m + 64 * k = n ∧ Hid (blocksN [a0, a1, a2, a3, a4, a5, a6, a7] bs k = [v0, v1, v2, v3, v4, v5, v6, v7]) ∧ Hid (HashAt wr b [v0, v1, v2, v3, v4, v5, v6, v7] (.slice G' m c') cn) ∧ Hid (YSl wr wr.heap.size G' m (bs.drop (64 * k))) ∧ m ≤ c' ∧ Hid (RoomS wr (b + 1) G' c') ∧ Hid (Below b w wr)) (fun wr => lenC (wr.cell? ⟨b, 8, none⟩))
 case atStart =>
  refine ⟨0, n, G, cg, a0, a1, a2, a3, a4, a5, a6, a7, by omega, aside rfl, aside (HQ.out.rest _), ?_, by omega, aside (HRo.out.keep fun g hg _ => Below.heap_setCell _ _ _ _ (show g ≠ b by omega)), aside ((HB1.out.trans (HB2.out.mono (Nat.le_succ b))).setCell (show b ≤ b from Nat.le_refl b) _)⟩
  have h0 : YSl w2 w2.heap.size G n bs := HSl.out
  exact aside ((YSl.farKeep h0 HRo.out.1 (fun p h1 h2 => far_set (show b < p.block by omega))).more (by simp))
 case round =>
  obtain ⟨k, m, G1, c1, v0, v1, v2, v3, v4, v5, v6, v7, hm, HV, HH1, HY1, hc1, HF1, HB3⟩ := hrel
  obtain ⟨⟨q0, q1, q2, q3, q4, q5, q6, q7⟩, -⟩ := HH1.out.cs
  have q8 := HH1.out.w.1
  by_cases m64 : 64 ≤ m
  ·have m1 : (64 : Int) ≤ (m : Int) := by omega
   have hm64 : m ≥ 64 := m64
   have HRg : Hid (RoundsAt wr) := aside (HG.out.low HGb.out HB3.out)
   have HSv : Hid (Small [v0, v1, v2, v3, v4, v5, v6, v7]) := aside (by rw [← HV.out]; exact blocksN_small _ HSm.out _)
   have HBb : Hid (∀ x ∈ bs.drop (64 * k), x < 256) := aside (fun x hx => HBy.out x (List.mem_of_mem_drop hx))
   have HYd : Hid (YSl wr.drew wr.drew.heap.size G1 m (bs.drop (64 * k))) := aside (FSl.drewN HY1.out 1)
   have HRd : Hid (RoundsAt wr.drew) := aside HRg.out
   have hbr : b < wr.heap.size := (Array.getElem?_eq_some_iff.1 HH1.out).1
   have HL := aside (show lenC (wr.cell? ⟨b, 8, none⟩) = m by rw [q8]; rfl)
   go_wp2_with fail
   go_region_with (first
    | (refine (block_eight (bs.drop (64 * k)) G1 m c1 _ HYd.out m64 HBb.out HSv.out HRd.out).mono ?_; rintro e w' ⟨u0, u1, u2, u3, u4, u5, u6, u7, hu, rfl, hbw⟩; have hq' : HashAt w' b [v0, v1, v2, v3, v4, v5, v6, v7] (.slice G1 m c1) cn := (hbw.block b hbr).trans HH1.out; obtain ⟨⟨t0, t1, t2, t3, t4, t5, t6, t7⟩, g0, g1, g2, g3, g4, g5, g6, g7⟩ := hq'.cs)
    | fail)
   all_goals have HN := aside (HashAt.put8 ((hbw.block b hbr).trans HH1.out : HashAt w' b [v0, v1, v2, v3, v4, v5, v6, v7] (.slice G1 m c1) cn) u0 u1 u2 u3 u4 u5 u6 u7)
   all_goals have HBz := aside (below8 ((HB3.out.trans (below_drawn (Below.refl b wr) 1)).trans (hbw.mono (Nat.le_of_lt hbr))) (Nat.le_refl b) u0 u1 u2 u3 u4 u5 u6 u7)
   all_goals have HYz := aside (((YSl.farKeep HY1.out HF1.out.1 (fun p h1 h2 => (far8 (w := w') (show b < p.block by omega) u0 u1 u2 u3 u4 u5 u6 u7).trans (hbw.cell h2))).more hbw.size).more (Nat.le_of_eq (size8 w' b u0 u1 u2 u3 u4 u5 u6 u7).symm))
   all_goals have HRz := aside (HF1.out.keep (w' := ((((((((w'.setCell ⟨b, 0, none⟩ (.int .u32 (u0 : Int))).setCell ⟨b, 1, none⟩ (.int .u32 (u1 : Int))).setCell ⟨b, 2, none⟩ (.int .u32 (u2 : Int))).setCell ⟨b, 3, none⟩ (.int .u32 (u3 : Int))).setCell ⟨b, 4, none⟩ (.int .u32 (u4 : Int))).setCell ⟨b, 5, none⟩ (.int .u32 (u5 : Int))).setCell ⟨b, 6, none⟩ (.int .u32 (u6 : Int))).setCell ⟨b, 7, none⟩ (.int .u32 (u7 : Int)))) fun g hg h2 => (heap8 (w := w') (show g ≠ b by omega) u0 u1 u2 u3 u4 u5 u6 u7).trans (hbw.block g h2))
   all_goals generalize ((((((((w'.setCell ⟨b, 0, none⟩ (.int .u32 (u0 : Int))).setCell ⟨b, 1, none⟩ (.int .u32 (u1 : Int))).setCell ⟨b, 2, none⟩ (.int .u32 (u2 : Int))).setCell ⟨b, 3, none⟩ (.int .u32 (u3 : Int))).setCell ⟨b, 4, none⟩ (.int .u32 (u4 : Int))).setCell ⟨b, 5, none⟩ (.int .u32 (u5 : Int))).setCell ⟨b, 6, none⟩ (.int .u32 (u6 : Int))).setCell ⟨b, 7, none⟩ (.int .u32 (u7 : Int))) = wz at HN HBz HYz HRz ⊢
   all_goals have n8 := HN.out.w.1
   all_goals have n8f := HN.out.w.2.2 8
   all_goals have hl : (64 : Int) ≤ (c1 : Int) := by omega
   all_goals go_wp2_with fail
   all_goals refine ⟨⟨k + 1, m - 64, _, c1 - 64, u0, u1, u2, u3, u4, u5, u6, u7, by omega, aside (by show blockL (blocksN _ bs k) _ = _; rw [HV.out]; exact hu), aside (HN.out.rest _), ?_, by omega, aside ((HRz.out.shift 64 (by omega)).keep fun g hg _ => Below.heap_setCell _ _ _ _ (show g ≠ b by omega)), aside (HBz.out.setCell (show b ≤ b from Nat.le_refl b) _)⟩, ?_⟩
   all_goals first
    | (rw [← drop64]; exact aside ((YSl.farKeep (YSl.shift HYz.out m64 _ (fun h b o e => by rw [if_neg (by omega), e]; rfl)) (far_if HF1.out.1) (fun p h1 h2 => far_set (show b < p.block by omega))).more (by simp)))
    | (rw [(HN.out.rest _).w.1, HL.out]; show m - 64 < m; omega)
  ·have m1 : ((64 : Int) ≤ (m : Int)) = False := by simp only [eq_iff_iff, iff_false]; omega
   obtain rfl : m = n % 64 := by omega
   obtain rfl : k = n / 64 := by omega
   go_wp2
   refine bodyPost_end (results_none rfl _ _ _) rfl ?_
   exact ⟨rfl, HB3.out, G1, c1, v0, v1, v2, v3, v4, v5, v6, v7, HV.out, HH1.out, HY1.out, HF1.out⟩
end Go.Proofs.YtbpabjhcjffkmaaGreatDoor

/- mac.Mac: the walk. Conditions: named in each theorem. -/
namespace Go.Proofs.YtbpabjhcjffkmaaGreatDoor
open Go.RowKit Go.ChangeShapes Go.WideShapes Go.ChangeAt

/-- A block of bytes. -/
def BlkY (w : World) (b : Nat) (T : TypeId) (l : List Nat) : Prop := w.heap[b]? = some (.cells (rowY l) T (0, 0))
theorem BlkY.lt {w : World} {b : Nat} {T : TypeId} {l : List Nat} (h : BlkY w b T l) : b < w.heap.size := (Array.getElem?_eq_some_iff.1 h).1
theorem BlkY.below {w w' : World} {b N : Nat} {T : TypeId} {l : List Nat} (h : BlkY w b T l) (hb : Below N w w') (hN : b < N) : BlkY w' b T l := (hb.block b hN).trans h
theorem BlkY.alloc {w : World} {b : Nat} {T : TypeId} {l : List Nat} (h : BlkY w b T l) (o : Obj) : BlkY (w.alloc o) b T l := (Below.heap_alloc _ _ _ h.lt).trans h
theorem BlkY.new (w : World) (T : TypeId) (l : List Nat) : BlkY (w.alloc (.cells (rowY l) T)) w.heap.size T l := heap_alloc_new _ _
theorem rowY_get {l : List Nat} {j : Nat} (h : j < l.length) : (rowY l)[j]? = some (.int .u8 (l.getD j 0 : Nat)) := by
 simp [rowY, List.getD_eq_getElem?_getD, List.getElem?_eq_getElem h]
theorem BlkY.cell {w : World} {b : Nat} {T : TypeId} {l : List Nat} (h : BlkY w b T l) {j : Nat} (hj : j < l.length) : w.cell? ⟨b, j, none⟩ = some (.int .u8 (l.getD j 0 : Nat)) := (cell_of_row w b j _ _ _ h).trans (rowY_get hj)
theorem BlkY.fz {w : World} {b : Nat} {T : TypeId} {l : List Nat} (h : BlkY w b T l) (j : Nat) : w.frozen? ⟨b, j, none⟩ = false := frozen_of_row w b j _ T h
theorem BlkY.set {w : World} {b : Nat} {T : TypeId} {l : List Nat} (h : BlkY w b T l) (j x : Nat) : BlkY (w.setCell ⟨b, j, none⟩ (.int .u8 (x : Int))) b T (l.set j x) := by
 unfold BlkY
 rw [← rowY_set]
 exact heap_setCell_same w b j _ T _ h
theorem BlkY.other {w : World} {b : Nat} {T : TypeId} {l : List Nat} (h : BlkY w b T l) (g j : Nat) (v : Value) (hne : b ≠ g) : BlkY (w.setCell ⟨g, j, none⟩ v) b T l := (Below.heap_setCell _ ⟨g, j, none⟩ _ _ hne).trans h
theorem BlkY.sl {w : World} {b B : Nat} {T : TypeId} {l : List Nat} {n : Nat} (h : BlkY w b T l) (hl : l.length = n) (hB : b < B) : YSl w B (some ⟨b, 0, none⟩) n l :=
 YSl.of hl hB fun k hk => by rw [Nat.zero_add]; exact h.cell (by omega)
/-- 'append(v, s...)', v full: a new row. -/
theorem wpList_full {P : Program} {ops : Array Oper} {rest : List Oper} {o : Oper} {a : Act} {Q : Exit → Act → World → Prop} {w : World} {e : TypeId}
  (hgd : o.guard = none) (s x : Operand) (t : TypeId) (ho : o.op = .call { callee := .builtin .append, args := #[s, x], argTypes := #[t, t] })
  (z : Value) (bytes : Nat) (ht : P.underlying t = some (.slice e)) (hinfo : (P.info? e).map (fun i => (i.zero, i.size, i.bytes)) = some (some z, 1, bytes)) (hzs : z.cells.size = 1)
  (B1 : Nat) (A : Option Addr) (n : Nat) (xs : List Value) (hs : a.eval s = .slice A n n) (hA : Sl w B1 1 A n xs) (hn0 : 0 < n)
  (B2 : Nat) (A2 : Option Addr) (m c2 : Nat) (ys : List Value) (hx : a.eval x = .slice A2 m c2) (hy : Sl w B2 1 A2 m ys) (h1 : ∀ u ∈ ys, u.oneCell' = true) (hm0 : 0 < m)
  (hb : (n + m) * bytes ≤ 140737488355328) (hm : n + m ≤ maxLen)
  (h : ∀ A' c' w', Sl w' w'.heap.size 1 A' (n + m) (xs ++ ys) → Below w.heap.size w w' → wpList P ops Q rest (a.put o.dst (.slice A' (n + m) c')) w') :
  wpList P ops Q (o :: rest) a w := by
 obtain ⟨i0, hI, hIz, hIs, hIb⟩ := info_parts hinfo
 obtain ⟨g, og, rfl, hg, hcell⟩ := hA.cells hn0
 obtain ⟨b, off, rfl, hbb, hcell2⟩ := hy.cells hm0
 have hxl : xs.length = n := by simpa using hA.len
 have hyl : ys.length = m := by simpa using hy.len
 refine wpList_append_grows w hgd s x t ho e i0 z 1 bytes ht hI hIz hIs hIb hzs (by decide) (some ⟨g, og, none⟩) n n xs hs (fun h => by cases h) (by omega) (fun b' hb' j u hj => ?_) ⟨b, off, none⟩ m c2 ys hx (by omega) (fun j u hj => by rw [add_plain]; exact hcell2 j u hj) h1 (by omega) hm hb ?_
 ·injection hb' with hb'
  rw [← hb', add_plain]
  exact hcell j u hj
 ·intro v' w' hown hgr
  obtain ⟨A', c', rfl, hc1, hc2⟩ := own_slice hown
  exact h A' c' w' (Sl.own hown) ⟨hgr.os, hgr.tape, hgr.output, hgr.size, fun k hk => hgr.block k hk (by simp)⟩
theorem mac_small {v : List Nat} {bs : List Nat} {k : Nat} {a0 a1 a2 a3 a4 a5 a6 a7 : Nat} (h : blocksN v bs k = [a0, a1, a2, a3, a4, a5, a6, a7]) (hs : Small v) : Small [a0, a1, a2, a3, a4, a5, a6, a7] := by rw [← h]; exact blocksN_small bs hs k
set_option maxHeartbeats 20000000 in
set_option maxRecDepth 100000 in
theorem mac_any (ks : List Nat) (K : Option Addr) (kn kc : Nat) (ms : List Nat) (M : Option Addr) (mn mc : Nat) (w : World) (hk : YSl w w.heap.size K kn ks) (hm : YSl w w.heap.size M mn ms) (hkn : kn ≤ 64) (hmn : mn ≤ 1000) (hkb : ∀ x ∈ ks, x < 256) (hmb : ∀ x ∈ ms, x < 256) (hg : RoundsAt w) :
  Calls Tryz.prog 78 #[.slice K kn kc, .slice M mn mc] w (fun e w' => e = .returned (digV (macL ks ms)) ∧ Below w.heap.size w w') := by
 have hkl := YSl.len1 hk
 have hml := YSl.len1 hm
 have hr : 1 < w.heap.size := by
  obtain ⟨T, fr, -, h2⟩ := hg
  exact h2
 have HK := aside hk
 have HM := aside hm
 have HKl := aside hkl
 have HMl := aside hml
 have HKb := aside hkb
 have HMb := aside hmb
 have HG := aside hg
 have hknz : (kn : Int) ≤ 64 := by omega
 clear hk hm hkl hml hkb hmb hg
 go_enter Tryz.func78, Tryz.ntmps78
 go_wp2_with fail
 have B1 : Hid (Below w.heap.size w (((w.alloc (.cells (rowY (List.replicate 32 0)) 23)).alloc (.cells (rowY (List.replicate 64 0)) 148)).alloc (.cells (rowY (List.replicate 64 0)) 148))) := aside ((((Below.refl _ _).alloc (Nat.le_refl _) _).alloc (by simp) _).alloc (by simp; omega) _)
 have D0 : Hid (BlkY (((w.alloc (.cells (rowY (List.replicate 32 0)) 23)).alloc (.cells (rowY (List.replicate 64 0)) 148)).alloc (.cells (rowY (List.replicate 64 0)) 148)) w.heap.size 23 (List.replicate 32 0)) := aside (((BlkY.new w _ _).alloc _).alloc _)
 have D1 : Hid (BlkY (((w.alloc (.cells (rowY (List.replicate 32 0)) 23)).alloc (.cells (rowY (List.replicate 64 0)) 148)).alloc (.cells (rowY (List.replicate 64 0)) 148)) (w.heap.size + 1) 148 (padN 92 ks 0)) := aside (by
  rw [padN_zero]
  have h := (BlkY.new (w.alloc (.cells (rowY (List.replicate 32 0)) 23)) 148 (List.replicate 64 0)).alloc (.cells (rowY (List.replicate 64 0)) 148)
  rwa [show (w.alloc (.cells (rowY (List.replicate 32 0)) 23)).heap.size = w.heap.size + 1 by simp] at h)
 have D2 : Hid (BlkY (((w.alloc (.cells (rowY (List.replicate 32 0)) 23)).alloc (.cells (rowY (List.replicate 64 0)) 148)).alloc (.cells (rowY (List.replicate 64 0)) 148)) (w.heap.size + 1 + 1) 148 (padN 54 ks 0)) := aside (by
  rw [padN_zero]
  have h := BlkY.new ((w.alloc (.cells (rowY (List.replicate 32 0)) 23)).alloc (.cells (rowY (List.replicate 64 0)) 148)) 148 (List.replicate 64 0)
  rwa [show ((w.alloc (.cells (rowY (List.replicate 32 0)) 23)).alloc (.cells (rowY (List.replicate 64 0)) 148)).heap.size = w.heap.size + 1 + 1 by simp] at h)
 have Z1 : Hid ((((w.alloc (.cells (rowY (List.replicate 32 0)) 23)).alloc (.cells (rowY (List.replicate 64 0)) 148)).alloc (.cells (rowY (List.replicate 64 0)) 148)).heap.size = w.heap.size + 3) := aside (by simp)
 change Code.wp _ _ _ _ (((w.alloc (.cells (rowY (List.replicate 32 0)) 23)).alloc (.cells (rowY (List.replicate 64 0)) 148)).alloc (.cells (rowY (List.replicate 64 0)) 148))
 generalize (((w.alloc (.cells (rowY (List.replicate 32 0)) 23)).alloc (.cells (rowY (List.replicate 64 0)) 148)).alloc (.cells (rowY (List.replicate 64 0)) 148)) = w1 at B1 D0 D1 D2 Z1 ⊢
 obtain ⟨B0, hB0⟩ : ∃ B0, B0 = w.heap.size := ⟨_, rfl⟩
 have EB := aside hB0
 simp only [← hB0] at D0 D1 D2 Z1 ⊢
 rw [← hB0] at hr
 clear hB0
 go_loopw [18] (fun v18 wr => ∃ i : Nat, i ≤ 64 ∧ v18 = .int .i64 i ∧ Hid (BlkY wr B0 23 (List.replicate 32 0)) ∧ Hid (BlkY wr (B0 + 1) 148 (padN 92 ks i)) ∧ Hid (BlkY wr (B0 + 1 + 1) 148 (padN 54 ks i)) ∧ Hid (Below w.heap.size w wr) ∧ Hid (B0 + 3 ≤ wr.heap.size)) (fun v18 _ => 64 - (Go.RowKit.intOf v18).toNat)
 case atStart => exact ⟨0, by omega, rfl, D0, D1, D2, B1, aside (by rw [Z1.out]; exact Nat.le_refl _)⟩
 case round =>
  clear D0 D1 D2 Z1 B1
  obtain ⟨i, hi, rfl, D0, D1, D2, HB, HZ⟩ := hrel
  by_cases hi6 : i < 64
  ·have i0 : (i : Int) < 64 := by omega
   have c1 := D1.out.cell (j := i) (by rw [padN_len]; omega)
   have c2 := D2.out.cell (j := i) (by rw [padN_len]; omega)
   have f1 := D1.out.fz i
   have f2 := D2.out.fz i
   have hxb : ks.getD i 0 < 256 := getD_lt HKb.out (by decide) i
   have x1 : bits .xor .u8 ((ks.getD i 0 : Nat) : Int) 92 = ((ks.getD i 0 ^^^ 92 : Nat) : Int) := u8_xor_nat _ 92 hxb (by decide)
   have x2 : bits .xor .u8 ((ks.getD i 0 : Nat) : Int) 54 = ((ks.getD i 0 ^^^ 54 : Nat) : Int) := u8_xor_nat _ 54 hxb (by decide)
   have hne : B0 + 1 + 1 ≠ B0 + 1 := by omega
   have N0 : Hid (BlkY ((wr.setCell ⟨B0 + 1, i, none⟩ (.int .u8 ((ks.getD i 0 ^^^ 92 : Nat) : Int))).setCell ⟨B0 + 1 + 1, i, none⟩ (.int .u8 ((ks.getD i 0 ^^^ 54 : Nat) : Int))) B0 23 (List.replicate 32 0)) := aside ((D0.out.other _ _ _ (by omega)).other _ _ _ (by omega))
   have N1 : Hid (BlkY ((wr.setCell ⟨B0 + 1, i, none⟩ (.int .u8 ((ks.getD i 0 ^^^ 92 : Nat) : Int))).setCell ⟨B0 + 1 + 1, i, none⟩ (.int .u8 ((ks.getD i 0 ^^^ 54 : Nat) : Int))) (B0 + 1) 148 (padN 92 ks (i + 1))) := aside (by rw [← padN_set hi6]; exact (D1.out.set i _).other _ _ _ (by omega))
   have N2 : Hid (BlkY ((wr.setCell ⟨B0 + 1, i, none⟩ (.int .u8 ((ks.getD i 0 ^^^ 92 : Nat) : Int))).setCell ⟨B0 + 1 + 1, i, none⟩ (.int .u8 ((ks.getD i 0 ^^^ 54 : Nat) : Int))) (B0 + 1 + 1) 148 (padN 54 ks (i + 1))) := aside (by rw [← padN_set hi6]; exact (D2.out.other _ _ _ (by omega)).set i _)
   have HBn : Hid (Below w.heap.size w ((wr.setCell ⟨B0 + 1, i, none⟩ (.int .u8 ((ks.getD i 0 ^^^ 92 : Nat) : Int))).setCell ⟨B0 + 1 + 1, i, none⟩ (.int .u8 ((ks.getD i 0 ^^^ 54 : Nat) : Int)))) := aside ((HB.out.setCell (p := ⟨B0 + 1, i, none⟩) (show w.heap.size ≤ B0 + 1 by rw [EB.out]; omega) _).setCell (p := ⟨B0 + 1 + 1, i, none⟩) (show w.heap.size ≤ B0 + 1 + 1 by rw [EB.out]; omega) _)
   have HZn : Hid (B0 + 3 ≤ ((wr.setCell ⟨B0 + 1, i, none⟩ (.int .u8 ((ks.getD i 0 ^^^ 92 : Nat) : Int))).setCell ⟨B0 + 1 + 1, i, none⟩ (.int .u8 ((ks.getD i 0 ^^^ 54 : Nat) : Int))).heap.size) := aside (by simpa using HZ.out)
   have c2' : (wr.setCell ⟨B0 + 1, i, none⟩ (.int .u8 ((ks.getD i 0 ^^^ 92 : Nat) : Int))).cell? ⟨B0 + 1 + 1, i, none⟩ = some (.int .u8 ((padN 54 ks i).getD i 0 : Nat)) := (D2.out.other _ _ _ hne).cell (by rw [padN_len]; omega)
   have f2' : (wr.setCell ⟨B0 + 1, i, none⟩ (.int .u8 ((ks.getD i 0 ^^^ 92 : Nat) : Int))).frozen? ⟨B0 + 1 + 1, i, none⟩ = false := (D2.out.other _ _ _ hne).fz i
   by_cases hik : i < kn
   ·have ik0 : (i : Int) < (kn : Int) := by omega
    obtain ⟨b, off, hKe, hbl, hcell⟩ := YSl.at1 (Sl.below HK.out HB.out) (by omega)
    have ck := hcell i hik
    generalize ks.getD i 0 = x at *
    subst hKe
    clear hcell hbl hxb D0 D1 D2 HB HZ
    go_wp2
    exact ⟨⟨i + 1, by omega, by go_num, N0, N1, N2, HBn, HZn⟩, by simp [Go.RowKit.intOf]; omega⟩
   ·have ik0 : ((i : Int) < (kn : Int)) = False := by simp only [eq_iff_iff, iff_false]; omega
    have hx0 : ks.getD i 0 = 0 := by
     rw [List.getD_eq_getElem?_getD, List.getElem?_eq_none (by have := HKl.out; omega)]
     rfl
    rw [hx0] at x1 x2 N0 N1 N2 HBn HZn c2' f2'
    clear hxb D0 D1 D2 HB HZ hx0
    go_wp2
    exact ⟨⟨i + 1, by omega, by go_num, N0, N1, N2, HBn, HZn⟩, by simp [Go.RowKit.intOf]; omega⟩
  ·obtain rfl : i = 64 := by omega
   clear hi6
   have hrz : 1 < wr.heap.size := by have := HZ.out; omega
   have HGr : Hid (RoundsAt wr) := aside (HG.out.below HB.out)
   have hw0 : w.heap.size ≤ wr.heap.size := HB.out.size
   have hB2 : B0 + 1 + 1 < wr.heap.size := by have := HZ.out; omega
   have P1 := aside (padN_small (x := 92) (k := ks) (by decide) HKb.out 64)
   have P2 := aside (padN_small (x := 54) (k := ks) (by decide) HKb.out 64)
   have hin := padN_len 54 ks 64
   have HPm := aside (fun (m : List Nat) => sha_app (a := padN 54 ks 64) (m := m) hin)
   obtain ⟨I, hI⟩ : ∃ I, I = padN 54 ks 64 := ⟨_, rfl⟩
   rw [← hI] at D2 P2 HPm hin
   have HI := aside hI
   clear hI
   go_wp2_with fail
   refine (new_hash wr).mono ?_
   rintro e w2 ⟨b, rfl, hb, hh, hb2⟩
   have HB2 := aside (HB.out.trans (hb2.mono hw0))
   have HBr := aside hb2
   have HH := aside hh
   have hgb : 1 < b := by omega
   have HG2 : Hid (RoundsAt w2) := aside (HG.out.below HB2.out)
   have HY2 : Hid (YSl w2 b (some ⟨B0 + 1 + 1, 0, none⟩) 64 I) := aside ((D2.out.below hb2 hB2).sl hin (by omega))
   have hwb : w.heap.size ≤ b := by omega
   clear hh hb2
   go_wp2_with fail
   refine (write_room b startL rfl start_small I (some ⟨B0 + 1 + 1, 0, none⟩) 64 64 none 0 0 (by omega) w2 (show HashAt w2 b startL (.slice none 0 0) ((0 : Nat) : Int) from HH.out) (RoomS.nil _ _) HY2.out (by omega) P2.out HG2.out hgb).mono ?_
   rintro e w3 ⟨rfl, hb3, G, c3, v0, v1, v2, v3, v4, v5, v6, v7, hv, hh3, hy3, hr3⟩
   have HB3 : Hid (Below w.heap.size w w3) := aside (HB2.out.trans (hb3.mono hwb))
   have HBr3 : Hid (Below wr.heap.size wr w3) := aside (HBr.out.trans (hb3.mono hb))
   have HH3 : Hid (HashAt w3 b [v0, v1, v2, v3, v4, v5, v6, v7] (.slice G 0 c3) ((64 : Nat) : Int)) := aside hh3
   have HV : Hid (blocksN startL I 1 = [v0, v1, v2, v3, v4, v5, v6, v7]) := aside hv
   have HR3 := aside hr3
   have HG3 : Hid (RoundsAt w3) := aside (HG.out.below HB3.out)
   have HS3 : Hid (Small [v0, v1, v2, v3, v4, v5, v6, v7]) := aside (mac_small hv start_small)
   have HY3 : Hid (YSl w3 b M mn ms) := aside ((Sl.below HM.out HB3.out).more hwb)
   clear hb3 hh3 hy3 hr3 hv
   go_wp2_with fail
   refine (write_room b [v0, v1, v2, v3, v4, v5, v6, v7] rfl HS3.out ms M mn mc G c3 64 (by omega) w3 HH3.out HR3.out HY3.out (by omega) HMb.out HG3.out hgb).mono ?_
   rintro e w4 ⟨rfl, hb4, G4, c4, u0, u1, u2, u3, u4, u5, u6, u7, hu, hh4, hy4, hr4⟩
   have HB4 : Hid (Below w.heap.size w w4) := aside (HB3.out.trans (hb4.mono hwb))
   have HBr4 : Hid (Below wr.heap.size wr w4) := aside (HBr3.out.trans (hb4.mono hb))
   have HH4 := aside hh4
   have HU := aside hu
   have HY4 := aside hy4
   have HG4 : Hid (RoundsAt w4) := aside (HG.out.below HB4.out)
   have HS4 : Hid (Small [u0, u1, u2, u3, u4, u5, u6, u7]) := aside (mac_small hu HS3.out)
   clear hb4 hh4 hy4 hr4 hu
   go_wp2_with fail
   refine (hsum_any b u0 u1 u2 u3 u4 u5 u6 u7 HS4.out (ms.drop (64 * (mn / 64))) G4 (mn % 64) c4 (64 + mn) w4 HH4.out HY4.out (Nat.mod_lt _ (by decide)) (by omega) (fun x hx => HMb.out x (List.mem_of_mem_drop hx)) HG4.out).mono ?_
   rintro e w5 ⟨rfl, hb5⟩
   have hsh : outL (blocksN [u0, u1, u2, u3, u4, u5, u6, u7] (tailL (ms.drop (64 * (mn / 64))) (64 + mn)) ((tailL (ms.drop (64 * (mn / 64))) (64 + mn)).length / 64)) = shaL (I ++ ms) := by
    rw [HPm.out ms, HMl.out, HV.out, HU.out]
   rw [hsh]
   have HB5 : Hid (Below w.heap.size w w5) := aside (HB4.out.trans (hb5.mono HB4.out.size))
   have HBr5 : Hid (Below wr.heap.size wr w5) := aside (HBr4.out.trans (hb5.mono HBr4.out.size))
   clear hb5 hsh HH HBr HB2 HG2 HY2 HB3 HBr3 HH3 HV HR3 HG3 HS3 HY3 HB4 HBr4 HH4 HU HY4 HG4 HS4
   obtain ⟨X, hX⟩ : ∃ X, X = shaL (I ++ ms) := ⟨_, rfl⟩
   have hXl : X.length = 32 := by rw [hX]; exact shaL_len _
   have HXb : Hid (∀ x ∈ X, x < 256) := aside (by rw [hX]; exact shaL_small _)
   rw [← hX]
   have HX := aside hX
   clear hX
   have HS9 : Hid ((Tryz.prog.info? 23).map (·.size) = some (rowY X).size) := aside (by rw [rowY_size, hXl]; kernel_rfl)
   have HS8 : Hid ((rowY (List.replicate 32 0)).size = (rowY X).size) := aside (by rw [rowY_size, rowY_size, hXl]; rfl)
   have DX := aside (BlkY.new w5 23 (List.replicate 32 0))
   go_upto_region 17 with (first
    | (refine wpList_store_row rfl 23 (.tmp 11) (.tmp 46) rfl w5.heap.size (rowY X) rfl rfl 23 (rowY (List.replicate 32 0)) DX.out HS9.out HS8.out (rowY_one _) ?_)
    | fail)
   have HB6 : Hid (Below w.heap.size w ((w5.alloc (.cells (rowY (List.replicate 32 0)) 23)).setRow w5.heap.size (rowY X))) := aside (below_setRow (HB5.out.alloc HB5.out.size _) _ HB5.out.size _)
   have DX6 : Hid (BlkY ((w5.alloc (.cells (rowY (List.replicate 32 0)) 23)).setRow w5.heap.size (rowY X)) w5.heap.size 23 X) := aside (setRow_heap _ _ _ _ _ _ DX.out)
   have hB05 : B0 + 1 + 1 < w5.heap.size := Nat.lt_of_lt_of_le hB2 HBr5.out.size
   have D06 : Hid (BlkY ((w5.alloc (.cells (rowY (List.replicate 32 0)) 23)).setRow w5.heap.size (rowY X)) B0 23 (List.replicate 32 0)) := aside ((setRow_other _ _ _ _ (by omega)).trans ((D0.out.below HBr5.out (by omega)).alloc _))
   have D16 : Hid (BlkY ((w5.alloc (.cells (rowY (List.replicate 32 0)) 23)).setRow w5.heap.size (rowY X)) (B0 + 1) 148 (padN 92 ks 64)) := aside ((setRow_other _ _ _ _ (by omega)).trans ((D1.out.below HBr5.out (by omega)).alloc _))
   have Z6 : Hid (w5.heap.size < ((w5.alloc (.cells (rowY (List.replicate 32 0)) 23)).setRow w5.heap.size (rowY X)).heap.size) := aside DX6.out.lt
   change Code.wp _ _ _ _ ((w5.alloc (.cells (rowY (List.replicate 32 0)) 23)).setRow w5.heap.size (rowY X))
   generalize ((w5.alloc (.cells (rowY (List.replicate 32 0)) 23)).setRow w5.heap.size (rowY X)) = w6 at HB6 DX6 D06 D16 Z6 ⊢
   obtain ⟨bx, hbx⟩ : ∃ bx, bx = w5.heap.size := ⟨_, rfl⟩
   rw [← hbx] at DX6 Z6 hB05 ⊢
   clear hbx HB5 HBr5 DX HS9 HS8 D0 D1 D2
   go_still_tail 2, (by kernel_rfl)
   change wpList _ _ _ _ _ w6.drew
   have HB7 : Hid (Below w.heap.size w w6.drew) := aside (below_drawn HB6.out 1)
   have DX7 : Hid (BlkY w6.drew bx 23 X) := aside DX6.out
   have D07 : Hid (BlkY w6.drew B0 23 (List.replicate 32 0)) := aside D06.out
   have D17 : Hid (BlkY w6.drew (B0 + 1) 148 (padN 92 ks 64)) := aside D16.out
   generalize w6.drew = w7 at HB7 DX7 D07 D17 ⊢
   clear HB6 DX6 D06 D16 Z6
   have HO7 : Hid (YSl w7 w7.heap.size (some ⟨B0 + 1, 0, none⟩) 64 (padN 92 ks 64)) := aside (D17.out.sl (padN_len _ _ _) D17.out.lt)
   have HX7 : Hid (YSl w7 w7.heap.size (some ⟨bx, 0, none⟩) 32 X) := aside (DX7.out.sl hXl DX7.out.lt)
   have HX1 : Hid (∀ u ∈ X.flatMap byV, u.oneCell' = true) := aside (fun u hu => by
    obtain ⟨x, -, hx⟩ := List.mem_flatMap.1 hu
    simp only [byV, List.mem_singleton] at hx
    rw [hx]; rfl)
   go_wp2_with (first
    | (at_builtin; refine wpList_full rfl (.tmp 47) (.tmp 48) 67 rfl (.int .u8 0) 1 Tryz.underlying67 byteInfo rfl _ _ 64 _ rfl HO7.out (by decide) _ _ 32 _ _ rfl HX7.out HX1.out (by decide) (by decide) (by decide) ?_; intro A8 c8 w8 hs8 hb8; have HS8 := aside hs8; have HB8 := aside hb8; clear hs8 hb8)
    | fail)
   have hY8 : YSl w8 w8.heap.size A8 96 (padN 92 ks 64 ++ X) := by
    have h := HS8.out
    rw [← List.flatMap_append] at h
    exact h
   have hB8 : Below w.heap.size w w8 := HB7.out.trans (HB8.out.mono HB7.out.size)
   have hby : ∀ x ∈ padN 92 ks 64 ++ X, x < 256 := fun x hx => by
    rcases List.mem_append.1 hx with h | h
    ·exact P1.out x h
    ·exact HXb.out x h
   have HSh := aside (sha_any (padN 92 ks 64 ++ X) A8 96 c8 w8 hY8 (by decide) hby (HG.out.below hB8))
   have HMc : Hid (shaL (padN 92 ks 64 ++ X) = macL ks ms) := aside (by rw [HX.out, HI.out]; rfl)
   have HB8' := aside hB8
   have D08 := aside (D07.out.below HB8.out D07.out.lt)
   clear hY8 hby hB8 HS8
   refine HSh.out.mono ?_
   rintro e w9 ⟨rfl, hb9⟩
   rw [HMc.out]
   have HB9 : Hid (Below w.heap.size w w9) := aside (HB8'.out.trans (hb9.mono HB8'.out.size))
   have D09 := aside (D08.out.below hb9 D08.out.lt)
   have HS9 : Hid ((Tryz.prog.info? 23).map (·.size) = some (rowY (macL ks ms)).size) := aside (by rw [rowY_size, macL_len]; kernel_rfl)
   have HS8 : Hid ((rowY (List.replicate 32 0)).size = (rowY (macL ks ms)).size) := aside (by rw [rowY_size, rowY_size, macL_len]; rfl)
   clear hb9 HSh HMc
   go_wp2_with (first
    | (refine wpList_store_row rfl 23 (.tmp 4) (.tmp 50) rfl B0 (rowY (macL ks ms)) rfl rfl 23 (rowY (List.replicate 32 0)) D09.out HS9.out HS8.out (rowY_one _) ?_)
    | fail)
   refine bodyPost_ret (results_cell_row rfl _ _ B0 23 (rowY (macL ks ms)) (0, 0) _ rfl (setRow_heap w9 B0 _ _ _ _ D09.out) Tryz.underlying23 rfl HS9.out) rfl ?_
   refine ⟨rfl, ?_⟩
   exact below_setRow HB9.out _ (by rw [EB.out]; exact Nat.le_refl _) _
end Go.Proofs.YtbpabjhcjffkmaaGreatDoor
