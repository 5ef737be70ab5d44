/- The out of a coin. Conditions: named in each theorem. clear at a slice of records; wallet.own$1; slices.IndexFunc at coins: the walks. Conditions: named in each theorem. slices.DeleteFunc at coins; wallet.own: the walks. Conditions: named in each theorem. wallet.own: the walk. Conditions: named in each theorem. -/
import Derived.Test.YtbpabjhcjffkmaaGreatDoorCoinA
import Derived.Test.YtbpabjhcjffkmaaGreatDoorWalH
import Derived.Test.YtbpabjhcjffkmaaGreatDoorCopB
/- The out of a coin. Conditions: named in each theorem. -/
namespace Go.Proofs.YtbpabjhcjffkmaaGreatDoor
open Go.RowKit Go.ChangeShapes Go.WideShapes Go.ChangeAt

theorem encC_out (r : RCoin) {j : Nat} {v : Value} (h : [Value.int .i64 r.amt, .slice r.lA r.ln r.lc][j]? = some v) : (encC r)[33 + j]? = some v := by
 have hj := (List.getElem?_eq_some_iff.1 h).1
 simp only [List.length_cons, List.length_nil] at hj
 have e := encC_at r (j + 1)
 rw [show 32 + (j + 1) = 33 + j by omega] at e
 rw [e]
 match j, hj with
 | 0, _ => exact h
 | 1, _ => exact h
theorem range_out {w : World} {b o : Nat} {r : RCoin} (h : w.rangeAt b o (encC r)) : w.rangeAt b (o + 33) [.int .i64 r.amt, .slice r.lA r.ln r.lc] := fun j v hj => by
 have := h (33 + j) v (encC_out r hj)
 rw [← this, Nat.add_assoc]
end Go.Proofs.YtbpabjhcjffkmaaGreatDoor

/- clear at a slice of records; wallet.own$1; slices.IndexFunc at coins: the walks. Conditions: named in each theorem. -/
namespace Go.Proofs.YtbpabjhcjffkmaaGreatDoor
open Go.RowKit Go.ChangeShapes Go.WideShapes Go.ChangeAt

theorem zeroCells_len (z : Array Value) (n : Nat) : (Builtin.zeroCells z n).toList.length = n * z.size := by simp [Builtin.zeroCells]
theorem zeroCells_one (z : Array Value) (n : Nat) (h : ∀ u ∈ z.toList, u.oneCell' = true) : ∀ u ∈ (Builtin.zeroCells z n).toList, u.oneCell' = true := by
 intro u hu
 simp only [Builtin.zeroCells, Array.toList_map, List.mem_map, Array.toList_range, List.mem_range] at hu
 obtain ⟨i, hi, rfl⟩ := hu
 have hz : 0 < z.size := by
  rcases Nat.eq_zero_or_pos z.size with h0 | h0
  ·rw [h0] at hi; omega
  ·exact h0
 have hlt := Nat.mod_lt i hz
 rw [getElem!_pos z (i % z.size) hlt]
 exact h _ (by simp)
/-- clear at a slice of records: its cells have turned, no other. -/
theorem run_clear_rec {P : Program} {e : TypeId} (t ty : TypeId) (z : Value) (sz bytes : Nat) (ht : P.underlying t = some (.slice e)) (hinfo : (P.info? e).map (fun i => (i.zero, i.size, i.bytes)) = some (some z, sz, bytes)) (hzs : z.cells.size = sz) (hz1 : ∀ u ∈ z.cells.toList, u.oneCell' = true)
  (w : World) (b off n c : Nat) (hn : 0 < n) (hth : w.there b off (n * sz)) : ∃ vs : List Value, (Builtin.clear_ #[t] ty #[.slice (some ⟨b, off, none⟩) n c]).run P w = .ok (.tuple #[]) (w.setCells b off vs) := by
 obtain ⟨i0, hI, hIz, hIs, hIb⟩ := info_parts hinfo
 have hl : (Builtin.zeroCells z.cells n).toList.length = n * sz := by rw [zeroCells_len, hzs]
 have hst := run_storeCells_cells (P := P) b off (Builtin.zeroCells z.cells n).toList 0 w (fun j hj => by simpa using (hth j (by rwa [hl] at hj)).1) (fun j hj => by simpa using (hth j (by rwa [hl] at hj)).2) (zeroCells_one _ _ hz1)
 simp only [Nat.add_zero] at hst
 obtain ⟨m, rfl⟩ : ∃ m, n = m + 1 := ⟨n - 1, by omega⟩
 have hv : ∀ w, (zeroValue e).run P w = .ok z w := fun w => by simp [zeroValue, typeInfo, hI, hIz]
 refine ⟨(Builtin.zeroCells z.cells (m + 1)).toList, ?_⟩
 simp [Builtin.clear_, run_underlying ht, hv, hst]
/-- A coin that a wallet with such locks keeps. -/
def keepC (ls : List (List POp)) (r : RCoin) : Bool := decide (0 ≤ ownF ls 0 r.pl)
/-- The locks, and the box that holds them. -/
structure Locks (ls : List Lk) (A : Option Addr) (N c lb : Nat) (x : World) : Prop where
 row : Sl x x.heap.size 1 A N (ls.map lkV)
 each : ∀ l ∈ ls, RSl x x.heap.size l.1 2 l.2
 box : x.cell? ⟨lb, 0, none⟩ = some (.slice A N c)
theorem Locks.lt {ls : List Lk} {A : Option Addr} {N c lb : Nat} {x : World} (h : Locks ls A N c lb x) : lb < x.heap.size := by
 have := World.block_lt_of_cell? x _ h.box
 exact this
theorem Locks.call {ls : List Lk} {A : Option Addr} {N c lb : Nat} {x y : World} (h : Locks ls A N c lb x) (hb : Below x.heap.size x y) : Locks ls A N c lb y :=
 ⟨(Sl.below h.row hb).more hb.size, fun l hl => ((h.each l hl).below hb).more hb.size, (hb.cell (p := ⟨lb, 0, none⟩) h.lt).trans h.box⟩
set_option maxHeartbeats 20000000 in
set_option maxRecDepth 100000 in
theorem ownc_any (ls : List Lk) (r : RCoin) (A : Option Addr) (N c lb : Nat) (hN : N ≤ 100) (w : World) (hE : Locks ls A N c lb w) (hr : RSl w w.heap.size r.lA r.ln r.lk) :
  Calls Tryz.prog 62 #[.agg (encC r).toArray, .pointer (some ⟨lb, 0, none⟩)] w (fun e w' => e = .returned (.bool (!keepC (ls.map lkP) r)) ∧ Below w.heap.size w w') := by
 have B1 : Hid (Below w.heap.size w (w.alloc (.cells (encC r).toArray 57))) := aside ((Below.refl _ _).alloc (Nat.le_refl _) _)
 have D1 : Hid ((w.alloc (.cells (encC r).toArray 57)).heap[w.heap.size]? = some (.cells (encC r).toArray 57 (0, 0))) := aside (heap_alloc_new _ _)
 have HE := aside (hE.call B1.out)
 have HR := aside ((hr.below B1.out).more B1.out.size)
 obtain ⟨V, hV⟩ : ∃ V, V = keepC (ls.map lkP) r := ⟨_, rfl⟩
 have HV := aside hV
 rw [← hV]
 clear hE hr hV
 go_enter Tryz.func62, Tryz.ntmps62
 go_upto_region 1 with fail
 change Code.wp _ _ _ _ (w.alloc (.cells (encC r).toArray 57))
 generalize (w.alloc (.cells (encC r).toArray 57)) = w1 at B1 D1 HE HR ⊢
 obtain ⟨bx, hbx⟩ : ∃ bx, bx = w.heap.size := ⟨_, rfl⟩
 rw [← hbx] at D1 ⊢
 have hb1 := HE.out.box
 have HRg : Hid (w1.rangeAt bx 33 [.int .i64 r.amt, .slice r.lA r.ln r.lc]) := aside (fun j v hj => by
  rw [cell_of_row _ _ _ _ _ _ D1.out, List.getElem?_toArray]
  exact encC_out r hj)
 have HC := aside (owns_any ls r.lk r.amt A r.lA N c r.ln r.lc hN w1 HE.out.row HE.out.each HR.out)
 have HVi : Hid (V = decide (0 ≤ ownF (ls.map lkP) 0 (r.lk.map ROp.pl))) := aside HV.out
 generalize ownF (ls.map lkP) 0 (r.lk.map ROp.pl) = R at HC HVi
 clear hbx D1 HE HR HV
 go_wp2_with (first
  | (refine wpList_load_mid rfl 27 (.tmp 5) rfl bx 33 rfl [.int .i64 r.amt, .slice r.lA r.ln r.lc] _ HRg.out Tryz.underlying27 rfl outInfo ?_)
  | fail)
 refine HC.out.mono ?_
 rintro e w3 ⟨rfl, hb3⟩
 have HB3 := aside (B1.out.trans (hb3.mono B1.out.size))
 clear hb3 hb1
 by_cases hR : R < 0
 ·have hv : V = false := by rw [HVi.out]; simp; omega
  subst hv
  go_wp2
  go_ret
  exact ⟨rfl, HB3.out⟩
 ·have hv : V = true := by rw [HVi.out]; simp; omega
  subst hv
  have hR2 : (R < 0) = False := by simp only [eq_iff_iff, iff_false]; exact hR
  clear hR
  go_wp2
  go_ret
  exact ⟨rfl, HB3.out⟩
/-- The first of some coins that is not kept. -/
def dropI (p : RCoin → Bool) : List RCoin → Nat → Int
 | [], _ => -1
 | c :: r, k => if p c then dropI p r (k + 1) else k
set_option maxHeartbeats 20000000 in
set_option maxRecDepth 100000 in
theorem idx_any (ls : List Lk) (qs : List RCoin) (A A' : Option Addr) (N c lb n c' : Nat) (hN : N ≤ 100) (hn : n ≤ 1000) (w : World) (hE : Locks ls A N c lb w) (h : CSl w w.heap.size A' n qs) :
  Calls Tryz.prog 102 #[.slice A' n c', .func (.func 62) #[] #[.pointer (some ⟨lb, 0, none⟩)]] w (fun e w' => e = .returned (.int .i64 (dropI (keepC (ls.map lkP)) qs 0)) ∧ Below w.heap.size w w') := by
 have hl := h.len
 obtain ⟨R, hR⟩ : ∃ R, R = dropI (keepC (ls.map lkP)) qs 0 := ⟨_, rfl⟩
 rw [← hR]
 have HR0 : Hid (R = dropI (keepC (ls.map lkP)) (qs.drop 0) 0) := aside hR
 have HB0 := aside (Below.refl w.heap.size w)
 have HE := aside hE
 have HL := aside hl
 have H := aside h
 clear hl h hE hR
 go_enter Tryz.func102, Tryz.ntmps102
 go_wp2_with fail
 go_loopw [8] (fun v8 wr => ∃ k : Nat, k ≤ n ∧ v8 = .int .i64 k ∧ Hid (Below w.heap.size w wr) ∧ Hid (R = dropI (keepC (ls.map lkP)) (qs.drop k) k)) (fun v8 _ => n - (Go.RowKit.intOf v8).toNat)
 case atStart => exact ⟨0, Nat.zero_le _, rfl, HB0, HR0⟩
 case round =>
  clear HB0 HR0
  obtain ⟨k, hk, rfl, HB, HR⟩ := hrel
  by_cases hkn : k < n
  ·have k0 : (k : Int) < (n : Int) := by omega
   have hwz := HB.out.size
   have hCB := H.out.below HB.out
   obtain ⟨b, of, hAe, hb1, hrg⟩ := hCB.at_ hkn
   have hm := hCB.mem hkn
   have hlk := (hCB.lock _ hm).more hwz
   have hdr : qs.drop k = qs.getD k noC :: qs.drop (k + 1) := by
    rw [List.getD_eq_getElem?_getD, List.getElem?_eq_getElem (by have := HL.out; omega)]
    exact List.drop_eq_getElem_cons (by have := HL.out; omega)
   have hq := HR.out
   rw [hdr] at hq
   generalize qs.getD k noC = r at *
   have hq2 : R = if keepC (ls.map lkP) r then dropI (keepC (ls.map lkP)) (qs.drop (k + 1)) (k + 1) else (k : Int) := hq
   have HQ := aside hq2
   have HRg := aside hrg
   have HC := aside (ownc_any ls r A N c lb hN wr (HE.out.call HB.out) hlk)
   have HS1 : Hid ((Tryz.prog.info? 57).map (·.size) = some (encC r).length) := aside (by rw [encC_len]; kernel_rfl)
   generalize keepC (ls.map lkP) r = V at HQ HC
   subst hAe
   clear hrg hlk hq hq2 hdr hm hCB hkn
   go_wp2_with (first
    | (refine wpList_load_mid rfl 57 (.tmp 14) rfl b (of + k * 36) rfl (encC r) _ HRg.out Tryz.underlying57 rfl HS1.out ?_)
    | fail)
   refine HC.out.mono ?_
   rintro e w3 ⟨rfl, hb3⟩
   have HB3 := aside (HB.out.trans (hb3.mono hwz))
   clear hb3 HC HRg
   cases V with
   | false =>
    have hRk : R = (k : Int) := HQ.out.trans (if_neg (by simp))
    subst hRk
    go_wp2
    go_ret
    exact ⟨rfl, HB3.out⟩
   | true =>
    have HR2 : Hid (R = dropI (keepC (ls.map lkP)) (qs.drop (k + 1)) (k + 1)) := aside (HQ.out.trans (if_pos rfl))
    go_wp2
    exact ⟨⟨k + 1, by omega, by go_num, HB3, HR2⟩, by simp [Go.RowKit.intOf]; omega⟩
  ·obtain rfl : n = k := by omega
   have i0 : ((n : Int) < (n : Int)) = False := by simp
   have hRk : R = -1 := by
    rw [HR.out, List.drop_of_length_le (by have := HL.out; omega)]
    rfl
   subst hRk
   clear hkn
   go_wp2
   go_ret
   exact ⟨rfl, HB.out⟩
end Go.Proofs.YtbpabjhcjffkmaaGreatDoor

/- slices.DeleteFunc at coins; wallet.own: the walks. Conditions: named in each theorem. -/
namespace Go.Proofs.YtbpabjhcjffkmaaGreatDoor
open Go.RowKit Go.ChangeShapes Go.WideShapes Go.ChangeAt

theorem dropI_spec (p : RCoin → Bool) : ∀ (qs : List RCoin) (k : Nat), (dropI p qs k = -1 ∧ qs.filter p = qs) ∨ ∃ i, i < qs.length ∧ dropI p qs k = ((k + i : Nat) : Int) ∧ (qs.take (i + 1)).filter p = qs.take i
 | [], _ => .inl ⟨rfl, rfl⟩
 | c :: r, k => by
  unfold dropI
  cases hp : p c with
  | false => exact .inr ⟨0, by simp, by simp, by simp [hp]⟩
  | true =>
   rcases dropI_spec p r (k + 1) with ⟨h1, h2⟩ | ⟨i, h1, h2, h3⟩
   ·exact .inl ⟨by simpa using h1, by simp [hp, h2]⟩
   ·refine .inr ⟨i + 1, by simpa using h1, ?_, ?_⟩
    ·rw [if_pos rfl, h2]
     congr 1
     omega
    ·rw [List.take_succ_cons, List.filter_cons_of_pos hp, h3]
     rfl
/-- A row of coins, kept ones ahead, and what is not looked at behind. -/
structure Half (w : World) (g C n i j : Nat) (ks qs : List RCoin) : Prop where
 heap : ∃ cur, w.heap[g]? = some (.cells cur 57 (0, 0)) ∧ cur.size = C
 fits : n * 36 ≤ C
 front : ∀ k, k < i → w.rangeAt g (k * 36) (encC (ks.getD k noC))
 back : ∀ k, j ≤ k → k < n → w.rangeAt g (k * 36) (encC (qs.getD k noC))
theorem Half.lt {w : World} {g C n i j : Nat} {ks qs : List RCoin} (h : Half w g C n i j ks qs) : g < w.heap.size := by
 obtain ⟨cur, h1, _⟩ := h.heap
 exact (Array.getElem?_eq_some_iff.1 h1).1
theorem Half.below {w w' : World} {N g C n i j : Nat} {ks qs : List RCoin} (h : Half w g C n i j ks qs) (hb : Below N w w') (hN : g < N) : Half w' g C n i j ks qs := by
 obtain ⟨cur, h1, h2⟩ := h.heap
 exact ⟨⟨cur, (hb.block g hN).trans h1, h2⟩, h.fits, fun k hk => range_below (h.front k hk) hb hN, fun k h3 h4 => range_below (h.back k h3 h4) hb hN⟩
theorem Half.next {w : World} {g C n i j : Nat} {ks qs : List RCoin} (h : Half w g C n i j ks qs) : Half w g C n i (j + 1) ks qs :=
 ⟨h.heap, h.fits, h.front, fun k h3 h4 => h.back k (by omega) h4⟩
theorem Half.there {w : World} {g C n i j : Nat} {ks qs : List RCoin} (h : Half w g C n i j ks qs) {o m : Nat} (hm : o + m ≤ C) : w.there g o m := fun x hx => by
 obtain ⟨cur, h1, h2⟩ := h.heap
 constructor
 ·rw [cell_of_row _ _ _ _ _ _ h1, Array.getElem?_eq_getElem (by omega)]
  rfl
 ·simp [World.frozen?, h1]
theorem getC_snoc {ks : List RCoin} {r : RCoin} {i : Nat} (hi : ks.length = i) : (ks ++ [r]).getD i noC = r := by
 subst hi
 simp [List.getD_eq_getElem?_getD]
theorem getC_app {ks l : List RCoin} {k : Nat} (hk : k < ks.length) : (ks ++ l).getD k noC = ks.getD k noC := by
 simp only [List.getD_eq_getElem?_getD]
 rw [List.getElem?_append_left hk]
theorem Half.store {w : World} {g C n i j : Nat} {ks qs : List RCoin} (h : Half w g C n i j ks qs) (hi : ks.length = i) (hij : i ≤ j) (hj : j < n) (r : RCoin) : Half (w.setCells g (i * 36) (encC r)) g C n (i + 1) (j + 1) (ks ++ [r]) qs := by
 have hf := h.fits
 have hth : w.there g (i * 36) (encC r).length := by rw [encC_len]; exact h.there (by omega)
 obtain ⟨cur, h1, h2⟩ := h.heap
 obtain ⟨cur', h3, h4⟩ := heap_setCells_same (encC r) (i * 36) w cur h1
 refine ⟨⟨cur', h3, h4.trans h2⟩, hf, fun k hk => ?_, fun k h5 h6 => ?_⟩
 ·by_cases e : k = i
  ·subst e
   rw [getC_snoc hi]
   exact World.rangeAt_setCells_same _ _ _ _ hth
  ·rw [getC_app (by omega)]
   exact World.rangeAt_setCells_apart (h.front k (by omega)) _ _ _ (by rw [encC_len, encC_len]; omega)
 ·exact World.rangeAt_setCells_apart (h.back k (by omega) h6) _ _ _ (by rw [encC_len, encC_len]; omega)
theorem Half.cut {w : World} {g C n i j : Nat} {ks qs : List RCoin} (h : Half w g C n i j ks qs) {o : Nat} (vs : List Value) (ho : i * 36 ≤ o) : Half (w.setCells g o vs) g C n i n ks qs := by
 obtain ⟨cur, h1, h2⟩ := h.heap
 obtain ⟨cur', h3, h4⟩ := heap_setCells_same vs o w cur h1
 exact ⟨⟨cur', h3, h4.trans h2⟩, h.fits, fun k hk => World.rangeAt_setCells_apart (h.front k hk) _ _ _ (by rw [encC_len]; omega), fun k h5 h6 => by omega⟩
theorem Half.sl {w : World} {g C n i j : Nat} {ks qs : List RCoin} (h : Half w g C n i j ks qs) (hi : ks.length = i) : FSl encC 36 w w.heap.size (some ⟨g, 0, none⟩) i ks := by
 refine ⟨by rw [flat_len encC_len, hi], fun _ => ⟨g, 0, rfl, h.lt, fun j u hj => ?_⟩⟩
 have hjl : j < i * 36 := by
  have := (List.getElem?_eq_some_iff.1 hj).1
  rwa [flat_len encC_len, hi] at this
 have hk : j / 36 < i := (Nat.div_lt_iff_lt_mul (by decide)).2 hjl
 have hr : j % 36 < 36 := Nat.mod_lt _ (by decide)
 have hdm : j / 36 * 36 + j % 36 = j := by rw [Nat.mul_comm]; exact Nat.div_add_mod j 36
 have hg := flat_get encC_len noC ks (k := j / 36) (j := j % 36) (by omega) hr
 rw [hdm, hj] at hg
 have := h.front (j / 36) hk (j % 36) u hg.symm
 rwa [hdm, ← Nat.zero_add j] at this
theorem grown_below {w w' : World} {row : Option Nat} (h : Below w.heap.size w w') : w.grownBy w' row := ⟨h.os, h.tape, h.output, h.size, fun k hk _ => h.block k hk⟩
theorem grown_call {w w1 w2 : World} {row : Option Nat} (h : w.grownBy w1 row) (hb : Below w1.heap.size w1 w2) : w.grownBy w2 row :=
 ⟨hb.os.trans h.os, hb.tape.trans h.tape, hb.output.trans h.output, Nat.le_trans h.size hb.size, fun k hk hne => (hb.block k (Nat.lt_of_lt_of_le hk h.size)).trans (h.block k hk hne)⟩
theorem heap_cells_other {g b : Nat} (h : b ≠ g) : ∀ (vs : List Value) (o : Nat) (w : World), (w.setCells g o vs).heap[b]? = w.heap[b]?
 | [], _, _ => rfl
 | v :: r, o, w => (heap_cells_other h r (o + 1) (w.setCell ⟨g, o, none⟩ v)).trans (Below.heap_setCell w _ _ b h)
theorem grown_cells {w w1 : World} {g : Nat} (h : w.grownBy w1 (some g)) (o : Nat) (vs : List Value) : w.grownBy (w1.setCells g o vs) (some g) := by
 have hb := below_cells (B := 0) (g := g) (a := w1) (Nat.zero_le _) vs o w1 (Below.refl _ _)
 exact ⟨hb.os.trans h.os, hb.tape.trans h.tape, hb.output.trans h.output, by rw [size_cells]; exact h.size, fun k hk hne => (heap_cells_other (fun e => hne (by rw [e])) vs o w1).trans (h.block k hk hne)⟩
theorem Stays.at {w w2 : World} {N : Nat} {v : Value} {p : World → Prop} (h : Stays w N v p) (hg : w.grownBy w2 v.ownBlock) : p w2 := h w2 (fun b _ hne hl => hg.block b hl (fun e => hne e.symm)) hg.size
theorem filter_one (p : RCoin → Bool) (r : RCoin) : [r].filter p = if p r then [r] else [] := by
 cases h : p r <;> simp [h]
theorem oneC : ∀ u ∈ (Value.agg (encC noC).toArray).cells.toList, u.oneCell' = true := encC_one noC
set_option maxHeartbeats 40000000 in
set_option maxRecDepth 100000 in
theorem del_any (ls : List Lk) (qs : List RCoin) (A A' : Option Addr) (N c lb n c' base : Nat) (hN : N ≤ 100) (hn : n ≤ 1000) (w : World) (hbase : base ≤ w.heap.size) (ho : w.ownsRow base 57 36 (.slice A' n c') n (qs.flatMap encC))
  (hq : ∀ q ∈ qs, Stays w base (.slice A' n c') (fun x => RSl x x.heap.size q.lA q.ln q.lk)) (htx : ∀ q ∈ qs, q.tx.length = 32) (hE : Stays w 0 (.slice A' n c') (Locks ls A N c lb)) :
  Calls Tryz.prog 60 #[.slice A' n c', .func (.func 62) #[] #[.pointer (some ⟨lb, 0, none⟩)]] w (fun e w' => ∃ m, m ≤ n ∧ e = .returned (.slice A' m c') ∧ CSl w' w'.heap.size A' m (qs.filter (keepC (ls.map lkP))) ∧ Below base w w') := by
 have hS : CSl w w.heap.size A' n qs := ⟨Sl.own ho, fun q hm => (hq q hm).now, htx⟩
 have hl := hS.len
 have HI := aside (idx_any ls qs A A' N c lb n c' hN hn w hE.now hS)
 rcases dropI_spec (keepC (ls.map lkP)) qs 0 with ⟨h1, h2⟩ | ⟨i, h1, h2, h3⟩
 ·rw [h1] at HI
  rw [h2]
  have HS := aside hS
  have HBs := aside hbase
  clear hS ho hq htx hE h1 h2 hl hbase
  go_enter Tryz.func60, Tryz.ntmps60
  go_wp2_with fail
  refine HI.out.mono ?_
  rintro e w1 ⟨rfl, hb1⟩
  have HB1 := aside hb1
  clear hb1
  go_wp2
  go_ret
  exact ⟨n, Nat.le_refl _, rfl, HS.out.step HB1.out, HB1.out.mono HBs.out⟩
 ·rw [h2] at HI
  obtain ⟨g, cap, cur, hv, hbg, hg, hnc, hcm, hcs, htk⟩ : ∃ g cap cur, Value.slice A' n c' = .slice (some ⟨g, 0, none⟩) n cap ∧ base ≤ g ∧ w.heap[g]? = some (.cells cur 57 (0, 0)) ∧ n ≤ cap ∧ cap ≤ maxLen ∧ cur.size = cap * 36 ∧ cur.toList.take (n * 36) = qs.flatMap encC := by
   rcases ho.2 with ⟨_, h0⟩ | h
   ·omega
   ·exact h
  injection hv with e1 e2 e3
  subst e3
  subst e1
  have hin : i < n := by omega
  have hrow : ∀ k, k < n → w.rangeAt g (k * 36) (encC (qs.getD k noC)) := fun k hk => by
   obtain ⟨b, off, e, _, hc⟩ := FSl.at_ encC_len (by decide) noC hS.cells hk
   injection e with e
   injection e with e1 e2
   subst e1 e2
   intro j v hj
   have := hc j v hj
   rwa [Nat.zero_add] at this
  have hH : Half w g (c' * 36) n i (i + 1) (qs.take i) qs := ⟨⟨cur, hg, hcs⟩, Nat.mul_le_mul_right _ hnc, fun k hk => by
   have e : (qs.take i).getD k noC = qs.getD k noC := by
    simp only [List.getD_eq_getElem?_getD]
    rw [List.getElem?_take_of_lt hk]
   rw [e]
   exact hrow k (by omega), fun k _ hk => hrow k hk⟩
  have HH := aside hH
  have H3 := aside h3
  have HL := aside hl
  have HQ : Hid (∀ q ∈ qs, Stays w base (.slice (some ⟨g, 0, none⟩) n c') (fun x => RSl x x.heap.size q.lA q.ln q.lk)) := aside hq
  have HTx := aside htx
  have HE : Hid (Stays w 0 (.slice (some ⟨g, 0, none⟩) n c') (Locks ls A N c lb)) := aside hE
  have hgl : g < w.heap.size := (Array.getElem?_eq_some_iff.1 hg).1
  have HBs := aside hbase
  have HBg := aside hbg
  have hic : i ≤ c' := by omega
  clear hS ho hq htx hE h1 h2 hl hbase h3 hg hcs htk hrow hH hcm hbg e2
  rw [Nat.zero_add] at HI
  go_enter Tryz.func60, Tryz.ntmps60
  go_wp2_with fail
  refine HI.out.mono ?_
  rintro e w1 ⟨rfl, hb1⟩
  have HG1 : Hid (w.grownBy w1 (some g)) := aside (grown_below hb1)
  have HH1 : Hid (Half w1 g (c' * 36) n i (i + 1) ((qs.take (i + 1)).filter (keepC (ls.map lkP))) qs) := aside (by rw [H3.out]; exact HH.out.below hb1 hgl)
  have HN1 : Hid (((qs.take (i + 1)).filter (keepC (ls.map lkP))).length = i) := aside (by rw [H3.out, List.length_take]; have := HL.out; omega)
  clear hb1 HI HH H3
  have hi1 : ((i : Int) == -1) = false := by simp
  go_wp2_with fail
  go_loopw [5, 6] (fun v5 v6 wr => ∃ x j : Nat, x < j ∧ j ≤ n ∧ v5 = .int .i64 x ∧ v6 = .int .i64 j ∧ Hid (w.grownBy wr (some g)) ∧ Hid (Half wr g (c' * 36) n x j ((qs.take j).filter (keepC (ls.map lkP))) qs) ∧ Hid (((qs.take j).filter (keepC (ls.map lkP))).length = x)) (fun _ v6 _ => n - (Go.RowKit.intOf v6).toNat)
  case atStart => exact ⟨i, i + 1, Nat.lt_succ_self _, by omega, rfl, by go_num, HG1, HH1, HN1⟩
  case round =>
   clear HG1 HH1 HN1 hi1 hic hin
   obtain ⟨i, j, hij, hj, rfl, rfl, HG, HH, HN⟩ := hrel
   by_cases hjn : j < n
   ·have k0 : (j : Int) < (n : Int) := by omega
    have hmem : qs.getD j noC ∈ qs := by
     rw [List.getD_eq_getElem?_getD, List.getElem?_eq_getElem (by have := HL.out; omega)]
     exact List.getElem_mem _
    have htk : (qs.take (j + 1)).filter (keepC (ls.map lkP)) = (qs.take j).filter (keepC (ls.map lkP)) ++ (if keepC (ls.map lkP) (qs.getD j noC) then [qs.getD j noC] else []) := by
     rw [take_next noC (by have := HL.out; omega), List.filter_append]
     congr 1
     exact filter_one _ _
    have hrg := HH.out.back j (Nat.le_refl _) hjn
    have hgr : g < wr.heap.size := HH.out.lt
    have hst := HQ.out _ hmem
    generalize qs.getD j noC = r at *
    have HRg := aside hrg
    have HSt := aside hst
    have HTk := aside htk
    have HS9 : Hid ((Tryz.prog.info? 57).map (·.size) = some (encC r).toArray.size) := aside (by simp only [List.size_toArray, encC_len]; kernel_rfl)
    have HS8 : Hid ((encC noC).toArray.size = (encC r).toArray.size) := aside (by simp only [List.size_toArray, encC_len])
    have HO1 : Hid ((encC r).toArray.all (·.oneCell') = true) := aside (all_oneCell_toArray (encC_one r))
    have DX : Hid ((wr.alloc (.cells (encC noC).toArray 57)).heap[wr.heap.size]? = some (.cells (encC noC).toArray 57 (0, 0))) := aside (heap_alloc_new _ _)
    have HS1 : Hid ((Tryz.prog.info? 57).map (·.size) = some (encC r).length) := aside (by rw [encC_len]; kernel_rfl)
    clear hrg hst htk hmem hjn
    go_upto_region 8 with (first
     | (refine wpList_load_mid rfl 57 (.tmp 24) rfl g (j * 36) rfl (encC r) _ HRg.out Tryz.underlying57 rfl HS1.out ?_)
     | (refine wpList_store_row rfl 57 (.tmp 7) (.tmp 25) rfl wr.heap.size (encC r).toArray rfl rfl 57 (encC noC).toArray DX.out HS9.out HS8.out HO1.out ?_)
     | fail)
    have HB2 : Hid (Below wr.heap.size wr ((wr.alloc (.cells (encC noC).toArray 57)).setRow wr.heap.size (encC r).toArray)) := aside (below_setRow ((Below.refl _ _).alloc (Nat.le_refl _) _) _ (Nat.le_refl _) _)
    have DX2 : Hid (((wr.alloc (.cells (encC noC).toArray 57)).setRow wr.heap.size (encC r).toArray).heap[wr.heap.size]? = some (.cells (encC r).toArray 57 (0, 0))) := aside (setRow_heap _ _ _ _ _ _ DX.out)
    change Code.wp _ _ _ _ ((wr.alloc (.cells (encC noC).toArray 57)).setRow wr.heap.size (encC r).toArray)
    generalize ((wr.alloc (.cells (encC noC).toArray 57)).setRow wr.heap.size (encC r).toArray) = w2 at HB2 DX2 ⊢
    obtain ⟨bx, hbx⟩ : ∃ bx, bx = wr.heap.size := ⟨_, rfl⟩
    rw [← hbx] at DX2 ⊢
    have hl2 : bx < w2.heap.size := (Array.getElem?_eq_some_iff.1 DX2.out).1
    have HG2 : Hid (w.grownBy w2 (some g)) := aside (grown_call HG.out HB2.out)
    have HH2 : Hid (Half w2 g (c' * 36) n i j ((qs.take j).filter (keepC (ls.map lkP))) qs) := aside (HH.out.below HB2.out hgr)
    have HC := aside (ownc_any ls r A N c lb hN w2 (HE.out.at HG2.out) (HSt.out.at HG2.out))
    generalize keepC (ls.map lkP) r = V at HC HTk
    clear hbx DX HS8 HS1 HG HH HSt HB2 HRg
    go_wp2_with (first
     | (refine wpList_load_row rfl 57 (.tmp 7) rfl bx rfl 57 (encC r).toArray (0, 0) _ DX2.out Tryz.underlying57 rfl HS9.out ?_)
     | fail)
    refine HC.out.mono ?_
    rintro e w3 ⟨rfl, hb3⟩
    have HG3 : Hid (w.grownBy w3 (some g)) := aside (grown_call HG2.out hb3)
    have hg2 : g < w2.heap.size := HH2.out.lt
    have HH3 : Hid (Half w3 g (c' * 36) n i j ((qs.take j).filter (keepC (ls.map lkP))) qs) := aside (HH2.out.below hb3 hg2)
    have DX3 : Hid (w3.heap[bx]? = some (.cells (encC r).toArray 57 (0, 0))) := aside ((hb3.block bx hl2).trans DX2.out)
    clear hb3 HC HG2 HH2 DX2 hg2
    cases V with
    | false =>
     have HT2 : Hid ((qs.take (j + 1)).filter (keepC (ls.map lkP)) = (qs.take j).filter (keepC (ls.map lkP))) := aside (by rw [HTk.out]; simp)
     go_wp2_with fail
     exact ⟨⟨i, j + 1, by omega, by omega, rfl, by go_num, HG3, aside (by rw [HT2.out]; exact HH3.out.next), aside (by rw [HT2.out]; exact HN.out)⟩, by simp [Go.RowKit.intOf]; omega⟩
    | true =>
     have HT2 : Hid ((qs.take (j + 1)).filter (keepC (ls.map lkP)) = (qs.take j).filter (keepC (ls.map lkP)) ++ [r]) := aside (by rw [HTk.out]; simp)
     have HTh : Hid (w3.there g (i * 36) (encC r).toArray.size) := aside (by
      simp only [List.size_toArray, encC_len]
      exact HH3.out.there (by have := HH3.out.fits; omega))
     have i0 : (i : Int) < (n : Int) := by omega
     go_upto_region 10 with (first
      | (refine wpList_load_row rfl 57 (.tmp 7) rfl bx rfl 57 (encC r).toArray (0, 0) _ DX3.out Tryz.underlying57 rfl HS9.out ?_)
      | (refine wpList_store_mid rfl 57 (.tmp 33) (.tmp 32) rfl g (i * 36) (encC r).toArray rfl rfl HTh.out HS9.out HO1.out ?_)
      | fail)
     (try dsimp only [Act.put])
     have HG4 : Hid (w.grownBy (w3.setCells g (i * 36) (encC r)) (some g)) := aside (grown_cells HG3.out _ _)
     have HH4 : Hid (Half (w3.setCells g (i * 36) (encC r)) g (c' * 36) n (i + 1) (j + 1) ((qs.take (j + 1)).filter (keepC (ls.map lkP))) qs) := aside (by rw [HT2.out]; exact HH3.out.store HN.out (by omega) (by omega) r)
     have HN4 : Hid (((qs.take (j + 1)).filter (keepC (ls.map lkP))).length = i + 1) := aside (by rw [HT2.out, List.length_append, HN.out]; rfl)
     change Code.wp _ _ _ _ (w3.setCells g (i * 36) (encC r))
     generalize (w3.setCells g (i * 36) (encC r)) = w4 at HG4 HH4 ⊢
     clear HG3 HH3 HTh DX3 HT2
     go_wp2_with fail
     exact ⟨⟨i + 1, j + 1, by omega, by omega, by go_num, by go_num, HG4, HH4, HN4⟩, by simp [Go.RowKit.intOf]; omega⟩
   ·obtain rfl : n = j := by omega
    have i0 : ((n : Int) < (n : Int)) = False := by simp
    have HF : Hid ((qs.take n).filter (keepC (ls.map lkP)) = qs.filter (keepC (ls.map lkP))) := aside (by rw [List.take_of_length_le (by have := HL.out; omega)])
    clear hjn
    have hci : (c' = i) = False := by simp only [eq_iff_iff, iff_false]; omega
    have hcl : i ≤ c' := by omega
    have HTh : Hid (wr.there g (i * 36) ((n - i) * 36)) := aside (HH.out.there (by have := HH.out.fits; omega))
    have hni : 0 < n - i := by omega
    obtain ⟨vs, hclr⟩ := run_clear_rec (P := Tryz.prog) 24 0 _ 36 80 Tryz.underlying24 infoC (by kernel_rfl) oneC wr g (i * 36) (n - i) (c' - i) hni HTh.out
    have HG4 : Hid (w.grownBy (wr.setCells g (i * 36) vs) (some g)) := aside (grown_cells HG.out _ _)
    have HH4 : Hid (Half (wr.setCells g (i * 36) vs) g (c' * 36) n i n ((qs.take n).filter (keepC (ls.map lkP))) qs) := aside (HH.out.cut vs (Nat.le_refl _))
    generalize (wr.setCells g (i * 36) vs) = w4 at HG4 HH4 hclr
    go_wp2_with fail
    go_ret
    refine ⟨i, by omega, rfl, ⟨?_, fun q hq => ?_, fun q hq => ?_⟩, ?_⟩
    ·rw [← HF.out]
     exact HH4.out.sl HN.out
    ·exact (HQ.out q (List.mem_filter.1 hq).1).at HG4.out
    ·exact HTx.out q (List.mem_filter.1 hq).1
    ·exact ⟨HG4.out.os, HG4.out.tape, HG4.out.output, HG4.out.size, fun k hk => HG4.out.block k (Nat.lt_of_lt_of_le hk HBs.out) (fun e => by injection e with e; have := HBg.out; omega)⟩
end Go.Proofs.YtbpabjhcjffkmaaGreatDoor

/- wallet.own: the walk. Conditions: named in each theorem. -/
namespace Go.Proofs.YtbpabjhcjffkmaaGreatDoor
open Go.RowKit Go.ChangeShapes Go.WideShapes Go.ChangeAt

theorem RSl.keep {w w' : World} {B n : Nat} {A : Option Addr} {rs : List ROp} (h : RSl w B A n rs) (hk : ∀ b, b < B → w'.heap[b]? = w.heap[b]?) : RSl w' B A n rs :=
 ⟨Sl.keep h.cells fun _ hp => World.cell?_of_block (hk _ hp), fun r hr => Sl.keep (h.data r hr) fun _ hp => World.cell?_of_block (hk _ hp), h.byt⟩
theorem Locks.stays {ls : List Lk} {A : Option Addr} {N c lb : Nat} {w w2 : World} {v : Value} (h : Locks ls A N c lb w) (hb : Below w.heap.size w w2) (hv : ∀ k, v.ownBlock = some k → w.heap.size ≤ k) : Stays w2 0 v (Locks ls A N c lb) := fun w' hw' hs' => by
 have hk : ∀ b, b < w.heap.size → w'.heap[b]? = w.heap[b]? := fun b hl => (hw' b (Nat.zero_le _) (fun e => by have := hv b e; omega) (Nat.lt_of_lt_of_le hl hb.size)).trans (hb.block b hl)
 have hz : w.heap.size ≤ w'.heap.size := Nat.le_trans hb.size hs'
 exact ⟨(Sl.keep h.row fun _ hp => World.cell?_of_block (hk _ hp)).more hz, fun l hl => ((h.each l hl).keep hk).more hz, (World.cell?_of_block (hk _ h.lt)).trans h.box⟩
def keepK (ls : List (List POp)) (k : List Nat × Int × Int × List POp × Int) : Bool := decide (0 ≤ ownF ls 0 k.2.2.2.1)
theorem keep_key (ls : List (List POp)) {xs ys : List RCoin} (h : xs.map RCoin.key = ys.map RCoin.key) : (xs.filter (keepC ls)).map RCoin.key = (ys.filter (keepC ls)).map RCoin.key := by
 have e : keepC ls = keepK ls ∘ RCoin.key := rfl
 rw [e, ← List.filter_map, ← List.filter_map, h]
theorem key_mem {xs ys : List RCoin} (h : xs.map RCoin.key = ys.map RCoin.key) : ∀ x ∈ xs, ∃ y ∈ ys, y.key = x.key := fun x hx => by
 have h2 : x.key ∈ ys.map RCoin.key := h ▸ List.mem_map_of_mem hx
 obtain ⟨y, hy, e⟩ := List.mem_map.1 h2
 exact ⟨y, hy, e⟩
end Go.Proofs.YtbpabjhcjffkmaaGreatDoor
