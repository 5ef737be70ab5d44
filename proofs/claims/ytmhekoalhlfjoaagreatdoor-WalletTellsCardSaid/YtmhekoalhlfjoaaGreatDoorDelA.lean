/- clear at a slice of records; wallet.own$1; slices.IndexFunc at coins: the walks. Conditions: named in each theorem. -/
import Derived.Test.YtmhekoalhlfjoaaGreatDoorCopB
import Derived.Test.YtmhekoalhlfjoaaGreatDoorWalH
import Derived.Test.YtmhekoalhlfjoaaGreatDoorOwnA
namespace Go.Proofs.YtmhekoalhlfjoaaGreatDoor
open Go.RowKit Go.ChangeShapes Go.WideShapes Go.ChangeAt

theorem zeroCells_len (z : Array Value) (n : Nat) : (Builtin.zeroCells z n).toList.length = n * z.size := by simp [Builtin.zeroCells]
theorem zeroCells_one (z : Array Value) (n : Nat) (h : ∀ u ∈ z.toList, u.oneCell' = true) : ∀ u ∈ (Builtin.zeroCells z n).toList, u.oneCell' = true := by
  intro u hu
  simp only [Builtin.zeroCells, Array.toList_map, List.mem_map, Array.toList_range, List.mem_range] at hu
  obtain ⟨i, hi, rfl⟩ := hu
  have hz : 0 < z.size := by
    rcases Nat.eq_zero_or_pos z.size with h0 | h0
    · rw [h0] at hi; omega
    · exact h0
  have hlt := Nat.mod_lt i hz
  rw [getElem!_pos z (i % z.size) hlt]
  exact h _ (by simp)
/-- clear at a slice of records: its cells have turned, no other. -/
theorem run_clear_rec {P : Program} {e : TypeId} (t ty : TypeId) (z : Value) (sz bytes : Nat) (ht : P.underlying t = some (.slice e)) (hinfo : (P.info? e).map (fun i => (i.zero, i.size, i.bytes)) = some (some z, sz, bytes)) (hzs : z.cells.size = sz) (hz1 : ∀ u ∈ z.cells.toList, u.oneCell' = true)
    (w : World) (b off n c : Nat) (hn : 0 < n) (hth : w.there b off (n * sz)) : ∃ vs : List Value, (Builtin.clear_ #[t] ty #[.slice (some ⟨b, off, none⟩) n c]).run P w = .ok (.tuple #[]) (w.setCells b off vs) := by
  obtain ⟨i0, hI, hIz, hIs, hIb⟩ := info_parts hinfo
  have hl : (Builtin.zeroCells z.cells n).toList.length = n * sz := by rw [zeroCells_len, hzs]
  have hst := run_storeCells_cells (P := P) b off (Builtin.zeroCells z.cells n).toList 0 w (fun j hj => by simpa using (hth j (by rwa [hl] at hj)).1) (fun j hj => by simpa using (hth j (by rwa [hl] at hj)).2) (zeroCells_one _ _ hz1)
  simp only [Nat.add_zero] at hst
  obtain ⟨m, rfl⟩ : ∃ m, n = m + 1 := ⟨n - 1, by omega⟩
  have hv : ∀ w, (zeroValue e).run P w = .ok z w := fun w => by simp [zeroValue, typeInfo, hI, hIz]
  refine ⟨(Builtin.zeroCells z.cells (m + 1)).toList, ?_⟩
  simp [Builtin.clear_, run_underlying ht, hv, hst]
/-- A coin that a wallet with such locks keeps. -/
def keepC (ls : List (List POp)) (r : RCoin) : Bool := decide (0 ≤ ownF ls 0 r.pl)
/-- The locks, and the box that holds them. -/
structure Locks (ls : List Lk) (A : Option Addr) (N c lb : Nat) (x : World) : Prop where
  row : Sl x x.heap.size 1 A N (ls.map lkV)
  each : ∀ l ∈ ls, RSl x x.heap.size l.1 2 l.2
  box : x.cell? ⟨lb, 0, none⟩ = some (.slice A N c)
theorem Locks.lt {ls : List Lk} {A : Option Addr} {N c lb : Nat} {x : World} (h : Locks ls A N c lb x) : lb < x.heap.size := by
  have := World.block_lt_of_cell? x _ h.box
  exact this
theorem Locks.call {ls : List Lk} {A : Option Addr} {N c lb : Nat} {x y : World} (h : Locks ls A N c lb x) (hb : Below x.heap.size x y) : Locks ls A N c lb y :=
  ⟨(Sl.below h.row hb).more hb.size, fun l hl => ((h.each l hl).below hb).more hb.size, (hb.cell (p := ⟨lb, 0, none⟩) h.lt).trans h.box⟩
set_option maxHeartbeats 20000000 in
set_option maxRecDepth 100000 in
theorem ownc_any (ls : List Lk) (r : RCoin) (A : Option Addr) (N c lb : Nat) (hN : N ≤ 100) (w : World) (hE : Locks ls A N c lb w) (hr : RSl w w.heap.size r.lA r.ln r.lk) :
    Calls Tryz.prog 56 #[.agg (encC r).toArray, .pointer (some ⟨lb, 0, none⟩)] w (fun e w' => e = .returned (.bool (!keepC (ls.map lkP) r)) ∧ Below w.heap.size w w') := by
  have B1 : Hid (Below w.heap.size w (w.alloc (.cells (encC r).toArray 61))) := aside ((Below.refl _ _).alloc (Nat.le_refl _) _)
  have D1 : Hid ((w.alloc (.cells (encC r).toArray 61)).heap[w.heap.size]? = some (.cells (encC r).toArray 61 (0, 0))) := aside (heap_alloc_new _ _)
  have HE := aside (hE.call B1.out)
  have HR := aside ((hr.below B1.out).more B1.out.size)
  obtain ⟨V, hV⟩ : ∃ V, V = keepC (ls.map lkP) r := ⟨_, rfl⟩
  have HV := aside hV
  rw [← hV]
  clear hE hr hV
  go_enter Tryz.func56, Tryz.ntmps56
  go_upto_region 1 with fail
  change Code.wp _ _ _ _ (w.alloc (.cells (encC r).toArray 61))
  generalize (w.alloc (.cells (encC r).toArray 61)) = w1 at B1 D1 HE HR ⊢
  obtain ⟨bx, hbx⟩ : ∃ bx, bx = w.heap.size := ⟨_, rfl⟩
  rw [← hbx] at D1 ⊢
  have hb1 := HE.out.box
  have HRg : Hid (w1.rangeAt bx 33 [.int .i64 r.amt, .slice r.lA r.ln r.lc]) := aside (fun j v hj => by
    rw [cell_of_row _ _ _ _ _ _ D1.out, List.getElem?_toArray]
    exact encC_out r hj)
  have HC := aside (owns_any ls r.lk r.amt A r.lA N c r.ln r.lc hN w1 HE.out.row HE.out.each HR.out)
  have HVi : Hid (V = decide (0 ≤ ownF (ls.map lkP) 0 (r.lk.map ROp.pl))) := aside HV.out
  generalize ownF (ls.map lkP) 0 (r.lk.map ROp.pl) = R at HC HVi
  clear hbx D1 HE HR HV
  go_wp2_with (first
    | (refine wpList_load_mid rfl 27 (.tmp 5) rfl bx 33 rfl [.int .i64 r.amt, .slice r.lA r.ln r.lc] _ HRg.out Tryz.underlying27 rfl outInfo ?_)
    | fail)
  refine HC.out.mono ?_
  rintro e w3 ⟨rfl, hb3⟩
  have HB3 := aside (B1.out.trans (hb3.mono B1.out.size))
  clear hb3 hb1
  by_cases hR : R < 0
  · have hv : V = false := by rw [HVi.out]; simp; omega
    subst hv
    go_wp2
    go_ret
    exact ⟨rfl, HB3.out⟩
  · have hv : V = true := by rw [HVi.out]; simp; omega
    subst hv
    have hR2 : (R < 0) = False := by simp only [eq_iff_iff, iff_false]; exact hR
    clear hR
    go_wp2
    go_ret
    exact ⟨rfl, HB3.out⟩
/-- The first of some coins that is not kept. -/
def dropI (p : RCoin → Bool) : List RCoin → Nat → Int
  | [], _ => -1
  | c :: r, k => if p c then dropI p r (k + 1) else k
set_option maxHeartbeats 20000000 in
set_option maxRecDepth 100000 in
theorem idx_any (ls : List Lk) (qs : List RCoin) (A A' : Option Addr) (N c lb n c' : Nat) (hN : N ≤ 100) (hn : n ≤ 1000) (w : World) (hE : Locks ls A N c lb w) (h : CSl w w.heap.size A' n qs) :
    Calls Tryz.prog 77 #[.slice A' n c', .func (.func 56) #[] #[.pointer (some ⟨lb, 0, none⟩)]] w (fun e w' => e = .returned (.int .i64 (dropI (keepC (ls.map lkP)) qs 0)) ∧ Below w.heap.size w w') := by
  have hl := h.len
  obtain ⟨R, hR⟩ : ∃ R, R = dropI (keepC (ls.map lkP)) qs 0 := ⟨_, rfl⟩
  rw [← hR]
  have HR0 : Hid (R = dropI (keepC (ls.map lkP)) (qs.drop 0) 0) := aside hR
  have HB0 := aside (Below.refl w.heap.size w)
  have HE := aside hE
  have HL := aside hl
  have H := aside h
  clear hl h hE hR
  go_enter Tryz.func77, Tryz.ntmps77
  go_wp2_with fail
  go_loopw [8] (fun v8 wr => ∃ k : Nat, k ≤ n ∧ v8 = .int .i64 k ∧ Hid (Below w.heap.size w wr) ∧ Hid (R = dropI (keepC (ls.map lkP)) (qs.drop k) k)) (fun v8 _ => n - (Go.RowKit.intOf v8).toNat)
  case atStart => exact ⟨0, Nat.zero_le _, rfl, HB0, HR0⟩
  case round =>
    clear HB0 HR0
    obtain ⟨k, hk, rfl, HB, HR⟩ := hrel
    by_cases hkn : k < n
    · have k0 : (k : Int) < (n : Int) := by omega
      have hwz := HB.out.size
      have hCB := H.out.below HB.out
      obtain ⟨b, of, hAe, hb1, hrg⟩ := hCB.at_ hkn
      have hm := hCB.mem hkn
      have hlk := (hCB.lock _ hm).more hwz
      have hdr : qs.drop k = qs.getD k noC :: qs.drop (k + 1) := by
        rw [List.getD_eq_getElem?_getD, List.getElem?_eq_getElem (by have := HL.out; omega)]
        exact List.drop_eq_getElem_cons (by have := HL.out; omega)
      have hq := HR.out
      rw [hdr] at hq
      generalize qs.getD k noC = r at *
      have hq2 : R = if keepC (ls.map lkP) r then dropI (keepC (ls.map lkP)) (qs.drop (k + 1)) (k + 1) else (k : Int) := hq
      have HQ := aside hq2
      have HRg := aside hrg
      have HC := aside (ownc_any ls r A N c lb hN wr (HE.out.call HB.out) hlk)
      have HS1 : Hid ((Tryz.prog.info? 61).map (·.size) = some (encC r).length) := aside (by rw [encC_len]; kernel_rfl)
      generalize keepC (ls.map lkP) r = V at HQ HC
      subst hAe
      clear hrg hlk hq hq2 hdr hm hCB hkn
      go_wp2_with (first
        | (refine wpList_load_mid rfl 61 (.tmp 14) rfl b (of + k * 36) rfl (encC r) _ HRg.out Tryz.underlying61 rfl HS1.out ?_)
        | fail)
      refine HC.out.mono ?_
      rintro e w3 ⟨rfl, hb3⟩
      have HB3 := aside (HB.out.trans (hb3.mono hwz))
      clear hb3 HC HRg
      cases V with
      | false =>
        have hRk : R = (k : Int) := HQ.out.trans (if_neg (by simp))
        subst hRk
        go_wp2
        go_ret
        exact ⟨rfl, HB3.out⟩
      | true =>
        have HR2 : Hid (R = dropI (keepC (ls.map lkP)) (qs.drop (k + 1)) (k + 1)) := aside (HQ.out.trans (if_pos rfl))
        go_wp2
        exact ⟨⟨k + 1, by omega, by go_num, HB3, HR2⟩, by simp [Go.RowKit.intOf]; omega⟩
    · obtain rfl : n = k := by omega
      have i0 : ((n : Int) < (n : Int)) = False := by simp
      have hRk : R = -1 := by
        rw [HR.out, List.drop_of_length_le (by have := HL.out; omega)]
        rfl
      subst hRk
      clear hkn
      go_wp2
      go_ret
      exact ⟨rfl, HB.out⟩
end Go.Proofs.YtmhekoalhlfjoaaGreatDoor
