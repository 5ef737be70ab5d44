/- Two digests are compared. Conditions: named in each theorem. Two payments that are alike: the walks. Conditions: named in each theorem. -/
import Derived.Test.YtbpabjhcjffkmaaGreatDoorWalE
import Derived.DeepKeys
import Derived.Test.YtbpabjhcjffkmaaGreatDoorPayC
import Derived.Test.YtbpabjhcjffkmaaGreatDoorWalH
import Derived.OrdersHeld
import Derived.Deep.RegionHeld3
import Derived.Deep.MidRow
/- Two digests are compared. Conditions: named in each theorem. -/
namespace Go.Proofs.YtbpabjhcjffkmaaGreatDoor
open Go.RowKit Go.ChangeShapes Go.WideShapes Go.ChangeAt

theorem part_byte (d : List Nat) (i : Nat) (hi : i < d.length) (w : World) : (part 5 (rowY d) i).run Tryz.prog w = .ok (.int .u8 (d.getD i 0 : Nat)) w := by
 have ha : (isAgg 5).run Tryz.prog w = .ok false w := by kernel_rfl
 have hc : (rowY d)[i]? = some (.int .u8 (d.getD i 0 : Nat)) := by
  unfold rowY
  rw [List.getElem?_toArray, List.getElem?_map, List.getD_eq_getElem?_getD, List.getElem?_eq_getElem hi]
  rfl
 unfold part
 simp only [Sem.run_bind, ha, Result.andThen_ok, Bool.false_eq_true, if_false, hc, Sem.run_pure]
theorem eq_bytes (f : Nat) (d1 d2 : List Nat) (w : World) : ∀ is : List Nat, (∀ i ∈ is, i < d1.length ∧ i < d2.length) →
  (Op.eqItems (f + 1) 5 1 (rowY d1) (rowY d2) is).run Tryz.prog w = .ok (is.all fun i => d1.getD i 0 == d2.getD i 0) w
 | [], _ => rfl
 | i :: is, h => by
  obtain ⟨h1, h2⟩ := h i (List.mem_cons_self ..)
  have ih := eq_bytes f d1 d2 w is (fun j hj => h j (List.mem_cons_of_mem _ hj))
  have he : (Op.equalIn (f + 1) 5 (.int .u8 (d1.getD i 0 : Nat)) (.int .u8 (d2.getD i 0 : Nat))).run Tryz.prog w = .ok (d1.getD i 0 == d2.getD i 0) w := by
   rw [run_equalIn_int (h := Tryz.underlying5) w f 5 .u8 .u8 _ _]
   congr 1
   rw [Bool.eq_iff_iff, beq_iff_eq, beq_iff_eq]
   omega
  unfold Op.eqItems
  rw [Nat.mul_one]
  simp only [Sem.run_bind, part_byte d1 i h1 w, part_byte d2 i h2 w, he, Result.andThen_ok, List.all_cons]
  cases hb : (d1.getD i 0 == d2.getD i 0) with
  | true => simp only [Bool.not_true, Bool.false_eq_true, if_false, Bool.true_and]; exact ih
  | false => simp
theorem all_same {d1 d2 : List Nat} {n : Nat} (h1 : d1.length = n) (h2 : d2.length = n) : ((List.range n).all fun i => d1.getD i 0 == d2.getD i 0) = decide (d1 = d2) := by
 rw [Bool.eq_iff_iff]
 simp only [List.all_eq_true, List.mem_range, beq_iff_eq, decide_eq_true_eq]
 constructor
 ·intro h
  apply List.ext_getElem (by omega)
  intro i g1 g2
  have := h i (by omega)
  rw [List.getD_eq_getElem?_getD, List.getD_eq_getElem?_getD, List.getElem?_eq_getElem g1, List.getElem?_eq_getElem g2] at this
  exact this
 ·rintro rfl i _
  rfl
theorem dig_equal (f : Nat) (d1 d2 : List Nat) (h1 : d1.length = 32) (h2 : d2.length = 32) (w : World) : (Op.equalIn (f + 2) 23 (.agg (rowY d1)) (.agg (rowY d2))).run Tryz.prog w = .ok (decide (d1 = d2)) w := by
 obtain ⟨i0, hI, -, -, -⟩ := info_parts byteInfo
 have hc : Tryz.prog.cellsOf 5 = 1 := by kernel_rfl
 rw [run_equalIn_array (P := Tryz.prog) (n := 32) (e := 5) w (f + 1) _ _ Tryz.underlying23 hI, hc, eq_bytes f d1 d2 w _ (fun i hi => by rw [List.mem_range] at hi; omega), all_same h1 h2]
end Go.Proofs.YtbpabjhcjffkmaaGreatDoor

/- Two payments that are alike: the walks. Conditions: named in each theorem. -/
namespace Go.Proofs.YtbpabjhcjffkmaaGreatDoor
open Go.RowKit Go.ChangeShapes Go.WideShapes Go.ChangeAt

theorem part_tx (tx : List Nat) (a : Int) (h : tx.length = 32) (w : World) : (part 23 (plC tx a).toArray 0).run Tryz.prog w = .ok (.agg (rowY tx)) w := by
 have hb : (isAgg 23).run Tryz.prog w = .ok true w := by kernel_rfl
 have hs : (sizeOf 23).run Tryz.prog w = .ok 32 w := by kernel_rfl
 unfold part
 simp only [Sem.run_bind, hb, Result.andThen_ok, if_true, hs, Sem.run_pure]
 have e : (plC tx a).toArray.extract 0 (0 + 32) = rowY tx := by
  rw [← digC_row h]
  unfold plC
  rw [List.extract_toArray]
  congr 1
  try simp [digC_len]
 rw [e]
theorem part_at (tx : List Nat) (a : Int) (w : World) : (part 3 (plC tx a).toArray 32).run Tryz.prog w = .ok (.int .i64 a) w := by
 have ha : (isAgg 3).run Tryz.prog w = .ok false w := by kernel_rfl
 have hc : (plC tx a).toArray[32]? = some (.int .i64 a) := by rw [List.getElem?_toArray]; exact plC_at tx a
 unfold part
 simp only [Sem.run_bind, ha, Result.andThen_ok, Bool.false_eq_true, if_false, hc, Sem.run_pure]
theorem eq_fieldsP (fs : List Field) (hf : fs.map (fun f => (f.name == "_", f.type, f.offset)) = [(false, 23, 0), (false, 3, 32)]) (D : Nat) (xs ys : Array Value) (w : World) (a b : Value) (c d : Value) (r1 r2 : Bool)
  (h1 : (part 23 xs 0).run Tryz.prog w = .ok a w) (h2 : (part 23 ys 0).run Tryz.prog w = .ok b w) (h3 : (Op.equalIn D 23 a b).run Tryz.prog w = .ok r1 w)
  (h4 : (part 3 xs 32).run Tryz.prog w = .ok c w) (h5 : (part 3 ys 32).run Tryz.prog w = .ok d w) (h6 : (Op.equalIn D 3 c d).run Tryz.prog w = .ok r2 w) :
  (Op.eqFields D xs ys fs).run Tryz.prog w = .ok (r1 && r2) w := by
 have hl : fs.length = 2 := by simpa using congrArg List.length hf
 match fs, hl, hf with
 | [f0, f1], _, hf =>
  simp at hf
  obtain ⟨⟨u0, t0, o0⟩, u1, t1, o1⟩ := hf
  cases r1 with
  | false => simp [Op.eqFields, u0, t0, o0, Sem.run_bind, h1, h2, h3]
  | true =>
   cases r2 with
   | false => simp [Op.eqFields, u0, u1, t0, t1, o0, o1, Sem.run_bind, h1, h2, h3, h4, h5, h6]
   | true => simp [Op.eqFields, u0, u1, t0, t1, o0, o1, Sem.run_bind, h1, h2, h3, h4, h5, h6]
theorem pl_fields : (Tryz.prog.fieldsOf 55).toList.map (fun f => (f.name == "_", f.type, f.offset)) = [(false, 23, 0), (false, 3, 32)] := by kernel_rfl
theorem pl_eqD (D : Nat) (t : List Nat) (a : Int) (h : t.length = 32) (w : World) : (Op.equalIn (D + 3) 55 (.agg (plC t a).toArray) (.agg (plC t a).toArray)).run Tryz.prog w = .ok true w := by
 rw [run_equalIn_struct (P := Tryz.prog) w (D + 2) 55 _ _ (by kernel_rfl) (by kernel_rfl)]
 have h9 := eq_fieldsP _ pl_fields (D + 2) _ _ w _ _ _ _ _ _ (part_tx t a h w) (part_tx t a h w) (dig_equal D t t h h w) (part_at t a w) (part_at t a w) (run_equalIn_int (h := Tryz.underlying3) w (D + 1) _ _ _ _ _)
 simpa using h9
set_option maxRecDepth 100000 in
theorem pl_neq (t : List Nat) (a : Int) (h : t.length = 32) (x y : Operand) (w : World) : ((eqGuard .neq 55 x y (.agg (plC t a).toArray) (.agg (plC t a).toArray)).run Tryz.prog w) = .ok () w ∧ (binOp .neq 55 (.agg (plC t a).toArray) (.agg (plC t a).toArray)).run Tryz.prog w = .ok (.bool false) w := by
 refine ⟨run_eqGuard_agg w .neq 55 x y _ _ (by kernel_rfl), ?_⟩
 rw [run_neq_struct, pl_eqD 9997 t a h w]
 rfl
set_option maxHeartbeats 8000000 in
set_option maxRecDepth 100000 in
theorem sbytesL_any (xs ys : List Nat) (V : Bool) (hV : V = true ↔ xs = ys) (A A' : Option Addr) (n c n' c' : Nat) (hn7 : n ≤ 100000) (w : World) (h : YSl w w.heap.size A n xs) (h' : YSl w w.heap.size A' n' ys) :
  Calls Tryz.prog 86 #[.slice A n c, .slice A' n' c'] w (fun e w' => e = .returned (.bool V) ∧ Below w.heap.size w w') := by
 have hl := YSl.len1 h
 have hl' := YSl.len1 h'
 by_cases hn : n = n'
 ·subst hn
  have hnn : ((n : Int) != (n : Int)) = false := by simp
  have HV := aside hV
  have HL := aside hl
  have HL' := aside hl'
  have H := aside h
  have H' := aside h'
  clear h h' hl hl' hV
  go_enter Tryz.func86, Tryz.ntmps86
  go_wp2_with fail
  go_loopw [5] (fun v5 wr => ∃ (k q : Nat), k ≤ n ∧ v5 = .int .i64 k ∧ wr = w.drewN q ∧ Hid (xs.take k = ys.take k)) (fun v5 _ => n - (Go.RowKit.intOf v5).toNat)
  case atStart => exact ⟨0, 0, Nat.zero_le _, rfl, rfl, aside rfl⟩
  case round =>
   obtain ⟨k, q, hk, rfl, rfl, HP⟩ := hrel
   by_cases hlt : k < n
   ·obtain ⟨b, o, hAe, hb, hc⟩ := YSl.at1 H.out (by omega)
    obtain ⟨b', o', hAe', hb', hc'⟩ := YSl.at1 H'.out (by omega)
    have ck := hc k hlt
    have ck' := hc' k hlt
    have hi1 : (k : Int) < (n : Int) := by omega
    have hx1 : xs.take (k + 1) = xs.take k ++ [xs.getD k 0] := by rw [List.take_add_one, List.getD_eq_getElem?_getD, List.getElem?_eq_getElem (by have := HL.out; omega)]; rfl
    have hx2 : ys.take (k + 1) = ys.take k ++ [ys.getD k 0] := by rw [List.take_add_one, List.getD_eq_getElem?_getD, List.getElem?_eq_getElem (by have := HL'.out; omega)]; rfl
    have HX1 := aside hx1
    have HX2 := aside hx2
    have hno : xs.getD k 0 ≠ ys.getD k 0 → V = false := fun hne => by
     cases V with
     | false => rfl
     | true => exact absurd (by rw [HV.out.1 rfl]) hne
    generalize xs.getD k 0 = x at ck HX1 hno
    generalize ys.getD k 0 = y at ck' HX2 hno
    subst hAe hAe'
    clear hc hc' hx1 hx2 hb hb'
    by_cases hxy : x = y
    ·subst hxy
     have hq : ((x : Int) != (x : Int)) = false := by simp
     have HPn : Hid (xs.take (k + 1) = ys.take (k + 1)) := aside (by rw [HX1.out, HX2.out, HP.out])
     clear hno
     go_wp2_with fail
     go_quiet (fail)
     go_wp2
     exact ⟨⟨k + 1, _, by omega, by go_num, rfl, HPn⟩, by simp [Go.RowKit.intOf]; omega⟩
    ·have hq : ((x : Int) != (y : Int)) = true := by simp; omega
     obtain rfl := hno hxy
     clear hxy
     go_wp2_with fail
     go_quiet (fail)
     go_wp2
     go_ret
     exact ⟨rfl, below_drawn (below_drawn (Below.refl _ _) _) _⟩
   ·obtain rfl : n = k := by omega
    have hT : V = true := HV.out.2 (by
     have := HP.out
     rwa [← HL.out, List.take_length, HL.out, ← HL'.out, List.take_length] at this)
    subst hT
    have i0 : ((n : Int) < (n : Int)) = False := by simp
    clear hlt
    go_wp2
    go_ret
    exact ⟨rfl, below_drawn (Below.refl _ _) _⟩
 ·have hnn : ((n : Int) != (n' : Int)) = true := by simp; omega
  have hF : V = false := by
   cases V with
   | false => rfl
   | true => exact absurd (by have := congrArg List.length (hV.1 rfl); rwa [hl, hl'] at this) hn
  subst hF
  clear h h' hV hn hl hl'
  go_enter Tryz.func86, Tryz.ntmps86
  go_wp2
  go_ret
  exact ⟨rfl, Below.refl _ _⟩
/-- A key as it lies. -/
structure RKey where
 A : Option Addr
 n : Nat
 c : Nat
 bs : List Nat
def kV (k : RKey) : Value := .slice k.A k.n k.c
def noK : RKey := ⟨none, 0, 0, []⟩
/-- Keys in memory. -/
structure KSl (w : World) (B : Nat) (A : Option Addr) (n : Nat) (ks : List RKey) : Prop where
 cells : Sl w B 1 A n (ks.map kV)
 key : ∀ k ∈ ks, YSl w B k.A k.n k.bs
theorem KSl.below {w w' : World} {B n : Nat} {A : Option Addr} {ks : List RKey} (h : KSl w B A n ks) (hb : Below B w w') : KSl w' B A n ks := ⟨Sl.below h.cells hb, fun k hk => Sl.below (h.key k hk) hb⟩
theorem KSl.more {w : World} {B B' n : Nat} {A : Option Addr} {ks : List RKey} (h : KSl w B A n ks) (hB : B ≤ B') : KSl w B' A n ks := ⟨Sl.more h.cells hB, fun k hk => Sl.more (h.key k hk) hB⟩
theorem KSl.drewN {w : World} {B n : Nat} {A : Option Addr} {ks : List RKey} (h : KSl w B A n ks) (q : Nat) : KSl (w.drewN q) B A n ks := ⟨Sl.drewN h.cells q, fun k hk => Sl.drewN (h.key k hk) q⟩
theorem KSl.len {w : World} {B n : Nat} {A : Option Addr} {ks : List RKey} (h : KSl w B A n ks) : ks.length = n := by have := h.cells.len; simpa using this
theorem KSl.at_ {w : World} {B n : Nat} {A : Option Addr} {ks : List RKey} (h : KSl w B A n ks) {k : Nat} (hk : k < n) : ∃ b off, A = some ⟨b, off, none⟩ ∧ b < B ∧ w.cell? ⟨b, off + k, none⟩ = some (kV (ks.getD k noK)) := by
 obtain ⟨b, of, hAe, hbl, hc⟩ := h.cells.cells (by omega)
 refine ⟨b, of, hAe, hbl, ?_⟩
 have := hc (k * 1) (kV (ks.getD k noK)) (by
  rw [Nat.mul_one, List.getElem?_map, List.getD_eq_getElem?_getD, List.getElem?_eq_getElem (by have := h.len; omega)]
  rfl)
 rwa [Nat.mul_one] at this
set_option maxHeartbeats 8000000 in
set_option maxRecDepth 100000 in
theorem srows_any (ks ks' : List RKey) (he : ks.map (·.bs) = ks'.map (·.bs)) (A A' : Option Addr) (n c n' c' : Nat) (hn7 : n ≤ 1000) (w : World) (h : KSl w w.heap.size A n ks) (h' : KSl w w.heap.size A' n' ks') (hk7 : ∀ k ∈ ks, k.n ≤ 100000) :
  Calls Tryz.prog 39 #[.slice A n c, .slice A' n' c'] w (fun e w' => e = .returned (.bool true) ∧ Below w.heap.size w w') := by
 have hl := h.len
 have hl' := h'.len
 have hn : n' = n := by have := congrArg List.length he; rw [List.length_map, List.length_map] at this; omega
 subst hn
 have hnn : ((n' : Int) != (n' : Int)) = false := by simp
 have HB0 := aside (Below.refl w.heap.size w)
 have H := aside h
 have H' := aside h'
 have HL := aside hl
 have HL' := aside hl'
 have HE := aside he
 have HK := aside hk7
 clear h h' hl hl' he hk7
 go_enter Tryz.func39, Tryz.ntmps39
 go_wp2_with fail
 go_loopw [5] (fun v5 wr => ∃ k : Nat, k ≤ n' ∧ v5 = .int .i64 k ∧ Hid (Below w.heap.size w wr)) (fun v5 _ => n' - (Go.RowKit.intOf v5).toNat)
 case atStart => exact ⟨0, Nat.zero_le _, rfl, HB0⟩
 case round =>
  clear HB0
  obtain ⟨k, hk, rfl, HB⟩ := hrel
  by_cases hkn : k < n'
  ·have k0 : (k : Int) < (n' : Int) := by omega
   have hwz := HB.out.size
   obtain ⟨b1, of1, e1, hb1, p0⟩ := (H.out.below HB.out).at_ hkn
   obtain ⟨b2, of2, e2, hb2, q0⟩ := (H'.out.below HB.out).at_ hkn
   have hm1 := gd_mem noK (l := ks) (k := k) (by have := HL.out; omega)
   have hm2 := gd_mem noK (l := ks') (k := k) (by have := HL'.out; omega)
   have hY1 := Sl.more (Sl.below (H.out.key _ hm1) HB.out) hwz
   have hY2 := Sl.more (Sl.below (H'.out.key _ hm2) HB.out) hwz
   have hbs : (ks.getD k noK).bs = (ks'.getD k noK).bs := by
    have h1 := congrArg (fun l => l.getD k []) HE.out
    have g1 : (ks.map (·.bs)).getD k [] = (ks.getD k noK).bs := by
     rw [List.getD_eq_getElem?_getD, List.getElem?_map, List.getD_eq_getElem?_getD, List.getElem?_eq_getElem (by have := HL.out; omega)]
     rfl
    have g2 : (ks'.map (·.bs)).getD k [] = (ks'.getD k noK).bs := by
     rw [List.getD_eq_getElem?_getD, List.getElem?_map, List.getD_eq_getElem?_getD, List.getElem?_eq_getElem (by have := HL'.out; omega)]
     rfl
    rw [← g1, ← g2, h1]
   have hk7 := HK.out _ hm1
   generalize ks.getD k noK = r at *
   generalize ks'.getD k noK = r' at *
   unfold kV at p0 q0
   have HC := aside (sbytesL_any r.bs r'.bs true (by simp [hbs]) r.A r'.A r.n r.c r'.n r'.c hk7 (wr.drewN 1) (Sl.drewN hY1 1) (Sl.drewN hY2 1))
   have HS0 : wr.drew.cell? ⟨b1, of1 + k, none⟩ = some (.slice r.A r.n r.c) ∧ wr.drew.cell? ⟨b2, of2 + k, none⟩ = some (.slice r'.A r'.n r'.c) := ⟨p0, q0⟩
   have hbz1 : b1 < wr.heap.size := by omega
   have hbz2 : b2 < wr.heap.size := by omega
   subst e1 e2
   clear hY1 hY2 hm1 hm2 hkn hbs hk7
   go_wp2_with fail
   go_region_held3 (fun X => X.cell? ⟨b1, of1 + k, none⟩ = some (.slice r.A r.n r.c) ∧ X.cell? ⟨b2, of2 + k, none⟩ = some (.slice r'.A r'.n r'.c))
    (first | (with_reducible exact HS0) | (constructor <;> assumption))
    (first | (go_at_call 86; refine HC.out.mono ?_; rintro e w3 ⟨rfl, hb3⟩; have hs1 := (hb3.cell (p := ⟨b1, of1 + k, none⟩) hbz1).trans p0; have hs2 := (hb3.cell (p := ⟨b2, of2 + k, none⟩) hbz2).trans q0))
   have HB3 : Hid (Below w.heap.size w w3) := aside (HB.out.trans (((below_drawn (Below.refl wr.heap.size wr) 1).trans hb3).mono hwz))
   clear hb3 hs1 hs2 p0 q0 HS0 HC
   go_wp2
   exact ⟨⟨k + 1, by omega, by go_num, HB3⟩, by simp [Go.RowKit.intOf]; omega⟩
  ·obtain rfl : n' = k := by omega
   have i0 : ((n' : Int) < (n' : Int)) = False := by simp
   clear hkn
   go_wp2
   go_ret
   exact ⟨rfl, HB.out⟩
/-- A payment's ins with their keys. -/
structure TIns (w : World) (B : Nat) (A : Option Addr) (n : Nat) (xs : List (RIn × List RKey)) : Prop where
 cells : NSl w B A n (xs.map Prod.fst)
 tx : ∀ p ∈ xs, p.1.tx.length = 32
 keys : ∀ p ∈ xs, KSl w B p.1.kA p.1.kn p.2
 small : ∀ p ∈ xs, p.2.length ≤ 1000 ∧ ∀ k ∈ p.2, k.n ≤ 100000
theorem TIns.below {w w' : World} {B n : Nat} {A : Option Addr} {xs : List (RIn × List RKey)} (h : TIns w B A n xs) (hb : Below B w w') : TIns w' B A n xs := ⟨FSl.below h.cells hb, h.tx, fun p hp => (h.keys p hp).below hb, h.small⟩
theorem TIns.more {w : World} {B B' n : Nat} {A : Option Addr} {xs : List (RIn × List RKey)} (h : TIns w B A n xs) (hB : B ≤ B') : TIns w B' A n xs := ⟨FSl.more h.cells hB, h.tx, fun p hp => (h.keys p hp).more hB, h.small⟩
theorem TIns.step {w w' : World} {n : Nat} {A : Option Addr} {xs : List (RIn × List RKey)} (h : TIns w w.heap.size A n xs) (hb : Below w.heap.size w w') : TIns w' w'.heap.size A n xs := (h.below hb).more hb.size
theorem TIns.len {w : World} {B n : Nat} {A : Option Addr} {xs : List (RIn × List RKey)} (h : TIns w B A n xs) : xs.length = n := by have := FSl.len encIn_len (by decide) h.cells; simpa using this
/-- What an in is. -/
def inT (p : RIn × List RKey) : List Nat × Int × List (List Nat) := (p.1.tx, p.1.at_, p.2.map (·.bs))
theorem getD_map {α β : Type} (f : α → β) {l : List α} (d : α) (d' : β) {k : Nat} (hk : k < l.length) : (l.map f).getD k d' = f (l.getD k d) := by
 rw [List.getD_eq_getElem?_getD, List.getElem?_map, List.getD_eq_getElem?_getD, List.getElem?_eq_getElem hk]
 rfl
set_option maxHeartbeats 40000000 in
set_option maxRecDepth 100000 in
theorem stx_any (xs xs' : List (RIn × List RKey)) (os os' : List ROut) (hx : xs.map inT = xs'.map inT) (ho : os.map ROut.pl = os'.map ROut.pl) (A A' B B' : Option Addr) (n c n' c' m d m' d' : Nat) (hn7 : n ≤ 1000) (hm7 : m ≤ 1000) (w : World)
  (h1 : TIns w w.heap.size A n xs) (h2 : TIns w w.heap.size A' n' xs') (g1 : OSl w w.heap.size B m os) (g2 : OSl w w.heap.size B' m' os') (hs : ∀ o ∈ os, o.ln ≤ 1000 ∧ ∀ r ∈ o.lk, r.dn ≤ 1000) :
  Calls Tryz.prog 8 #[.agg #[.slice A n c, .slice B m d, .int .i64 0], .agg #[.slice A' n' c', .slice B' m' d', .int .i64 0]] w (fun e w' => e = .returned (.bool true) ∧ Below w.heap.size w w') := by
 have hl := h1.len
 have hl' := h2.len
 have hk := g1.len
 have hk' := g2.len
 have hn : n' = n := by have := congrArg List.length hx; rw [List.length_map, List.length_map] at this; omega
 have hm : m' = m := by have := congrArg List.length ho; rw [List.length_map, List.length_map] at this; omega
 subst hn hm
 have e1 : ((n' : Int) != (n' : Int)) = false := by simp
 have e2 : ((m' : Int) != (m' : Int)) = false := by simp
 have B1 : Hid (Below w.heap.size w ((w.alloc (.cells #[.slice A n' c, .slice B m' d, .int .i64 0] 32)).alloc (.cells #[.slice A' n' c', .slice B' m' d', .int .i64 0] 32))) := aside (((Below.refl _ _).alloc (Nat.le_refl _) _).alloc (by simp) _)
 have D0 : Hid (((w.alloc (.cells #[.slice A n' c, .slice B m' d, .int .i64 0] 32)).alloc (.cells #[.slice A' n' c', .slice B' m' d', .int .i64 0] 32)).heap[w.heap.size]? = some (.cells #[.slice A n' c, .slice B m' d, .int .i64 0] 32 (0, 0))) := aside ((Below.heap_alloc _ _ _ (by simp)).trans (heap_alloc_new w _))
 have D1 : Hid (((w.alloc (.cells #[.slice A n' c, .slice B m' d, .int .i64 0] 32)).alloc (.cells #[.slice A' n' c', .slice B' m' d', .int .i64 0] 32)).heap[w.heap.size + 1]? = some (.cells #[.slice A' n' c', .slice B' m' d', .int .i64 0] 32 (0, 0))) := aside (by
  have h := heap_alloc_new (w.alloc (.cells #[.slice A n' c, .slice B m' d, .int .i64 0] 32)) (.cells #[.slice A' n' c', .slice B' m' d', .int .i64 0] 32)
  rwa [show (w.alloc (.cells #[.slice A n' c, .slice B m' d, .int .i64 0] 32)).heap.size = w.heap.size + 1 by simp] at h)
 have HX := aside hx
 have HO := aside ho
 have H1 := aside h1
 have H2 := aside h2
 have G1 := aside g1
 have G2 := aside g2
 have HS := aside hs
 have HL := aside hl
 have HL' := aside hl'
 have HK := aside hk
 have HK' := aside hk'
 clear hx ho h1 h2 g1 g2 hs hl hl' hk hk'
 go_enter Tryz.func8, Tryz.ntmps8
 go_upto_region 1 with fail
 change Code.wp _ _ _ _ ((w.alloc (.cells #[.slice A n' c, .slice B m' d, .int .i64 0] 32)).alloc (.cells #[.slice A' n' c', .slice B' m' d', .int .i64 0] 32))
 generalize ((w.alloc (.cells #[.slice A n' c, .slice B m' d, .int .i64 0] 32)).alloc (.cells #[.slice A' n' c', .slice B' m' d', .int .i64 0] 32)) = w1 at B1 D0 D1 ⊢
 obtain ⟨B0, hB0⟩ : ∃ B0, B0 = w.heap.size := ⟨_, rfl⟩
 simp only [← hB0] at D0 D1 ⊢
 clear hB0
 have l0 : B0 < w1.heap.size := (Array.getElem?_eq_some_iff.1 D0.out).1
 have l1 : B0 + 1 < w1.heap.size := (Array.getElem?_eq_some_iff.1 D1.out).1
 have HW : Hid (∀ W : World, Below w1.heap.size w1 W → (W.cell? ⟨B0, 0, none⟩ = some (.slice A n' c) ∧ W.cell? ⟨B0, 1, none⟩ = some (.slice B m' d) ∧ W.cell? ⟨B0, 2, none⟩ = some (.int .i64 0)) ∧ (W.cell? ⟨B0 + 1, 0, none⟩ = some (.slice A' n' c') ∧ W.cell? ⟨B0 + 1, 1, none⟩ = some (.slice B' m' d') ∧ W.cell? ⟨B0 + 1, 2, none⟩ = some (.int .i64 0))) := aside fun W hW => by
  have hx := (hW.block B0 l0).trans D0.out
  have hy := (hW.block (B0 + 1) l1).trans D1.out
  refine ⟨⟨?_, ?_, ?_⟩, ?_, ?_, ?_⟩
  ·rw [cell_of_row W B0 0 _ _ _ hx]; rfl
  ·rw [cell_of_row W B0 1 _ _ _ hx]; rfl
  ·rw [cell_of_row W B0 2 _ _ _ hx]; rfl
  ·rw [cell_of_row W (B0 + 1) 0 _ _ _ hy]; rfl
  ·rw [cell_of_row W (B0 + 1) 1 _ _ _ hy]; rfl
  ·rw [cell_of_row W (B0 + 1) 2 _ _ _ hy]; rfl
 obtain ⟨⟨x0, x1, x2⟩, y0, y1, y2⟩ := HW.out w1 (Below.refl _ _)
 have HB0 := aside (Below.refl w1.heap.size w1)
 go_upto_region 4 with fail
 go_loopw [5] (fun v5 wr => ∃ k : Nat, k ≤ n' ∧ v5 = .int .i64 k ∧ Hid (Below w1.heap.size w1 wr)) (fun v5 _ => n' - (Go.RowKit.intOf v5).toNat)
 case atStart => exact ⟨0, Nat.zero_le _, rfl, HB0⟩
 case round =>
  clear HB0 x0 x1 x2 y0 y1 y2
  obtain ⟨k, hk, rfl, HB⟩ := hrel
  obtain ⟨⟨x0, x1, x2⟩, y0, y1, y2⟩ := HW.out wr HB.out
  by_cases hkn : k < n'
  ·have k0 : (k : Int) < (n' : Int) := by omega
   have HBw : Hid (Below w.heap.size w wr) := aside (B1.out.trans (HB.out.mono B1.out.size))
   have hka : k < xs.length := by have := HL.out; omega
   have hkb : k < xs'.length := by have := HL'.out; omega
   obtain ⟨b1, of1, ea, hb1, r1⟩ := NSl.at_ (FSl.below H1.out.cells HBw.out) hkn
   obtain ⟨b2, of2, eb, hb2, r2⟩ := NSl.at_ (FSl.below H2.out.cells HBw.out) hkn
   rw [getD_map Prod.fst (noIn, []) noIn hka] at r1
   rw [getD_map Prod.fst (noIn, []) noIn hkb] at r2
   have hma := gd_mem (noIn, []) hka
   have hmb := gd_mem (noIn, []) hkb
   have hin : inT (xs.getD k (noIn, [])) = inT (xs'.getD k (noIn, [])) := by
    rw [← getD_map inT (noIn, []) ([], 0, []) hka, ← getD_map inT (noIn, []) ([], 0, []) hkb, HX.out]
   have hxa := H1.out.tx _ hma
   have hKa := (H1.out.keys _ hma).below HBw.out |>.more HBw.out.size
   have hKb := (H2.out.keys _ hmb).below HBw.out |>.more HBw.out.size
   have hsa := H1.out.small _ hma
   generalize xs.getD k (noIn, []) = p at *
   generalize xs'.getD k (noIn, []) = p' at *
   obtain ⟨r, ks⟩ := p
   obtain ⟨r', ks'⟩ := p'
   unfold inT at hin
   dsimp only at r1 r2 hxa hKa hKb hsa hin
   obtain ⟨f1, f2, f3⟩ : r.tx = r'.tx ∧ r.at_ = r'.at_ ∧ ks.map (·.bs) = ks'.map (·.bs) := by
    injection hin with g1 g2
    injection g2 with g2 g3
    exact ⟨g1, g2, g3⟩
   have hkl : r.kn ≤ 1000 := by rw [← hKa.len]; exact hsa.1
   have p0 := r1 33 _ (encIn_key r)
   have q0 := r2 33 _ (encIn_key r')
   have HR1 : Hid (wr.rangeAt b1 (of1 + k * 34) (plC r.tx r.at_)) := aside (fun j v hj => r1 j v (encIn_pl r hj))
   have HR2 : Hid (wr.rangeAt b2 (of2 + k * 34) (plC r.tx r.at_)) := aside (fun j v hj => r2 j v (encIn_pl r' (by rw [← f1, ← f2]; exact hj)))
   have HXa := aside hxa
   have HC := aside (srows_any ks ks' f3 r.kA r'.kA r.kn r.kc r'.kn r'.kc hkl (wr.drewN 1) (hKa.drewN 1) (hKb.drewN 1) hsa.2)
   have hbz1 : b1 < wr.heap.size := by have := HBw.out.size; omega
   have hbz2 : b2 < wr.heap.size := by have := HBw.out.size; omega
   have hz0 : B0 < wr.heap.size := Nat.lt_of_lt_of_le l0 HB.out.size
   have hz1 : B0 + 1 < wr.heap.size := Nat.lt_of_lt_of_le l1 HB.out.size
   subst ea eb
   have HS0 : wr.drew.cell? ⟨B0, 0, none⟩ = some (.slice (some ⟨b1, of1, none⟩) n' c) ∧ wr.drew.cell? ⟨B0 + 1, 0, none⟩ = some (.slice (some ⟨b2, of2, none⟩) n' c') ∧ wr.drew.cell? ⟨b1, of1 + k * 34 + 33, none⟩ = some (.slice r.kA r.kn r.kc) ∧ wr.drew.cell? ⟨b2, of2 + k * 34 + 33, none⟩ = some (.slice r'.kA r'.kn r'.kc) := ⟨x0, y0, p0, q0⟩
   clear r1 r2 hma hmb hin hKa hKb hsa f1 f2 f3 hkl hka hkb hkn hxa HBw
   go_wp2_with fail
   go_region_held3 (fun X => X.cell? ⟨B0, 0, none⟩ = some (.slice (some ⟨b1, of1, none⟩) n' c) ∧ X.cell? ⟨B0 + 1, 0, none⟩ = some (.slice (some ⟨b2, of2, none⟩) n' c') ∧ X.cell? ⟨b1, of1 + k * 34 + 33, none⟩ = some (.slice r.kA r.kn r.kc) ∧ X.cell? ⟨b2, of2 + k * 34 + 33, none⟩ = some (.slice r'.kA r'.kn r'.kc))
    (first | (with_reducible exact HS0) | (refine ⟨?_, ?_, ?_, ?_⟩ <;> assumption))
    (first | (go_at_call 39; refine HC.out.mono ?_; rintro e w3 ⟨rfl, hb3⟩; have hs1 := (hb3.cell (p := ⟨B0, 0, none⟩) hz0).trans x0; have hs2 := (hb3.cell (p := ⟨B0 + 1, 0, none⟩) hz1).trans y0; have hs3 := (hb3.cell (p := ⟨b1, of1 + k * 34 + 33, none⟩) hbz1).trans p0; have hs4 := (hb3.cell (p := ⟨b2, of2 + k * 34 + 33, none⟩) hbz2).trans q0))
   have HB13 : Hid (Below wr.heap.size wr w3) := aside ((below_drawn (Below.refl wr.heap.size wr) 1).trans hb3)
   have HB3 : Hid (Below w1.heap.size w1 w3) := aside (HB.out.trans (HB13.out.mono HB.out.size))
   have HR13 := aside (range_below HR1.out HB13.out hbz1)
   have HR23 := aside (range_below HR2.out HB13.out hbz2)
   have HIp : Hid ((Tryz.prog.info? 55).map (·.size) = some (plC r.tx r.at_).length) := aside (by rw [plC_len]; kernel_rfl)
   obtain ⟨pv, hpv⟩ : ∃ pv : Value, pv = .agg (plC r.tx r.at_).toArray := ⟨_, rfl⟩
   have HPv := aside hpv
   have heg : ∀ (x y : Operand) (W : World), (eqGuard .neq 55 x y pv pv).run Tryz.prog W = .ok () W := fun x y W => by rw [hpv]; exact (pl_neq r.tx r.at_ HXa.out x y W).1
   have hbn : ∀ W : World, (binOp .neq 55 pv pv).run Tryz.prog W = .ok (.bool false) W := fun W => by rw [hpv]; exact (pl_neq r.tx r.at_ HXa.out (.tmp 0) (.tmp 0) W).2
   clear hpv
   have hc1 : b1 < w3.heap.size := Nat.lt_of_lt_of_le hbz1 HB13.out.size
   have hc2 : b2 < w3.heap.size := Nat.lt_of_lt_of_le hbz2 HB13.out.size
   have hd0 : B0 < w3.heap.size := Nat.lt_of_lt_of_le hz0 HB13.out.size
   have hd1 : B0 + 1 < w3.heap.size := Nat.lt_of_lt_of_le hz1 HB13.out.size
   have HX0 := aside hs1
   have HY0 := aside hs2
   clear hb3 hs1 hs2 hs3 hs4 p0 q0 x0 x1 x2 y0 y1 y2 HS0 HC HR1 HR2
   go_wp2_with fail
   refine wp_region_held_drew (S := (fun w' => Below w3.heap.size w3 w')) (by kernel_rfl) (below_drawn (Below.refl _ _) 1) (fun hS => ?_)
   refine tkH (i := 0) (v := ?_) rfl (by kernel_rfl) (fun _ _ _ h => h) (Or.inl ⟨by rfl, ?_⟩) hS ?_
   rotate_left
   ·(intro W hSw; (try dsimp only at hSw); go_simp; try with_reducible rfl)
   (repeat (first | simp only [q1] | simp only [q2] | simp only [q3] | simp only [Act.put] | simp only [q4] | simp only [q5] | simp only [q6]))
   refine tkH (i := 1) (v := ?_) rfl (by kernel_rfl) (fun _ _ _ h => h) (Or.inl ⟨by rfl, ?_⟩) hS ?_
   rotate_left
   ·(intro W hSw; (try dsimp only at hSw); go_simp; try with_reducible rfl)
   (repeat (first | simp only [q1] | simp only [q2] | simp only [q3] | simp only [Act.put] | simp only [q4] | simp only [q5] | simp only [q6]))
   refine tkH (i := 2) (v := ?_) rfl (by kernel_rfl) (fun _ _ _ h => h) (Or.inl ⟨by rfl, ?_⟩) hS ?_
   rotate_left
   ·(intro W hSw; (try dsimp only at hSw); go_simp; try with_reducible rfl)
   (repeat (first | simp only [q1] | simp only [q2] | simp only [q3] | simp only [Act.put] | simp only [q4] | simp only [q5] | simp only [q6]))
   refine tkH (i := 3) (v := ?_) rfl (by kernel_rfl) (fun _ _ _ h => h) (Or.inl ⟨by rfl, ?_⟩) hS ?_
   rotate_left
   ·(intro W hSw; (try dsimp only at hSw); go_simp; try with_reducible rfl)
   (repeat (first | simp only [q1] | simp only [q2] | simp only [q3] | simp only [Act.put] | simp only [q4] | simp only [q5] | simp only [q6]))
   refine tkH (i := 4) (v := ?_) rfl (by kernel_rfl) (fun _ _ _ h => h) (Or.inl ⟨by rfl, ?_⟩) hS ?_
   rotate_left
   ·(intro W hSw; (try dsimp only at hSw); have hx9 : W.cell? ⟨B0, 0, none⟩ = some ((.slice (some ⟨b1, of1, none⟩) n' c : Value)) := (hSw.cell (p := ⟨B0, 0, none⟩) hd0).trans HX0.out; go_simp; try with_reducible rfl)
   (repeat (first | simp only [q1] | simp only [q2] | simp only [q3] | simp only [Act.put] | simp only [q4] | simp only [q5] | simp only [q6]))
   refine tkH (i := 5) (v := ?_) rfl (by kernel_rfl) (fun _ _ _ h => h) (Or.inl ⟨by rfl, ?_⟩) hS ?_
   rotate_left
   ·(intro W hSw; (try dsimp only at hSw); go_simp; try with_reducible rfl)
   (repeat (first | simp only [q1] | simp only [q2] | simp only [q3] | simp only [Act.put] | simp only [q4] | simp only [q5] | simp only [q6]))
   refine tkH (i := 6) (v := ?_) rfl (by kernel_rfl) (fun _ _ _ h => h) (Or.inl ⟨by rfl, ?_⟩) hS ?_
   rotate_left
   ·(intro W hSw; (try dsimp only at hSw); go_simp; try with_reducible rfl)
   (repeat (first | simp only [q1] | simp only [q2] | simp only [q3] | simp only [Act.put] | simp only [q4] | simp only [q5] | simp only [q6]))
   refine tkH (i := 7) (v := ?_) rfl (by kernel_rfl) (fun _ _ _ h => h) (Or.inl ⟨by rfl, ?_⟩) hS ?_
   rotate_left
   ·(intro W hSw; (try dsimp only at hSw); go_simp; try with_reducible rfl)
   (repeat (first | simp only [q1] | simp only [q2] | simp only [q3] | simp only [Act.put] | simp only [q4] | simp only [q5] | simp only [q6]))
   refine tkH (i := 8) (v := pv) rfl (by kernel_rfl) (fun _ _ _ h => h) (by rw [HPv.out]; exact yieldsIf_load_mid (by rfl) _ _ rfl b1 (of1 + k * 34) rfl (plC r.tx r.at_) _ (fun W hW => range_below HR13.out hW hc1) Tryz.underlying55 rfl HIp.out) hS ?_
   (repeat (first | simp only [q1] | simp only [q2] | simp only [q3] | simp only [Act.put] | simp only [q4] | simp only [q5] | simp only [q6]))
   refine tkH (i := 9) (v := ?_) rfl (by kernel_rfl) (fun _ _ _ h => h) (Or.inl ⟨by rfl, ?_⟩) hS ?_
   rotate_left
   ·(intro W hSw; (try dsimp only at hSw); go_simp; try with_reducible rfl)
   (repeat (first | simp only [q1] | simp only [q2] | simp only [q3] | simp only [Act.put] | simp only [q4] | simp only [q5] | simp only [q6]))
   refine tkH (i := 10) (v := ?_) rfl (by kernel_rfl) (fun _ _ _ h => h) (Or.inl ⟨by rfl, ?_⟩) hS ?_
   rotate_left
   ·(intro W hSw; (try dsimp only at hSw); have hx9 : W.cell? ⟨B0 + 1, 0, none⟩ = some ((.slice (some ⟨b2, of2, none⟩) n' c' : Value)) := (hSw.cell (p := ⟨B0 + 1, 0, none⟩) hd1).trans HY0.out; go_simp; try with_reducible rfl)
   (repeat (first | simp only [q1] | simp only [q2] | simp only [q3] | simp only [Act.put] | simp only [q4] | simp only [q5] | simp only [q6]))
   refine tkH (i := 11) (v := ?_) rfl (by kernel_rfl) (fun _ _ _ h => h) (Or.inl ⟨by rfl, ?_⟩) hS ?_
   rotate_left
   ·(intro W hSw; (try dsimp only at hSw); go_simp; try with_reducible rfl)
   (repeat (first | simp only [q1] | simp only [q2] | simp only [q3] | simp only [Act.put] | simp only [q4] | simp only [q5] | simp only [q6]))
   refine tkH (i := 12) (v := ?_) rfl (by kernel_rfl) (fun _ _ _ h => h) (Or.inl ⟨by rfl, ?_⟩) hS ?_
   rotate_left
   ·(intro W hSw; (try dsimp only at hSw); go_simp; try with_reducible rfl)
   (repeat (first | simp only [q1] | simp only [q2] | simp only [q3] | simp only [Act.put] | simp only [q4] | simp only [q5] | simp only [q6]))
   refine tkH (i := 13) (v := ?_) rfl (by kernel_rfl) (fun _ _ _ h => h) (Or.inl ⟨by rfl, ?_⟩) hS ?_
   rotate_left
   ·(intro W hSw; (try dsimp only at hSw); go_simp; try with_reducible rfl)
   (repeat (first | simp only [q1] | simp only [q2] | simp only [q3] | simp only [Act.put] | simp only [q4] | simp only [q5] | simp only [q6]))
   refine tkH (i := 14) (v := pv) rfl (by kernel_rfl) (fun _ _ _ h => h) (by rw [HPv.out]; exact yieldsIf_load_mid (by rfl) _ _ rfl b2 (of2 + k * 34) rfl (plC r.tx r.at_) _ (fun W hW => range_below HR23.out hW hc2) Tryz.underlying55 rfl HIp.out) hS ?_
   (repeat (first | simp only [q1] | simp only [q2] | simp only [q3] | simp only [Act.put] | simp only [q4] | simp only [q5] | simp only [q6]))
   refine tkH (i := 15) (v := .bool false) rfl (by kernel_rfl) (fun _ _ _ h => h) (Or.inl ⟨by rfl, (by
    intro W hSw
    (try dsimp only at hSw)
    go_simp)⟩) hS ?_
   (repeat (first | simp only [q1] | simp only [q2] | simp only [q3] | simp only [Act.put] | simp only [q4] | simp only [q5] | simp only [q6]))
   refine tkH (i := 16) (v := ?_) rfl (by kernel_rfl) (fun _ _ _ h => h) (Or.inl ⟨by rfl, ?_⟩) hS ?_
   rotate_left
   ·(intro W hSw; (try dsimp only at hSw); go_simp; try with_reducible rfl)
   (repeat (first | simp only [q1] | simp only [q2] | simp only [q3] | simp only [Act.put] | simp only [q4] | simp only [q5] | simp only [q6]))
   refine wpAnyH_done (by kernel_rfl) ?_ _
   generalize w3.drew = w4 at hS ⊢
   have HB4 : Hid (Below w1.heap.size w1 w4) := aside (HB3.out.trans (hS.mono HB3.out.size))
   clear hS HR13 HR23 HX0 HY0 HIp
   go_wp2
   exact ⟨⟨k + 1, by omega, by go_num, HB4⟩, by simp [Go.RowKit.intOf]; omega⟩
  ·obtain rfl : n' = k := by omega
   have i0 : ((n' : Int) < (n' : Int)) = False := by simp
   clear hkn
   go_upto_region 10 with fail
   go_loopw [7] (fun v7 wr => ∃ k : Nat, k ≤ m' ∧ v7 = .int .i64 k ∧ Hid (Below w1.heap.size w1 wr)) (fun v7 _ => m' - (Go.RowKit.intOf v7).toNat)
   case atStart => exact ⟨0, Nat.zero_le _, rfl, HB⟩
   case round =>
    clear HB x0 x1 x2 y0 y1 y2
    obtain ⟨k, hk, rfl, HB⟩ := hrel
    obtain ⟨⟨x0, x1, x2⟩, y0, y1, y2⟩ := HW.out wr HB.out
    by_cases hkm : k < m'
    ·have k0 : (k : Int) < (m' : Int) := by omega
     have HBw : Hid (Below w.heap.size w wr) := aside (B1.out.trans (HB.out.mono B1.out.size))
     have hka : k < os.length := by have := HK.out; omega
     have hkb : k < os'.length := by have := HK'.out; omega
     obtain ⟨b1, of1, ea, hb1, p0, p1⟩ := (G1.out.below HBw.out).at_ hkm
     obtain ⟨b2, of2, eb, hb2, q0, q1⟩ := (G2.out.below HBw.out).at_ hkm
     have hma := gd_mem noOut hka
     have hmb := gd_mem noOut hkb
     have hin : (os.getD k noOut).pl = (os'.getD k noOut).pl := by
      rw [← getD_map ROut.pl noOut (0, []) hka, ← getD_map ROut.pl noOut (0, []) hkb, HO.out]
     have hra := ((G1.out.lock _ hma).below HBw.out).more HBw.out.size
     have hrb := ((G2.out.lock _ hmb).below HBw.out).more HBw.out.size
     have hsa := HS.out _ hma
     generalize os.getD k noOut = r at *
     generalize os'.getD k noOut = r' at *
     obtain ⟨f1, f2⟩ : r.amt = r'.amt ∧ r.lk.map ROp.pl = r'.lk.map ROp.pl := by
      unfold ROut.pl at hin
      injection hin with g1 g2
      exact ⟨g1, g2⟩
     have heq : (r.amt != r'.amt) = false := by simp [f1]
     have HC := aside (slock_any r.lk r'.lk true (by simp [f2]) r.lA r'.lA r.ln r.lc r'.ln r'.lc hsa.1 (wr.drewN 1) (hra.drewN 1) (hrb.drewN 1) hsa.2)
     have hbz1 : b1 < wr.heap.size := by have := HBw.out.size; omega
     have hbz2 : b2 < wr.heap.size := by have := HBw.out.size; omega
     have hz0 : B0 < wr.heap.size := Nat.lt_of_lt_of_le l0 HB.out.size
     have hz1 : B0 + 1 < wr.heap.size := Nat.lt_of_lt_of_le l1 HB.out.size
     subst ea eb
     have HS0 : wr.drew.cell? ⟨B0, 1, none⟩ = some (.slice (some ⟨b1, of1, none⟩) m' d) ∧ wr.drew.cell? ⟨B0 + 1, 1, none⟩ = some (.slice (some ⟨b2, of2, none⟩) m' d') ∧ wr.drew.cell? ⟨b1, of1 + k * 2 + 1, none⟩ = some (.slice r.lA r.ln r.lc) ∧ wr.drew.cell? ⟨b2, of2 + k * 2 + 1, none⟩ = some (.slice r'.lA r'.ln r'.lc) := ⟨x1, y1, p1, q1⟩
     clear hma hmb hin hra hrb hsa f1 f2 hka hkb hkm HBw
     go_wp2_with fail
     go_region_held3 (fun X => X.cell? ⟨B0, 1, none⟩ = some (.slice (some ⟨b1, of1, none⟩) m' d) ∧ X.cell? ⟨B0 + 1, 1, none⟩ = some (.slice (some ⟨b2, of2, none⟩) m' d') ∧ X.cell? ⟨b1, of1 + k * 2 + 1, none⟩ = some (.slice r.lA r.ln r.lc) ∧ X.cell? ⟨b2, of2 + k * 2 + 1, none⟩ = some (.slice r'.lA r'.ln r'.lc))
      (first | (with_reducible exact HS0) | (refine ⟨?_, ?_, ?_, ?_⟩ <;> assumption))
      (first | (go_at_call 40; refine HC.out.mono ?_; rintro e w3 ⟨rfl, hb3⟩; have hs1 := (hb3.cell (p := ⟨B0, 1, none⟩) hz0).trans x1; have hs2 := (hb3.cell (p := ⟨B0 + 1, 1, none⟩) hz1).trans y1; have hs3 := (hb3.cell (p := ⟨b1, of1 + k * 2 + 1, none⟩) hbz1).trans p1; have hs4 := (hb3.cell (p := ⟨b2, of2 + k * 2 + 1, none⟩) hbz2).trans q1))
     have HB13 : Hid (Below wr.heap.size wr w3) := aside ((below_drawn (Below.refl wr.heap.size wr) 1).trans hb3)
     have HB3 : Hid (Below w1.heap.size w1 w3) := aside (HB.out.trans (HB13.out.mono HB.out.size))
     have z0 := (HB13.out.cell (p := ⟨b1, of1 + k * 2, none⟩) hbz1).trans p0
     have z1 := (HB13.out.cell (p := ⟨b2, of2 + k * 2, none⟩) hbz2).trans q0
     clear hb3 hs3 hs4 p0 p1 q0 q1 x0 x1 x2 y0 y1 y2 HS0 HC
     go_wp2_with fail
     go_quiet (fail)
     go_wp2
     exact ⟨⟨k + 1, by omega, by go_num, aside (below_drawn HB3.out _)⟩, by simp [Go.RowKit.intOf]; omega⟩
    ·obtain rfl : m' = k := by omega
     have i0 : ((m' : Int) < (m' : Int)) = False := by simp
     clear hkm
     go_wp2
     go_ret
     exact ⟨rfl, B1.out.trans (HB.out.mono B1.out.size)⟩
end Go.Proofs.YtbpabjhcjffkmaaGreatDoor
