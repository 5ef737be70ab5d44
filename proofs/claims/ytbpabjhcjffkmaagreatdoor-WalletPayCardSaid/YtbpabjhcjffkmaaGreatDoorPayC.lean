/- Ins and outs in memory. Conditions: named in each theorem. The places that were met: a map keyed by places. Conditions: named in each theorem. tx.Check where nothing is wrong: the walks. Conditions: named in each theorem. -/
import Derived.Test.YtbpabjhcjffkmaaGreatDoorCopB
import Derived.Test.YtbpabjhcjffkmaaGreatDoorCoinA
import Derived.Test.YtbpabjhcjffkmaaGreatDoorPayL
import Derived.Maps.Own
import Derived.DeepKeys4
import Derived.MapViews
import Derived.ChangeSame
import Derived.Deep.AppendLies
/- Ins and outs in memory. Conditions: named in each theorem. -/
namespace Go.Proofs.YtbpabjhcjffkmaaGreatDoor
open Go.RowKit Go.ChangeShapes Go.WideShapes Go.ChangeAt

/-- An in as it lies. -/
structure RIn where
 tx : List Nat
 at_ : Int
 kA : Option Addr
 kn : Nat
 kc : Nat
def RIn.pl (r : RIn) : List Nat × Int := (r.tx, r.at_)
def encIn (r : RIn) : List Value := plC r.tx r.at_ ++ [.slice r.kA r.kn r.kc]
theorem encIn_len (r : RIn) : (encIn r).length = 34 := by simp [encIn, plC_len]
def noIn : RIn := ⟨[], 0, none, 0, 0⟩
theorem encIn_one (r : RIn) : ∀ u ∈ encIn r, u.oneCell' = true := fun u hu => by
 unfold encIn plC at hu
 rcases List.mem_append.1 hu with h | h
 ·rcases List.mem_append.1 h with h | h
  ·exact digC_one _ u h
  ·obtain rfl := List.mem_singleton.1 h
   rfl
 ·obtain rfl := List.mem_singleton.1 h
  rfl
theorem encIn_pl (r : RIn) {j : Nat} {v : Value} (h : (plC r.tx r.at_)[j]? = some v) : (encIn r)[j]? = some v := by
 have hj := (List.getElem?_eq_some_iff.1 h).1
 rw [plC_len] at hj
 unfold encIn
 rw [List.getElem?_append_left (by rw [plC_len]; exact hj)]
 exact h
theorem encIn_at (r : RIn) : (encIn r)[32]? = some (.int .i64 r.at_) := encIn_pl r (plC_at _ _)
theorem encIn_key (r : RIn) : (encIn r)[33]? = some (.slice r.kA r.kn r.kc) := by
 unfold encIn
 rw [List.getElem?_append_right (by rw [plC_len]; exact Nat.le_refl _), plC_len]
 rfl
theorem encIn_tx (r : RIn) {j : Nat} {v : Value} (h : (digC r.tx)[j]? = some v) : (encIn r)[j]? = some v := by
 refine encIn_pl r ?_
 have hj := (List.getElem?_eq_some_iff.1 h).1
 unfold plC
 rw [List.getElem?_append_left hj]
 exact h
theorem encIn_set (r : RIn) (A : Option Addr) (n c : Nat) : (encIn r).set 33 (.slice A n c) = encIn { r with kA := A, kn := n, kc := c } := by
 unfold encIn
 rw [List.set_append_right _ _ (by rw [plC_len]; exact Nat.le_refl _), plC_len]
 rfl
abbrev NSl (w : World) (B : Nat) (A : Option Addr) (n : Nat) (ins : List RIn) : Prop := FSl encIn 34 w B A n ins
/-- An out as it lies. -/
structure ROut where
 amt : Int
 lA : Option Addr
 ln : Nat
 lc : Nat
 lk : List ROp
def ROut.pl (r : ROut) : Int × List POp := (r.amt, r.lk.map ROp.pl)
def encOut (r : ROut) : List Value := [.int .i64 r.amt, .slice r.lA r.ln r.lc]
theorem encOut_len (r : ROut) : (encOut r).length = 2 := rfl
def noOut : ROut := ⟨0, none, 0, 0, []⟩
/-- Outs in memory. -/
structure OSl (w : World) (B : Nat) (A : Option Addr) (n : Nat) (outs : List ROut) : Prop where
 cells : FSl encOut 2 w B A n outs
 lock : ∀ o ∈ outs, RSl w B o.lA o.ln o.lk
theorem OSl.below {w w' : World} {B n : Nat} {A : Option Addr} {os : List ROut} (h : OSl w B A n os) (hb : Below B w w') : OSl w' B A n os := ⟨FSl.below h.cells hb, fun r hr => (h.lock r hr).below hb⟩
theorem OSl.more {w : World} {B B' n : Nat} {A : Option Addr} {os : List ROut} (h : OSl w B A n os) (hB : B ≤ B') : OSl w B' A n os := ⟨FSl.more h.cells hB, fun r hr => (h.lock r hr).more hB⟩
theorem OSl.step {w w' : World} {n : Nat} {A : Option Addr} {os : List ROut} (h : OSl w w.heap.size A n os) (hb : Below w.heap.size w w') : OSl w' w'.heap.size A n os := (h.below hb).more hb.size
theorem OSl.len {w : World} {B n : Nat} {A : Option Addr} {os : List ROut} (h : OSl w B A n os) : os.length = n := FSl.len encOut_len (by decide) h.cells
theorem NSl.at_ {w : World} {B n : Nat} {A : Option Addr} {ins : List RIn} (h : NSl w B A n ins) {k : Nat} (hk : k < n) : ∃ b off, A = some ⟨b, off, none⟩ ∧ b < B ∧ w.rangeAt b (off + k * 34) (encIn (ins.getD k noIn)) := by
 obtain ⟨b, off, e, hb, hc⟩ := FSl.at_ encIn_len (by decide) noIn h hk
 exact ⟨b, off, e, hb, hc⟩
theorem OSl.at_ {w : World} {B n : Nat} {A : Option Addr} {os : List ROut} (h : OSl w B A n os) {k : Nat} (hk : k < n) : ∃ b off, A = some ⟨b, off, none⟩ ∧ b < B ∧ w.cell? ⟨b, off + k * 2, none⟩ = some (.int .i64 (os.getD k noOut).amt) ∧ w.cell? ⟨b, off + k * 2 + 1, none⟩ = some (.slice (os.getD k noOut).lA (os.getD k noOut).ln (os.getD k noOut).lc) := by
 obtain ⟨b, off, e, hb, hc⟩ := FSl.at_ encOut_len (by decide) noOut h.cells hk
 exact ⟨b, off, e, hb, hc 0 _ rfl, hc 1 _ rfl⟩
theorem gd_mem {α : Type} {l : List α} {k : Nat} (d : α) (h : k < l.length) : l.getD k d ∈ l := by
 rw [List.getD_eq_getElem?_getD, List.getElem?_eq_getElem h]
 exact List.getElem_mem h
theorem drop_getD {α : Type} {l : List α} {k : Nat} (d : α) (h : k < l.length) : l.drop k = l.getD k d :: l.drop (k + 1) := by
 rw [List.getD_eq_getElem?_getD, List.getElem?_eq_getElem h]
 exact List.drop_eq_getElem_cons h
theorem take_getD {α : Type} {l : List α} {k : Nat} (d : α) (h : k < l.length) : l.take (k + 1) = l.take k ++ [l.getD k d] := by
 rw [List.take_add_one, List.getD_eq_getElem?_getD, List.getElem?_eq_getElem h]
 rfl
end Go.Proofs.YtbpabjhcjffkmaaGreatDoor

/- The places that were met: a map keyed by places. Conditions: named in each theorem. -/
namespace Go.Proofs.YtbpabjhcjffkmaaGreatDoor
open Go.RowKit Go.ChangeShapes Go.WideShapes Go.ChangeAt
open Go.WideElems (Fit)
open Go.Maps (Keyed)

theorem mapM_some {α β : Type} {f : α → Option β} : ∀ {l : List α}, (∀ x ∈ l, ∃ y, f x = some y) → ∃ ys, l.mapM f = some ys
 | [], _ => ⟨[], rfl⟩
 | a :: l, h => by
  obtain ⟨y, hy⟩ := h a List.mem_cons_self
  obtain ⟨ys, hys⟩ := mapM_some (l := l) (fun x hx => h x (List.mem_cons_of_mem _ hx))
  exact ⟨y :: ys, by rw [List.mapM_cons, hy, hys]; rfl⟩
theorem byte_wf {x : Nat} (h : x < 256) : (Lit.int .u8 (x : Int)).wf = true := by
 have e1 : IntKind.u8.min = 0 := by decide
 have e2 : IntKind.u8.max = 255 := by decide
 simp [Lit.wf, e1, e2]
 omega
theorem small_wf {x : Int} (h1 : 0 ≤ x) (h2 : x < 1000000) : (Lit.int .i64 x).wf = true := by
 have e1 : IntKind.i64.min = -9223372036854775808 := by decide
 have e2 : IntKind.i64.max = 9223372036854775807 := by decide
 simp [Lit.wf, e1, e2]
 omega
set_option maxRecDepth 100000 in
theorem dig_lits (m : Nat) (tx : List Nat) (hb : ∀ x ∈ tx, x < 256) (h : tx.length = 32) : ∃ ls, Tryz.prog.keyLits (m + 2) 23 (digC tx) = some ls := by
 have hC : Tryz.prog.cellsOf 23 = 32 := by kernel_rfl
 have hC1 : Tryz.prog.cellsOf 5 = 1 := by kernel_rfl
 unfold Program.keyLits
 simp only [Tryz.underlying23, hC, hC1, digC_len, if_true]
 obtain ⟨ys, hys⟩ := mapM_some (f := fun i => Tryz.prog.keyLits (m + 1) 5 (((digC tx).drop (i * 1)).take 1)) (l := List.range 32) (fun i hi => by
  rw [List.mem_range] at hi
  have e : ((digC tx).drop (i * 1)).take 1 = [.int .u8 ((tx.getD i 0 : Nat) : Int)] := by
   rw [Nat.mul_one, List.drop_eq_getElem_cons (by rw [digC_len]; exact hi), List.take_succ_cons, List.take_zero]
   congr 1
   unfold digC
   simp
  refine ⟨[.int .u8 ((tx.getD i 0 : Nat) : Int)], ?_⟩
  rw [e]
  have hx : tx.getD i 0 < 256 := by
   rw [List.getD_eq_getElem?_getD, List.getElem?_eq_getElem (by omega)]
   exact hb _ (List.getElem_mem _)
  unfold Program.keyLits
  simp only [Tryz.underlying5]
  rw [if_pos ⟨by trivial, byte_wf hx⟩])
 exact ⟨ys.flatten, by rw [hys]; rfl⟩
set_option maxRecDepth 100000 in
theorem pl_lits (m : Nat) (tx : List Nat) (at_ : Int) (hb : ∀ x ∈ tx, x < 256) (h : tx.length = 32) (hat : (Lit.int .i64 at_).wf = true) : ∃ ls, Tryz.prog.keyLits (m + 3) 55 (plC tx at_) = some ls := by
 have hC : Tryz.prog.cellsOf 55 = 33 := by kernel_rfl
 have hC1 : Tryz.prog.cellsOf 23 = 32 := by kernel_rfl
 have hC2 : Tryz.prog.cellsOf 3 = 1 := by kernel_rfl
 obtain ⟨l1, h1⟩ := dig_lits m tx hb h
 have h2 : Tryz.prog.keyLits (m + 2) 3 [.int .i64 at_] = some [.int .i64 at_] := by
  unfold Program.keyLits
  simp only [Tryz.underlying3]
  rw [if_pos ⟨by trivial, hat⟩]
 have e1 : ((plC tx at_).drop 0).take 32 = digC tx := by
  unfold plC
  rw [List.drop_zero, List.take_append_of_le_length (by rw [digC_len]; exact Nat.le_refl _), List.take_of_length_le (by rw [digC_len]; exact Nat.le_refl _)]
 have e2 : ((plC tx at_).drop 32).take 1 = [.int .i64 at_] := by
  unfold plC
  rw [List.drop_append_of_le_length (by rw [digC_len]; exact Nat.le_refl _), List.drop_of_length_le (by rw [digC_len]; exact Nat.le_refl _)]
  rfl
 refine ⟨l1 ++ [.int .i64 at_], ?_⟩
 rw [show m + 3 = (m + 2) + 1 from rfl]
 unfold Program.keyLits
 simp only [Tryz.underlying55, hC, plC_len]
 rw [if_pos ⟨by trivial, by simp⟩]
 simp only [List.mapM_cons, List.mapM_nil, hC1, hC2, e1, e2, h1, h2]
 simp
set_option maxRecDepth 100000 in
theorem pl_key {tx : List Nat} {at_ : Int} (hb : ∀ x ∈ tx, x < 256) (h : tx.length = 32) (hat : (Lit.int .i64 at_).wf = true) : ∃ kl, keyOf Tryz.prog 55 (.agg (plC tx at_).toArray) = some kl := by
 have hC : Tryz.prog.cellsOf 55 = 33 := by kernel_rfl
 have hk : Tryz.prog.keyType 55 = true := by kernel_rfl
 have hf : (Value.agg (plC tx at_).toArray).formed Tryz.prog 55 = true := by
  simp [Value.formed, Tryz.underlying55, hC, plC_len]
 obtain ⟨ls, hl⟩ := pl_lits (Tryz.prog.types.size - 2) tx at_ hb h hat
 have hs : Tryz.prog.types.size + 1 = Tryz.prog.types.size - 2 + 3 := by
  have : 2 ≤ Tryz.prog.types.size := of_decide_eq_true (by kernel_rfl)
  omega
 refine ⟨.string (keyBytes ls), ?_⟩
 unfold keyOf
 simp only [Tryz.underlying55, hk, hf, Bool.and_true, if_true]
 rw [hs]
 show (Program.keyLits _ _ _ (plC tx at_)).map _ = _
 rw [hl]
 rfl
set_option maxRecDepth 100000 in
theorem pLaid : laidOutB Tryz.prog = true := by kernel_rfl
theorem pWide : (match Tryz.prog.underlying 55 with | some (.array _ _) | some (.struct _) => true | _ => false) = true := by kernel_rfl
theorem pRow : (55 : TypeId) < Tryz.prog.types.size := of_decide_eq_true (by kernel_rfl)
set_option maxRecDepth 100000 in
theorem pKeyed : Keyed Tryz.prog 55 := Keyed.of_law (deep_law_laid pLaid (m := 3) (by omega) pRow (by kernel_rfl) pWide)
theorem pl_inj {t t' : List Nat} {a a' : Int} (h1 : t.length = 32) (h2 : t'.length = 32) (h : (Value.agg (plC t a).toArray) = .agg (plC t' a').toArray) : t = t' ∧ a = a' := by
 injection h with h
 have h3 : plC t a = plC t' a' := by simpa using h
 have ha : a = a' := by
  have := (plC_at t a).symm.trans (h3 ▸ plC_at t' a')
  injection this with this
  injection this
 refine ⟨List.ext_getElem (by omega) fun i g1 g2 => ?_, ha⟩
 have h4 := plC_tx t a (j := i) (by omega)
 rw [h3, plC_tx t' a' (j := i) (by omega)] at h4
 injection h4 with h4
 injection h4 with h4 h5
 have h6 : t'.getD i 0 = t.getD i 0 := by omega
 rw [List.getD_eq_getElem?_getD, List.getD_eq_getElem?_getD, List.getElem?_eq_getElem g1, List.getElem?_eq_getElem g2] at h6
 exact h6.symm
def R0 : Value → Option (DataW Unit × List MemPlace) := fun _ => some (.nil, [])
/-- A place's value. -/
def plV (p : List Nat × Int) : Value := .agg (plC p.1 p.2).toArray
/-- Block b is a map whose keys are among some places. -/
def Met (w : World) (b : Nat) (ps : List (List Nat × Int)) : Prop := ∃ es clock, w.heap[b]? = some (.map es clock) ∧ Fit Tryz.prog 55 R0 es clock ∧ es.size ≤ ps.length ∧ ∀ x ∈ es.toList, ∃ p ∈ ps, x.key = plV p
theorem met_made (w : World) : Met (w.alloc (.map #[] 0)) w.heap.size [] := by
 obtain ⟨es, clock, h1, h2, h3, _⟩ := World.ownsMap_made w Tryz.prog 55 R0
 have h4 : es.size = 0 := by omega
 have h5 : es = #[] := Array.eq_empty_of_size_eq_zero h4
 subst h5
 exact ⟨#[], clock, h1, h2, by simp, by simp⟩
theorem Met.lt {w : World} {b : Nat} {ps : List (List Nat × Int)} (h : Met w b ps) : b < w.heap.size := by
 obtain ⟨es, clock, hb, _⟩ := h
 exact (Array.getElem?_eq_some_iff.1 hb).1
theorem Met.same {w w' : World} {b : Nat} {ps : List (List Nat × Int)} (h : Met w b ps) (hb : w'.heap[b]? = w.heap[b]?) : Met w' b ps := by
 obtain ⟨es, clock, h1, h2⟩ := h
 exact ⟨es, clock, hb.trans h1, h2⟩
theorem zeroI (w : World) : (zeroValue 3).run Tryz.prog w = .ok (.int .i64 0) w := by kernel_rfl
/-- 'v, ok := m[p]' of a place that was not met. -/
theorem Met.look {w : World} {b : Nat} {ps : List (List Nat × Int)} (h : Met w b ps) (hl : ∀ p ∈ ps, p.1.length = 32) {p : List Nat × Int} (hp : p.1.length = 32) (hb : ∀ x ∈ p.1, x < 256) (hat : (Lit.int .i64 p.2).wf = true) (hn : p ∉ ps) :
  ∀ w' : World, w'.heap[b]? = w.heap[b]? → (Instr.lookup 142 (.map (some b)) (plV p) true).run Tryz.prog w' = .ok (.tuple #[.int .i64 0, .bool false]) w' := by
 intro w' hw
 obtain ⟨es, clock, h1, h2, h3, h4⟩ := h
 obtain ⟨kl, hk⟩ := pl_key hb hp hat
 rcases Maps.fit_look (w := w') true pKeyed Tryz.underlying142 (zeroI w') (hw.trans h1) h2 hk with ⟨h5, _⟩ | ⟨e0, _, h8, h9, _⟩
 ·exact h5
 ·obtain ⟨q, hq, h10⟩ := h4 e0 h8
  have h11 : (Value.agg (plC p.1 p.2).toArray) = .agg (plC q.1 q.2).toArray := h9.symm.trans h10
  obtain ⟨e1, e2⟩ := pl_inj hp (hl q hq) h11
  exact absurd (show p ∈ ps by rw [show p = q from Prod.ext e1 e2]; exact hq) hn
/-- 'm[p] = n'. -/
theorem Met.put {w : World} {b : Nat} {ps : List (List Nat × Int)} (h : Met w b ps) (hn : ps.length < maxLen) {p : List Nat × Int} (hp : p.1.length = 32) (hb : ∀ x ∈ p.1, x < 256) (hat : (Lit.int .i64 p.2).wf = true) (z : Int) :
  ∃ w', (Instr.mapUpdate 142 (.map (some b)) (plV p) (.int .i64 z)).run Tryz.prog w = .ok () w' ∧ Met w' b (ps ++ [p]) ∧ w.grownBy w' (some b) := by
 have hown : w.ownsMap Tryz.prog 55 R0 b ps.length (.map ((h.choose.toList.map (Go.WideElems.rg Tryz.prog 55 R0)).foldr DataW.insert [])) := by
  obtain ⟨clock, h1, h2, h3, _⟩ := h.choose_spec
  exact ⟨_, clock, h1, h2, h3, rfl⟩
 obtain ⟨clock, h1, h2, h3, h4⟩ := h.choose_spec
 obtain ⟨kl, hk⟩ := pl_key hb hp hat
 obtain ⟨w1, hr1, ho1, hg1⟩ := hown.update pKeyed Tryz.underlying142 hn (val := .int .i64 z) hk (d := .nil) (ps := []) rfl
 obtain ⟨es', clock', hr2, hf2, _, _, _, hm2⟩ := Maps.fit_store (R' := R0) pKeyed Tryz.underlying142 h1 h2 (Nat.lt_of_le_of_lt h3 hn) (val := .int .i64 z) (fun _ _ _ _ hz => hz) hk (yv := (.nil, [])) rfl
 rw [hr2] at hr1
 have hw : ChangeMaps.setBlock w b (.map es' clock') = w1 := by injection hr1
 refine ⟨w1, by rw [← hw]; exact hr2, ?_, hg1⟩
 obtain ⟨es3, clock3, k1, _, k3, _⟩ := ho1
 rw [← hw] at k1
 have k4 : (ChangeMaps.setBlock w b (.map es' clock')).heap[b]? = some (.map es' clock') := ChangeMaps.heap_setBlock_same h1 _
 rw [k4] at k1
 injection k1 with k1
 injection k1 with k1 k2
 refine ⟨es', clock', by rw [← hw]; exact k4, hf2, by rw [k1, List.length_append]; exact k3, fun x hx => ?_⟩
 rcases hm2 x hx with ⟨g1, _⟩ | ⟨g1, g2⟩
 ·obtain ⟨q, hq, h5⟩ := h4 x g1
  exact ⟨q, List.mem_append_left _ hq, h5⟩
 ·exact ⟨p, by simp, g1⟩
end Go.Proofs.YtbpabjhcjffkmaaGreatDoor

/- tx.Check where nothing is wrong: the walks. Conditions: named in each theorem. -/
namespace Go.Proofs.YtbpabjhcjffkmaaGreatDoor
open Go.RowKit Go.ChangeShapes Go.WideShapes Go.ChangeAt

theorem idxk_any (A : Option Addr) (c : Nat) (fv : Value) (w : World) : Calls Tryz.prog 151 #[.slice A 0 c, fv] w (fun e w' => e = .returned (.int .i64 (-1)) ∧ w' = w) := by
 go_enter Tryz.func151, Tryz.ntmps151
 go_wp2_with fail
 go_loopw [8] (fun v8 wr => v8 = .int .i64 0 ∧ wr = w) (fun _ _ => 0)
 case atStart => exact ⟨rfl, rfl⟩
 case round =>
  obtain ⟨rfl, hw⟩ := hrel
  subst hw
  go_wp2
  go_ret
  exact ⟨rfl, rfl⟩
theorem cfk_any (A : Option Addr) (c : Nat) (fv : Value) (w : World) : Calls Tryz.prog 130 #[.slice A 0 c, fv] w (fun e w' => e = .returned (.bool false) ∧ w' = w) := by
 have HC := aside (idxk_any A c fv w)
 go_enter Tryz.func130, Tryz.ntmps130
 go_wp2_with fail
 refine HC.out.mono ?_
 rintro e w2 ⟨rfl, hw⟩
 rw [hw]
 clear hw w2
 go_wp2
 go_ret
 exact ⟨by simp, rfl⟩
theorem txtime_any (w : World) : Calls Tryz.prog 110 #[.int .i64 0] w (fun e w' => e = .returned (.bool true) ∧ w' = w) := by
 go_enter Tryz.func110, Tryz.ntmps110
 go_wp2
 go_ret
 exact ⟨by simp, rfl⟩
theorem grown_of {w w' : World} (h : Below w.heap.size w w') (row : Option Nat) : w.grownBy w' row := ⟨h.os, h.tape, h.output, h.size, fun i hi _ => h.block i hi⟩
theorem grown_low {w w' : World} {b B : Nat} (h : w.grownBy w' (some b)) (hB : B ≤ b) (hz : B ≤ w.heap.size) : Below B w w' := ⟨h.os, h.tape, h.output, h.size, fun k hk => h.block k (Nat.lt_of_lt_of_le hk hz) (fun e => by injection e with e; omega)⟩
set_option maxHeartbeats 8000000 in
set_option maxRecDepth 100000 in
theorem txin_any (r : RIn) (h32 : r.tx.length = 32) (hb : ∀ x ∈ r.tx, x < 256) (ha0 : 0 ≤ r.at_) (ha1 : r.at_ < 40) (hk : r.kA = none ∧ r.kn = 0 ∧ r.kc = 0) (ps : List (List Nat × Int)) (hp : ∀ p ∈ ps, p.1.length = 32) (hn : r.pl ∉ ps) (hps : ps.length ≤ 1000) (bm : Nat) (w : World) (hm : Met w bm ps) :
  Calls Tryz.prog 111 #[.agg (encIn r).toArray, .map (some bm)] w (fun e w' => e = .returned .nilIface ∧ Met w' bm (ps ++ [r.pl]) ∧ w.grownBy w' (some bm)) := by
 have B1 : Hid (Below w.heap.size w (w.alloc (.cells (encIn r).toArray 63))) := aside ((Below.refl _ _).alloc (Nat.le_refl _) _)
 have D1 : Hid ((w.alloc (.cells (encIn r).toArray 63)).heap[w.heap.size]? = some (.cells (encIn r).toArray 63 (0, 0))) := aside (heap_alloc_new _ _)
 have HM : Hid (Met (w.alloc (.cells (encIn r).toArray 63)) bm ps) := aside (hm.same (B1.out.block bm hm.lt))
 have hlt : bm < w.heap.size := hm.lt
 have HK := aside hk
 have HP := aside hp
 have HNn := aside hn
 have H32 := aside h32
 have HBy := aside hb
 clear hm hk hp hn h32 hb
 go_enter Tryz.func111, Tryz.ntmps111
 go_upto_region 1 with fail
 change Code.wp _ _ _ _ (w.alloc (.cells (encIn r).toArray 63))
 generalize (w.alloc (.cells (encIn r).toArray 63)) = w1 at B1 D1 HM ⊢
 obtain ⟨bx, hbx⟩ : ∃ bx, bx = w.heap.size := ⟨_, rfl⟩
 have EB := aside hbx
 simp only [← hbx] at D1 hlt ⊢
 clear hbx
 have hwf : (Lit.int .i64 r.at_).wf = true := small_wf ha0 (by omega)
 have l1 : bx < w1.heap.size := (Array.getElem?_eq_some_iff.1 D1.out).1
 have x32 : w1.cell? ⟨bx, 32, none⟩ = some (.int .i64 r.at_) := by rw [cell_of_row _ _ 32 _ _ _ D1.out, List.getElem?_toArray]; exact encIn_at r
 have HRp : Hid (w1.rangeAt bx 0 (plC r.tx r.at_)) := aside (fun j v hj => by
  rw [Nat.zero_add, cell_of_row _ _ j _ _ _ D1.out, List.getElem?_toArray]
  exact encIn_pl r hj)
 have HIp : Hid ((Tryz.prog.info? 55).map (·.size) = some (plC r.tx r.at_).length) := aside (by rw [plC_len]; kernel_rfl)
 have hlk : (Instr.lookup 142 (.map (some bm)) (.agg (plC r.tx r.at_).toArray) true).run Tryz.prog w1 = .ok (.tuple #[.int .i64 0, .bool false]) w1 := HM.out.look HP.out (p := r.pl) H32.out HBy.out hwf HNn.out w1 rfl
 have h0 : (r.at_ < 0) = False := by simp only [eq_iff_iff, iff_false]; omega
 have h1 : (40 ≤ r.at_) = False := by simp only [eq_iff_iff, iff_false]; omega
 obtain ⟨es, clock, hmb, -⟩ : ∃ es clock, w1.heap[bm]? = some (.map es clock) ∧ True := by
  obtain ⟨es, clock, h9, _⟩ := HM.out
  exact ⟨es, clock, h9, trivial⟩
 obtain ⟨w2, hup, hm2, hg2⟩ := HM.out.put (by unfold maxLen; omega) (p := r.pl) H32.out HBy.out hwf (es.size : Int)
 have hup2 : (Instr.mapUpdate 142 (.map (some bm)) (.agg (plC r.tx r.at_).toArray) (.int .i64 (es.size : Int))).run Tryz.prog w1 = .ok () w2 := hup
 have hlen : (Builtin.len_ #[142] 3 #[.map (some bm)]).run Tryz.prog w1 = .ok (.int .i64 (es.size : Int)) w1 := run_len_map (w := w1) 142 3 bm es clock Tryz.underlying142 hmb
 have HM2 := aside hm2
 have HG2 := aside hg2
 have hx2 := (hg2.block bx l1 (fun e => by injection e with e; omega)).trans D1.out
 have x33 : w2.cell? ⟨bx, 33, none⟩ = some (.slice none 0 0) := by
  rw [cell_of_row _ _ 33 _ _ _ hx2, List.getElem?_toArray, encIn_key, HK.out.1, HK.out.2.1, HK.out.2.2]
 clear hm2 hg2 hx2 hup
 go_wp2_with (first
  | (refine wpList_load_mid rfl 55 (.tmp 20) rfl bx 0 rfl (plC r.tx r.at_) _ HRp.out Tryz.underlying55 rfl HIp.out ?_)
  | (refine wpList_load_mid rfl 55 (.tmp 28) rfl bx 0 rfl (plC r.tx r.at_) _ HRp.out Tryz.underlying55 rfl HIp.out ?_)
  | (go_at_call 130; refine (cfk_any none 0 _ w2).mono ?_; rintro e w3 ⟨rfl, hw3⟩; rw [hw3]; clear hw3 w3)
  | fail)
 go_ret
 exact ⟨rfl, HM2.out, (grown_of B1.out _).trans HG2.out⟩
end Go.Proofs.YtbpabjhcjffkmaaGreatDoor
