/- What a wallet pays: the plain law of both ways. Conditions: named in each theorem. What stays where all blocks but one stay; what a wallet's payment lies as: words. Conditions: named in each theorem. An in is made of a place; a slice of one in; a payment's block while it is made: words. Conditions: named in each theorem. The reference's LocksOf: its locks lie in blocks of the call's own. Conditions: named in each theorem. -/
import Derived.Test.YtbpabjhcjffkmaaGreatDoorPayE
import Derived.Test.YtbpabjhcjffkmaaGreatDoorPayF
import Derived.Test.YtbpabjhcjffkmaaGreatDoorPayH
import Derived.Test.YtbpabjhcjffkmaaGreatDoorSigA
import Derived.Test.YtbpabjhcjffkmaaGreatDoorPickU
import Derived.OrdersHeld
import Derived.Great.BuildSlice
import Derived.Deep.MidRow
/- What a wallet pays: the plain law of both ways. Conditions: named in each theorem. -/
namespace Go.Proofs.YtbpabjhcjffkmaaGreatDoor
open Go.RowKit Go.ChangeShapes Go.WideShapes Go.ChangeAt

theorem cb_self : ∀ a : List UInt8, Lib.compareBytes a a = 0
 | [] => rfl
 | a :: r => by
  unfold Lib.compareBytes
  rw [if_neg (by simp), if_neg (by simp)]
  exact cb_self r
theorem cmpP_self (t : List Nat) (a : Int) : ¬ cmpP t a t a < 0 := by
 rw [cmpP_neg]
 have h : cmpY t t = 0 := cb_self _
 omega
theorem chk_first : ∀ {cs : List RCoin} {p : RCoin}, chkQ (some p) cs = 0 → ∀ c ∈ cs, cmpP p.tx p.at_ c.tx c.at_ < 0
 | [], _, _, c, hc => by cases hc
 | d :: r, p, h, c, hc => by
  obtain ⟨h1, h2, h3⟩ := chk_cons.1 h
  rcases List.mem_cons.1 hc with rfl | hc
  ·exact h1
  ·exact chk_first (chk_less h3 h1) c hc
theorem chk_pair : ∀ {cs : List RCoin}, chkQ none cs = 0 → cs.Pairwise (fun a b => cmpP a.tx a.at_ b.tx b.at_ < 0)
 | [], _ => List.Pairwise.nil
 | c :: r, h => by
  obtain ⟨_, h2⟩ := chk_none.1 h
  exact List.Pairwise.cons (chk_first h2) (chk_pair (chk_drop h2))
theorem ownF_in : ∀ (ls : List (List POp)) (i : Int) (o : List POp), ownF ls i o = -1 ∨ (i ≤ ownF ls i o ∧ ownF ls i o < i + ls.length)
 | [], i, o => .inl rfl
 | l :: r, i, o => by
  unfold ownF
  by_cases h : l = o
  ·rw [if_pos h]
   right
   simp only [List.length_cons]
   omega
  ·rw [if_neg h]
   rcases ownF_in r (i + 1) o with h9 | ⟨h1, h2⟩
   ·exact .inl h9
   ·right
    simp only [List.length_cons]
    omega
/-- Coins of the wallet's own. -/
structure MineOk (ls : List (List POp)) (ms : List RCoin) : Prop where
 len : ms.length ≤ 30
 tx : ∀ r ∈ ms, r.tx.length = 32 ∧ ∀ y ∈ r.tx, y < 256
 at_ : ∀ r ∈ ms, 0 ≤ r.at_ ∧ r.at_ < 40
 amt : ∀ r ∈ ms, 0 ≤ r.amt ∧ r.amt ≤ 1125899906842624
 own : ∀ r ∈ ms, 0 ≤ ownF ls 0 r.pl ∧ ownF ls 0 r.pl < ls.length
 one : (ms.map (fun r => (r.tx, r.at_))).Nodup
theorem mine_ok {ls : List (List POp)} {cs qs : List RCoin} (hs : setQ cs = 0) (ht : ∀ r ∈ cs, r.tx.length = 32) (hb : ∀ r ∈ cs, ∀ y ∈ r.tx, y < 256) (hk : qs.map RCoin.key = (cs.filter (keepC ls)).map RCoin.key) : MineOk ls (qs.take 30) := by
 have hq : setQ qs = 0 := by rw [set_key hk]; exact set_filter _ hs
 obtain ⟨h1, h2⟩ := set_zero.1 hq
 have hmem : ∀ r ∈ qs.take 30, ∃ c ∈ cs, c.key = r.key ∧ keepC ls c = true := fun r hr => by
  have hr2 : r.key ∈ qs.map RCoin.key := List.mem_map_of_mem (List.mem_of_mem_take hr)
  rw [hk] at hr2
  obtain ⟨c, hc, he⟩ := List.mem_map.1 hr2
  obtain ⟨hc1, hc2⟩ := List.mem_filter.1 hc
  exact ⟨c, hc1, he, hc2⟩
 have hcq : ∀ r ∈ qs.take 30, coinQ r = 0 := fun r hr => chk_each h2 r (List.mem_of_mem_take hr)
 refine ⟨by rw [List.length_take]; omega, ?_, ?_, ?_, ?_, ?_⟩
 ·intro r hr
  obtain ⟨c, hc, he, _⟩ := hmem r hr
  have : c.tx = r.tx := congrArg (fun k => k.1) he
  rw [← this]
  exact ⟨ht c hc, hb c hc⟩
 ·intro r hr
  have h := hcq r hr
  unfold coinQ at h
  by_cases h9 : r.at_ < 0 ∨ 40 ≤ r.at_ ∨ r.ht < 0 ∨ 1073741824 < r.ht
  ·rw [if_pos h9] at h
   omega
  ·omega
 ·intro r hr
  exact moneyE_zero (coin_zero (hcq r hr)).1
 ·intro r hr
  obtain ⟨c, hc, he, hkp⟩ := hmem r hr
  have e : c.pl = r.pl := congrArg (fun k => k.2.2.2.1) he
  unfold keepC at hkp
  rw [decide_eq_true_iff, e] at hkp
  rcases ownF_in ls 0 r.pl with h9 | h9 <;> omega
 ·unfold List.Nodup
  rw [List.pairwise_map]
  refine ((chk_pair h2).sublist (List.take_sublist _ _)).imp ?_
  intro a b hab e
  injection e with e1 e2
  rw [e1, e2] at hab
  exact cmpP_self _ _ hab
abbrev CKey := List Nat × Int × Int × List POp × Int
def amtK (ks : List CKey) : List Int := ks.map (fun k => k.2.2.1)
theorem amtK_key (ms : List RCoin) : amtK (ms.map RCoin.key) = ms.map (·.amt) := by
 unfold amtK
 rw [List.map_map]
 rfl
def plK (ks : List CKey) (p : List Int) : List (List Nat × Int) := p.map (fun i => ((ks.getD i.toNat noC.key).1, (ks.getD i.toNat noC.key).2.1))
/-- The places that are paid with. -/
noncomputable def theP (ns : List Int) (want : Int) : List Int := (Pk.takeT (Pk.atZ ns) want (Pk.order_ex (Pk.atZ ns) ns.length).choose).mergeSort (fun x y => decide (x ≤ y))
noncomputable def leftK (ns : List Int) (want : Int) : Int := Pk.sumG (Pk.atZ ns) (theP ns want) - want
def outK (amt : Int) (l : List POp) (left : Int) (fr : List POp) : List (Int × List POp) := (amt, l) :: (if 0 < left then [(left, fr)] else [])
def inK (d : List Nat) (ls : List (List POp)) (id : List Nat) (ks : List CKey) (p : List Int) : List (List Nat × Int × List (List Nat)) :=
 p.map (fun i => ((ks.getD i.toNat noC.key).1, (ks.getD i.toNat noC.key).2.1, [signL (seedG d (ownF ls 0 (ks.getD i.toNat noC.key).2.2.2.1)) id]))
/-- What is paid where nothing is wrong. -/
noncomputable def paidK (d : List Nat) (ls : List (List POp)) (cs : List RCoin) (ks : List CKey) (amt : Int) (l : List POp) (want : Int) : List (List Nat × Int × List (List Nat)) × List (Int × List POp) :=
 (inK d ls (idL (plK ks (theP (amtK ks) want)) (outK amt l (leftK (amtK ks) want) (ls.getD (frI cs ls 0) []))) ks (theP (amtK ks) want), outK amt l (leftK (amtK ks) want) (ls.getD (frI cs ls 0) []))
/-- What is wrong, what is paid. -/
noncomputable def payQ (d : List Nat) (n : Int) (cs : List RCoin) (amt : Int) (l : List POp) (fee : Int) : Int × List (List Nat × Int × List (List Nat)) × List (Int × List POp) :=
 if chQ n cs ≠ 0 then (chQ n cs, [], [])
 else if (wantQ amt l fee).2 ≠ 0 then ((wantQ amt l fee).2, [], [])
 else if Pk.pickQ (amtK (((cs.filter (keepC ((List.range n.toNat).map (lockL d)))).map RCoin.key).take 30)) (wantQ amt l fee).1 ≠ 0 then (Pk.pickQ (amtK (((cs.filter (keepC ((List.range n.toNat).map (lockL d)))).map RCoin.key).take 30)) (wantQ amt l fee).1, [], [])
 else (0, paidK d ((List.range n.toNat).map (lockL d)) cs (((cs.filter (keepC ((List.range n.toNat).map (lockL d)))).map RCoin.key).take 30) amt l (wantQ amt l fee).1)
theorem pay1 {d : List Nat} {n : Int} {cs : List RCoin} {amt : Int} {l : List POp} {fee : Int} (h : chQ n cs ≠ 0) : payQ d n cs amt l fee = (chQ n cs, [], []) := if_pos h
theorem pay2 {d : List Nat} {n : Int} {cs : List RCoin} {amt : Int} {l : List POp} {fee : Int} (h : chQ n cs = 0) (h2 : (wantQ amt l fee).2 ≠ 0) : payQ d n cs amt l fee = ((wantQ amt l fee).2, [], []) := by
 unfold payQ
 rw [if_neg (by simpa using h), if_pos h2]
theorem pay3 {d : List Nat} {n : Int} {cs ms : List RCoin} {amt : Int} {l : List POp} {fee : Int} (h : chQ n cs = 0) (h2 : (wantQ amt l fee).2 = 0) (hm : ms.map RCoin.key = ((cs.filter (keepC ((List.range n.toNat).map (lockL d)))).map RCoin.key).take 30) (h3 : Pk.pickQ (ms.map (·.amt)) (wantQ amt l fee).1 ≠ 0) : payQ d n cs amt l fee = (Pk.pickQ (ms.map (·.amt)) (wantQ amt l fee).1, [], []) := by
 unfold payQ
 rw [if_neg (by simpa using h), if_neg (by simpa using h2), ← hm, amtK_key, if_pos h3]
theorem pay4 {d : List Nat} {n : Int} {cs ms : List RCoin} {amt : Int} {l : List POp} {fee : Int} (h : chQ n cs = 0) (h2 : (wantQ amt l fee).2 = 0) (hm : ms.map RCoin.key = ((cs.filter (keepC ((List.range n.toNat).map (lockL d)))).map RCoin.key).take 30) (h3 : Pk.pickQ (ms.map (·.amt)) (wantQ amt l fee).1 = 0) : payQ d n cs amt l fee = (0, paidK d ((List.range n.toNat).map (lockL d)) cs (ms.map RCoin.key) amt l (wantQ amt l fee).1) := by
 unfold payQ
 rw [if_neg (by simpa using h), if_neg (by simpa using h2), ← hm, amtK_key, if_neg (by simpa using h3)]
theorem great_is {ns : List Int} {want : Int} {p o : List Int} (hp : p = (Pk.takeT (Pk.atZ ns) want o).mergeSort (fun x y => decide (x ≤ y))) (ho : o.Perm (Pk.rangeZ ns.length)) (hs : o.Pairwise (Pk.LtG (Pk.atZ ns))) : p = theP ns want := by
 have h := (Pk.order_ex (Pk.atZ ns) ns.length).choose_spec
 rw [hp, Pk.order_one (ho.trans h.1.symm) hs h.2]
 rfl
theorem theP_few {ns : List Int} {want : Int} {n : Nat} (hn : ns.length = n) (hq : Pk.pickQ ns want = 0) : Pk.Few ns want n (theP ns want) := by
 have h := (Pk.order_ex (Pk.atZ ns) ns.length).choose_spec
 subst hn
 exact Pk.few_of rfl hq rfl h.1 h.2
theorem theP_one {ns : List Int} {want : Int} : (theP ns want).Nodup := by
 have h := (Pk.order_ex (Pk.atZ ns) ns.length).choose_spec
 have hpp : (theP ns want).Perm (Pk.takeT (Pk.atZ ns) want (Pk.order_ex (Pk.atZ ns) ns.length).choose) := List.mergeSort_perm _ _
 obtain ⟨k, _, he, _⟩ := Pk.takeT_head (Pk.atZ ns) (Pk.order_ex (Pk.atZ ns) ns.length).choose want
 rw [hpp.nodup_iff, he]
 exact (h.1.nodup_iff.2 (Pk.rise_nodup (Pk.rangeZ_rise _))).sublist (List.take_sublist _ _)
theorem left_in {ns : List Int} {want : Int} {n : Nat} (hn : ns.length = n) (hq : Pk.pickQ ns want = 0) : 0 ≤ leftK ns want ∧ leftK ns want ≤ 1125899906842624 := by
 have h := theP_few hn hq
 have h2 := (Pk.pickQ_zero hq).2.2.1
 have h3 := h.enough
 have h4 := h.most.2
 unfold leftK
 omega
/-- A coin as an in without keys. -/
def inOf (r : RCoin) : RIn := ⟨r.tx, r.at_, none, 0, 0⟩
def insP (ms : List RCoin) (p : List Int) : List RIn := p.map (fun i => inOf (ms.getD i.toNat noC))
theorem insP_len (ms : List RCoin) (p : List Int) : (insP ms p).length = p.length := by simp [insP]
theorem okZ_mem {ms : List RCoin} {x : Int} (h : Pk.OkZ ms.length x) : ms.getD x.toNat noC ∈ ms := gd_mem noC (by unfold Pk.OkZ at h; omega)
theorem insP_ok {ls : List (List POp)} {ms : List RCoin} {p : List Int} (h : MineOk ls ms) (hp : ∀ x ∈ p, Pk.OkZ ms.length x) : ∀ x ∈ insP ms p, InOk x := fun x hx => by
 obtain ⟨i, hi, rfl⟩ := List.mem_map.1 hx
 have hm := okZ_mem (hp i hi)
 exact ⟨(h.tx _ hm).1, (h.tx _ hm).2, (h.at_ _ hm).1, (h.at_ _ hm).2, rfl, rfl, rfl⟩
theorem insP_pl (ms : List RCoin) (p : List Int) : (insP ms p).map RIn.pl = plK (ms.map RCoin.key) p := by
 unfold insP plK
 rw [List.map_map]
 refine List.map_congr_left fun i _ => ?_
 have e : (ms.map RCoin.key).getD i.toNat noC.key = (ms.getD i.toNat noC).key := by
  rw [List.getD_eq_getElem?_getD, List.getElem?_map, List.getD_eq_getElem?_getD]
  cases ms[i.toNat]? <;> rfl
 rw [e]
 rfl
theorem insP_one {ls : List (List POp)} {ms : List RCoin} {p : List Int} (h : MineOk ls ms) (hp : ∀ x ∈ p, Pk.OkZ ms.length x) (hd : p.Nodup) : ((insP ms p).map RIn.pl).Nodup := by
 unfold insP List.Nodup
 rw [List.map_map, List.pairwise_map]
 refine hd.imp_of_mem ?_
 intro a b ha hb hab e
 have h1 := hp a ha
 have h2 := hp b hb
 unfold Pk.OkZ at h1 h2
 have e2 : (ms.map (fun r => (r.tx, r.at_)))[a.toNat]? = (ms.map (fun r => (r.tx, r.at_)))[b.toNat]? := by
  rw [List.getElem?_map, List.getElem?_map, List.getElem?_eq_getElem (show a.toNat < ms.length by omega), List.getElem?_eq_getElem (show b.toNat < ms.length by omega)]
  have e3 : (inOf (ms.getD a.toNat noC)).pl = (inOf (ms.getD b.toNat noC)).pl := e
  rw [List.getD_eq_getElem?_getD, List.getElem?_eq_getElem (show a.toNat < ms.length by omega), List.getD_eq_getElem?_getD, List.getElem?_eq_getElem (show b.toNat < ms.length by omega)] at e3
  exact congrArg some e3
 have h9 := (List.getElem?_inj (by rw [List.length_map]; omega) h.one).1 e2
 omega
theorem inK_next {d : List Nat} {ls : List (List POp)} {id : List Nat} {ms : List RCoin} {p : List Int} {k : Nat} (hk : k < p.length) : inK d ls id (ms.map RCoin.key) (p.take (k + 1)) = inK d ls id (ms.map RCoin.key) (p.take k) ++ [((ms.getD (p.getD k 0).toNat noC).tx, (ms.getD (p.getD k 0).toNat noC).at_, [signL (seedG d (ownF ls 0 (ms.getD (p.getD k 0).toNat noC).pl)) id])] := by
 unfold inK
 rw [take_getD 0 hk, List.map_append]
 have e : (ms.map RCoin.key).getD (p.getD k 0).toNat noC.key = (ms.getD (p.getD k 0).toNat noC).key := by
  generalize (p.getD k 0).toNat = j
  rw [List.getD_eq_getElem?_getD, List.getElem?_map, List.getD_eq_getElem?_getD]
  cases ms[j]? <;> rfl
 simp only [List.map_cons, List.map_nil, e]
 rfl
theorem insP_next {ms : List RCoin} {p : List Int} {k : Nat} (hk : k < p.length) : insP ms (p.take (k + 1)) = insP ms (p.take k) ++ [inOf (ms.getD (p.getD k 0).toNat noC)] := by
 unfold insP
 rw [take_getD 0 hk, List.map_append]
 rfl
theorem insP_drop {ms : List RCoin} {p : List Int} {k : Nat} (hk : k < p.length) : insP ms (p.drop k) = inOf (ms.getD (p.getD k 0).toNat noC) :: insP ms (p.drop (k + 1)) := by
 unfold insP
 rw [drop_getD 0 hk]
 rfl
theorem lock_ok (d : List Nat) (i : Nat) : lkQ (lockL d i) = 0 := by
 have h1 : opP (1, 0, pubL (seedL d i)) = 0 := by
  unfold opP opQ
  rw [pubL_len]
  simp
 have h2 : opP (8, 0, []) = 0 := by decide
 unfold lkQ lockL
 simp only [List.length_cons, List.length_nil, List.map_cons, List.map_nil, h1, h2]
 rw [if_neg (by omega), if_neg (by simp [orL]), flow_no _ _ (by simp) (by simp), flow_no _ _ (by decide) (by decide)]
 rfl
end Go.Proofs.YtbpabjhcjffkmaaGreatDoor

/- What stays where all blocks but one stay; what a wallet's payment lies as: words. Conditions: named in each theorem. -/
namespace Go.Proofs.YtbpabjhcjffkmaaGreatDoor
open Go.RowKit Go.ChangeShapes Go.WideShapes Go.ChangeAt

/-- All blocks but some are as they were. -/
def Kp (E : Nat → Prop) (w W : World) : Prop := (∀ b, ¬ E b → b < w.heap.size → W.heap[b]? = w.heap[b]?) ∧ w.heap.size ≤ W.heap.size
theorem Kp.refl (E : Nat → Prop) (w : World) : Kp E w w := ⟨fun _ _ _ => rfl, Nat.le_refl _⟩
theorem Kp.trans {E : Nat → Prop} {a b c : World} (h : Kp E a b) (k : Kp E b c) : Kp E a c := ⟨fun i hi hl => (k.1 i hi (Nat.lt_of_lt_of_le hl h.2)).trans (h.1 i hi hl), Nat.le_trans h.2 k.2⟩
theorem Kp.of {E : Nat → Prop} {w w' : World} (hb : Below w.heap.size w w') : Kp E w w' := ⟨fun b _ hl => hb.block b hl, hb.size⟩
theorem Kp.call {E : Nat → Prop} {a w w' : World} (h : Kp E a w) (hb : Below w.heap.size w w') : Kp E a w' := h.trans (Kp.of hb)
theorem Kp.more {E E' : Nat → Prop} {w w' : World} (h : Kp E w w') (hE : ∀ b, E b → b < w.heap.size → E' b) : Kp E' w w' := ⟨fun b hn hl => h.1 b (fun he => hn (hE b he hl)) hl, h.2⟩
theorem Kp.far {E : Nat → Prop} {a w w' : World} (h : Kp E a w) {N : Nat} (hN : a.heap.size ≤ N) (hb : Below N w w') : Kp E a w' := ⟨fun i hi hl => (hb.block i (Nat.lt_of_lt_of_le hl hN)).trans (h.1 i hi hl), Nat.le_trans h.2 hb.size⟩
theorem set_size (w : World) (p : Addr) (u : Value) : w.heap.size ≤ (w.setCell p u).heap.size := ((Below.refl 0 w).setCell (Nat.zero_le _) u).size
theorem Kp.set {E : Nat → Prop} {a w : World} (h : Kp E a w) {x : Nat} (hx : E x) (o : Nat) (u : Value) : Kp E a (w.setCell ⟨x, o, none⟩ u) :=
 ⟨fun i hi hl => (Below.heap_setCell _ _ _ _ (show i ≠ x from fun e => hi (e.symm ▸ hx))).trans (h.1 i hi hl), Nat.le_trans h.2 (set_size _ _ _)⟩
/-- It holds wherever all blocks but some are as they are. -/
def Sx (E : Nat → Prop) (w : World) (p : World → Prop) : Prop := ∀ W, Kp E w W → p W
theorem Sx.now {E : Nat → Prop} {w : World} {p : World → Prop} (h : Sx E w p) : p w := h w (Kp.refl _ _)
theorem Sx.step {E : Nat → Prop} {w w' : World} {p : World → Prop} (h : Sx E w p) (hk : Kp E w w') : Sx E w' p := fun W hW => h W (hk.trans hW)
theorem RDep.sx {w : World} {N n : Nat} {A : Option Addr} {rs : List ROp} (h : RDep w N A n rs) {E : Nat → Prop} (hE : ∀ x, E x → x < N ∨ w.heap.size ≤ x) : Sx E w (fun W => RSl W W.heap.size A n rs) := fun W hW =>
 h W (fun b hb hl => hW.1 b (fun he => by have := hE b he; omega) hl) hW.2
theorem rsl_sx {wa w : World} {n : Nat} {A : Option Addr} {rs : List ROp} (h : RSl wa wa.heap.size A n rs) (hb : Below wa.heap.size wa w) {E : Nat → Prop} (hE : ∀ x, E x → wa.heap.size ≤ x) : Sx E w (fun W => RSl W W.heap.size A n rs) := fun W hW => by
 have hz := Nat.le_trans hb.size hW.2
 have hc : ∀ p : Addr, p.block < wa.heap.size → W.cell? p = wa.cell? p := fun p hp => World.cell?_of_block ((hW.1 _ (fun he => by have := hE _ he; omega) (Nat.lt_of_lt_of_le hp hb.size)).trans (hb.block _ hp))
 exact ⟨(Sl.keep h.cells hc).more hz, fun r hr => (Sl.keep (h.data r hr) hc).more hz, h.byt⟩
theorem BRow.sx {w : World} {base : Nat} {v : Value} {ys : List Nat} (h : BRow w base v ys) {E : Nat → Prop} (hE : ∀ k, v.ownBlock = some k → ¬ E k) : Sx E w (fun W => BRow W base v ys) := fun _ hW =>
 h.keep (fun k hk => hW.1 k (hE k hk) (h.lt k hk))
theorem heap_kp {E : Nat → Prop} {w W : World} (hW : Kp E w W) {b : Nat} {o : Obj} (h : w.heap[b]? = some o) (hb : ¬ E b) : W.heap[b]? = some o := (hW.1 b hb (Array.getElem?_eq_some_iff.1 h).1).trans h
/-- Outs in a block. -/
theorem osl_row {w : World} {b : Nat} {os : List ROut} {tl : List Value} {N : Nat} (h : w.heap[b]? = some (.cells (os.flatMap encOut ++ tl).toArray 27 (0, 0))) (hb : b < N) (hl : ∀ o ∈ os, RSl w N o.lA o.ln o.lk) : OSl w N (some ⟨b, 0, none⟩) os.length os := by
 refine ⟨⟨flat_len encOut_len os, fun _ => ⟨b, 0, rfl, hb, fun j u hu => ?_⟩⟩, hl⟩
 rw [Nat.zero_add, cell_of_row _ _ j _ _ _ h, List.getElem?_toArray, List.getElem?_append_left (List.getElem?_eq_some_iff.1 hu).1]
 exact hu
theorem CSl.take {w : World} {B n k : Nat} {A : Option Addr} {cs : List RCoin} (h : CSl w B A n cs) (hk : k ≤ n) : CSl w B A k (cs.take k) := by
 have hl := h.len
 refine ⟨⟨?_, fun h0 => ?_⟩, fun r hr => h.lock r (List.mem_of_mem_take hr), fun r hr => h.tx r (List.mem_of_mem_take hr)⟩
 ·rw [flat_len encC_len, List.length_take]
  congr 1
  omega
 ·obtain ⟨b, of, e, hb, hc⟩ := h.cells.cells (by omega)
  refine ⟨b, of, e, hb, fun j u hu => hc j u ?_⟩
  have hj := (List.getElem?_eq_some_iff.1 hu).1
  have e2 : cs.flatMap encC = (cs.take k).flatMap encC ++ (cs.drop k).flatMap encC := by rw [← List.flatMap_append, List.take_append_drop]
  rw [e2, List.getElem?_append_left hj]
  exact hu
/-- What a payment of so much is, behind a call. -/
def PaidAs (R : Int × List (List Nat × Int × List (List Nat)) × List (Int × List POp)) (f : Int → Value) (w : World) (e : Ending) (w' : World) : Prop :=
 ∃ (A : Option Addr) (n c : Nat) (B : Option Addr) (m k : Nat) (xs : List (RIn × List RKey)) (os : List ROut), e = .returned (.tuple #[.agg #[.slice A n c, .slice B m k, .int .i64 0], f R.1]) ∧ TIns w' w'.heap.size A n xs ∧ OSl w' w'.heap.size B m os ∧
  xs.map inT = R.2.1 ∧ os.map ROut.pl = R.2.2 ∧ (n ≤ 1000 ∧ m ≤ 1000 ∧ ∀ o ∈ os, o.ln ≤ 1000 ∧ ∀ r ∈ o.lk, r.dn ≤ 1000) ∧ Below w.heap.size w w'
theorem tins_nil (w : World) (N : Nat) (A : Option Addr) : TIns w N A 0 [] := ⟨FSl.nil_, (fun p h => by cases h), (fun p h => by cases h), (fun p h => by cases h)⟩
theorem osl_nil (w : World) (N : Nat) (A : Option Addr) : OSl w N A 0 [] := ⟨FSl.nil_, (fun p h => by cases h)⟩
/-- Nothing is paid. -/
theorem paid_none {q : Int} {f : Int → Value} {w w' : World} (hb : Below w.heap.size w w') : PaidAs (q, [], []) f w (.returned (.tuple #[.agg #[.slice none 0 0, .slice none 0 0, .int .i64 0], f q])) w' :=
 ⟨none, 0, 0, none, 0, 0, [], [], rfl, tins_nil _ _ _, osl_nil _ _ _, rfl, rfl, ⟨by omega, by omega, fun o h => by cases h⟩, hb⟩
theorem chQ_zero {n : Int} {cs : List RCoin} (h : chQ n cs = 0) : 1 ≤ n ∧ n ≤ 100 ∧ setQ cs = 0 ∧ cs.length ≤ 1000 := by
 have h2 : 1 ≤ n ∧ n ≤ 100 ∧ setQ cs = 0 := by
  unfold chQ at h
  split at h
  ·omega
  ·exact ⟨by omega, by omega, h⟩
 refine ⟨h2.1, h2.2.1, h2.2.2, ?_⟩
 have h3 := h2.2.2
 unfold setQ at h3
 split at h3
 ·omega
 ·omega
theorem lock_short2 {w : World} {B n : Nat} {A : Option Addr} {rs : List ROp} (h : RSl w B A n rs) (hq : lkQ (rs.map ROp.pl) = 0) : n ≤ 60 ∧ ∀ r ∈ rs, r.dn ≤ 300 := by
 obtain ⟨h1, h2⟩ := lk_ops hq
 refine ⟨by have := h.len; rw [List.length_map] at h1; omega, fun r hr => ?_⟩
 have h3 := (h2 r.pl (List.mem_map_of_mem hr)).2.2.2.2
 have h4 := YSl.len1 (h.data r hr)
 have h5 : r.data.length ≤ 300 := h3
 omega
theorem coin_short {w : World} {B n : Nat} {A : Option Addr} {cs : List RCoin} (h : CSl w B A n cs) (hs : setQ cs = 0) : ∀ r ∈ cs, r.ln ≤ 60 ∧ ∀ o ∈ r.lk, o.dn ≤ 300 := fun r hr => by
 have h1 := coin_zero (chk_each (set_zero.1 hs).2 r hr)
 exact lock_short2 (h.lock r hr) h1.2
theorem wantQ_zero {amt fee : Int} {l : List POp} (h : (wantQ amt l fee).2 = 0) : moneyE amt = 0 ∧ lkQ l = 0 := by
 unfold wantQ at h
 by_cases h1 : moneyE amt = 0
 ·rw [if_neg (by simpa using h1)] at h
  by_cases h2 : lkQ l = 0
  ·exact ⟨h1, h2⟩
  ·rw [if_pos h2] at h
   exact absurd h h2
 ·rw [if_pos h1] at h
  exact absurd h h1
end Go.Proofs.YtbpabjhcjffkmaaGreatDoor

/- An in is made of a place; a slice of one in; a payment's block while it is made: words. Conditions: named in each theorem. -/
namespace Go.Proofs.YtbpabjhcjffkmaaGreatDoor
open Go.RowKit Go.ChangeShapes Go.WideShapes Go.ChangeAt

theorem built_in : ∀ (l : List Value), l.length = 33 → Tryz.prog.built 63 [(0, .agg l.toArray)] = some (l ++ [Value.slice none 0 0]).toArray
 | a0 :: a1 :: a2 :: a3 :: a4 :: a5 :: a6 :: a7 :: a8 :: a9 :: a10 :: a11 :: a12 :: a13 :: a14 :: a15 :: a16 :: a17 :: a18 :: a19 :: a20 :: a21 :: a22 :: a23 :: a24 :: a25 :: a26 :: a27 :: a28 :: a29 :: a30 :: a31 :: a32 :: [], _ => by kernel_rfl
theorem yields_in {ops : Array Oper} {S : World → Prop} {oi : Oper} {a : Act} (hw : Region.wanted oi (yielded ops a.tmps) = true) (x : Operand) (ho : oi.op = .build 63 #[(0, x)]) (r : RCoin) (hx : a.eval x = .agg (plC r.tx r.at_).toArray) :
  YieldsIf Tryz.prog ops S oi (.agg (encIn (inOf r)).toArray) a := .inl ⟨hw, fun w _ => by
 have hb : Tryz.prog.built 63 ((#[(0, x)] : Array (Nat × Operand)).map fun (i, x) => (i, a.eval x)).toList = some (encIn (inOf r)).toArray := by
  simp only [List.map_toArray, List.map_cons, List.map_nil, hx]
  exact built_in _ (plC_len _ _)
 unfold execOp
 simp only [ho, Sem.run_bind, run_build w 63 _ _ hb, Result.andThen_ok, Sem.run_pure]⟩
theorem fillIn : ∀ (l : List Value), l.length = 34 →
  Instr.fill (fun i => some (i * 34, 34)) ((Array.range (1 * 34)).map ((Value.agg (encIn noIn).toArray).cells[· % (Value.agg (encIn noIn).toArray).cells.size]!)) [(0, .agg l.toArray)] = some l.toArray
 | a0 :: a1 :: a2 :: a3 :: a4 :: a5 :: a6 :: a7 :: a8 :: a9 :: a10 :: a11 :: a12 :: a13 :: a14 :: a15 :: a16 :: a17 :: a18 :: a19 :: a20 :: a21 :: a22 :: a23 :: a24 :: a25 :: a26 :: a27 :: a28 :: a29 :: a30 :: a31 :: a32 :: a33 :: [], _ => by kernel_rfl
set_option maxRecDepth 100000 in
theorem wpList_in {ops : Array Oper} {rest : List Oper} {o : Oper} {a : Act} {w : World} {Q : Exit → Act → World → Prop} (hg : o.guard = none) (x : Operand) (ho : o.op = .buildSlice 29 1 #[(0, x)])
  (l : List Value) (hx : a.eval x = .agg l.toArray) (h1 : l.length = 34)
  (h : wpList Tryz.prog ops Q rest (a.put o.dst (.slice (some ⟨w.heap.size, 0, none⟩) 1 1)) (w.alloc (.cells l.toArray 63))) : wpList Tryz.prog ops Q (o :: rest) a w := by
 obtain ⟨ie, hie, hz, hs⟩ : ∃ ie, Tryz.prog.info? 63 = some ie ∧ ie.zero = some (.agg (encIn noIn).toArray) ∧ ie.size = 34 := by
  have ht := infoIn
  cases hi : Tryz.prog.info? 63 with
  | none => rw [hi] at ht; simp at ht
  | some ie =>
   rw [hi] at ht
   simp only [Option.map_some, Option.some.injEq, Prod.mk.injEq] at ht
   exact ⟨ie, rfl, ht.1, ht.2.1⟩
 refine wpList_buildSlice hg 29 63 1 #[(0, x)] ho l.toArray ie (.agg (encIn noIn).toArray) Tryz.underlying29 hie hz (by rw [hs]; decide) (by rw [hs]; decide) ?_ h
 rw [hs]
 have hp : ((#[(0, x)] : Array (Nat × Operand)).map fun (i, x) => (i, a.eval x)).toList = [(0, .agg l.toArray)] := by
  simp only [List.map_toArray, List.map_cons, List.map_nil, hx]
 rw [hp]
 exact fillIn l h1
theorem infoOut : (Tryz.prog.info? 27).map (fun i => (i.zero, i.size, i.bytes)) = some (some (.agg #[.int .i64 0, .slice none 0 0]), 2, 32) := by kernel_rfl
theorem placeInfo : (Tryz.prog.info? 55).map (·.size) = some 33 := by kernel_rfl
theorem own_set {w : World} {base : Nat} {e : TypeId} {sz : Nat} {v : Value} {n : Nat} {xs : List Value} (h : w.ownsRow base e sz v n xs) {b : Nat} (hb : b < base) (o : Nat) (u : Value) : (w.setCell ⟨b, o, none⟩ u).ownsRow base e sz v n xs := by
 refine ⟨h.1, ?_⟩
 rcases h.2 with h2 | ⟨g, cap, cur, e1, h1, h2, h3⟩
 ·exact .inl h2
 ·exact .inr ⟨g, cap, cur, e1, h1, (Below.heap_setCell _ _ _ _ (show g ≠ b by omega)).trans h2, h3⟩
/-- A block of three cells, all stored. -/
theorem set3 {w : World} {b : Nat} {T : TypeId} {x y z : Value} (h : w.heap[b]? = some (.cells #[x, y, z] T (0, 0))) (x' y' z' : Value) :
  (((w.setCell ⟨b, 0, none⟩ x').setCell ⟨b, 1, none⟩ y').setCell ⟨b, 2, none⟩ z').heap[b]? = some (.cells #[x', y', z'] T (0, 0)) := by
 have h1 := heap_setCell_same w b 0 _ _ x' h
 have h2 := heap_setCell_same _ b 1 _ _ y' h1
 have h3 := heap_setCell_same _ b 2 _ _ z' h2
 rw [h3]
 rfl
theorem below_set3 {B b : Nat} {w w' : World} (h : Below B w w') (hb : B ≤ b) (x y z : Value) : Below B w (((w'.setCell ⟨b, 0, none⟩ x).setCell ⟨b, 1, none⟩ y).setCell ⟨b, 2, none⟩ z) :=
 ((h.setCell (p := ⟨b, 0, none⟩) hb _).setCell (p := ⟨b, 1, none⟩) hb _).setCell (p := ⟨b, 2, none⟩) hb _
/-- A payment's block as it is laid: one out, no ins. -/
structure TxNew (wa wx : World) (b2 tb ob : Nat) (amt : Int) (A : Option Addr) (n c : Nat) (rs : List ROp) : Prop where
 lo : wa.heap.size ≤ tb ∧ wa.heap.size ≤ ob ∧ ob ≠ tb
 low : b2 < wa.heap.size
 tx : wx.heap[tb]? = some (.cells #[.slice none 0 0, .slice (some ⟨ob, 0, none⟩) 1 1, .int .i64 0] 32 (0, 0))
 out : wx.heap[ob]? = some (.cells #[.int .i64 amt, .slice A n c] 27 (0, 0))
 lock : Sx (fun b => b = b2 ∨ b = tb ∨ b = ob) wx (fun W => RSl W W.heap.size A n rs)
 below : Below wa.heap.size wa wx
theorem TxNew.mk_ {wa X : World} {b2 tb ob : Nat} {amt : Int} {A : Option Addr} {n c : Nat} {rs : List ROp} (lo : wa.heap.size ≤ tb ∧ wa.heap.size ≤ ob ∧ ob ≠ tb) (low : b2 < wa.heap.size) (ht : X.heap[tb]? = some (.cells #[.slice none 0 0, .slice none 0 0, .int .i64 0] 32 (0, 0)))
  (ho : X.heap[ob]? = some (.cells #[.int .i64 amt, .slice A n c] 27 (0, 0))) (hl : Sx (fun b => b = b2 ∨ b = tb ∨ b = ob) X (fun W => RSl W W.heap.size A n rs)) (hb : Below wa.heap.size wa X) :
  TxNew wa (X.setRow tb #[.slice none 0 0, .slice (some ⟨ob, 0, none⟩) 1 1, .int .i64 0]) b2 tb ob amt A n c rs := by
 have hk : Kp (fun b => b = b2 ∨ b = tb ∨ b = ob) X (X.setRow tb #[.slice none 0 0, .slice (some ⟨ob, 0, none⟩) 1 1, .int .i64 0]) := ⟨fun b hb _ => setRow_other X tb b _ (fun e => hb (.inr (.inl e))), by simp [World.setRow]⟩
 exact ⟨lo, low, setRow_heap X tb _ _ _ _ ht, (setRow_other X tb ob _ lo.2.2).trans ho, hl.step hk, below_setRow hb _ lo.1 _⟩
/-- Behind the call, the slice, the block. -/
theorem TxNew.a {wa W0 Y : World} {b2 : Nat} (low : b2 < wa.heap.size) {amt : Int} {A : Option Addr} {n c : Nat} {rs : List ROp} (hd : RDep Y W0.heap.size A n rs) (h0 : Below wa.heap.size wa W0) (hY : Below W0.heap.size W0 Y) :
  TxNew wa (((Y.alloc (.cells #[.int .i64 amt, .slice A n c] 27)).alloc (.cells #[.slice none 0 0, .slice none 0 0, .int .i64 0] 32)).setRow (Y.heap.size + 1) #[.slice none 0 0, .slice (some ⟨Y.heap.size, 0, none⟩) 1 1, .int .i64 0]) b2 (Y.heap.size + 1) Y.heap.size amt A n c rs := by
 have hz := Nat.le_trans h0.size hY.size
 have hk : Kp (fun b => b = b2 ∨ b = Y.heap.size + 1 ∨ b = Y.heap.size) Y ((Y.alloc (.cells #[.int .i64 amt, .slice A n c] 27)).alloc (.cells #[.slice none 0 0, .slice none 0 0, .int .i64 0] 32)) := Kp.of (((Below.refl _ _).alloc (Nat.le_refl _) _).alloc (by simp) _)
 refine TxNew.mk_ ⟨by omega, hz, by omega⟩ low ?_ ((Below.heap_alloc _ _ _ (by simp)).trans (heap_alloc_new Y _)) ((hd.sx (fun x hx => by have := h0.size; omega)).step hk) (((h0.trans (hY.mono h0.size)).alloc hz _).alloc (by simp; omega) _)
 have h := heap_alloc_new (Y.alloc (.cells #[.int .i64 amt, .slice A n c] 27)) (.cells #[.slice none 0 0, .slice none 0 0, .int .i64 0] 32)
 rwa [show (Y.alloc (.cells #[.int .i64 amt, .slice A n c] 27)).heap.size = Y.heap.size + 1 by simp] at h
/-- Behind the call, the block, the slice. -/
theorem TxNew.b {wa W0 Y : World} {b2 : Nat} (low : b2 < wa.heap.size) {amt : Int} {A : Option Addr} {n c : Nat} {rs : List ROp} (hd : RDep Y W0.heap.size A n rs) (h0 : Below wa.heap.size wa W0) (hY : Below W0.heap.size W0 Y) :
  TxNew wa (((Y.alloc (.cells #[.slice none 0 0, .slice none 0 0, .int .i64 0] 32)).alloc (.cells #[.int .i64 amt, .slice A n c] 27)).setRow Y.heap.size #[.slice none 0 0, .slice (some ⟨Y.heap.size + 1, 0, none⟩) 1 1, .int .i64 0]) b2 Y.heap.size (Y.heap.size + 1) amt A n c rs := by
 have hz := Nat.le_trans h0.size hY.size
 have hk : Kp (fun b => b = b2 ∨ b = Y.heap.size ∨ b = Y.heap.size + 1) Y ((Y.alloc (.cells #[.slice none 0 0, .slice none 0 0, .int .i64 0] 32)).alloc (.cells #[.int .i64 amt, .slice A n c] 27)) := Kp.of (((Below.refl _ _).alloc (Nat.le_refl _) _).alloc (by simp) _)
 refine TxNew.mk_ ⟨hz, by omega, by omega⟩ low ((Below.heap_alloc _ _ _ (by simp)).trans (heap_alloc_new Y _)) ?_ ((hd.sx (fun x hx => by have := h0.size; omega)).step hk) (((h0.trans (hY.mono h0.size)).alloc hz _).alloc (by simp; omega) _)
 have h := heap_alloc_new (Y.alloc (.cells #[.slice none 0 0, .slice none 0 0, .int .i64 0] 32)) (.cells #[.int .i64 amt, .slice A n c] 27)
 rwa [show (Y.alloc (.cells #[.slice none 0 0, .slice none 0 0, .int .i64 0] 32)).heap.size = Y.heap.size + 1 by simp] at h
/-- Behind the block, the call, the slice. -/
theorem TxNew.c {wa W0 Y : World} {b2 : Nat} (low : b2 < wa.heap.size) {amt : Int} {A : Option Addr} {n c : Nat} {rs : List ROp} (hd : RDep Y (W0.alloc (.cells #[.slice none 0 0, .slice none 0 0, .int .i64 0] 32)).heap.size A n rs) (h0 : Below wa.heap.size wa W0)
  (hY : Below (W0.alloc (.cells #[.slice none 0 0, .slice none 0 0, .int .i64 0] 32)).heap.size (W0.alloc (.cells #[.slice none 0 0, .slice none 0 0, .int .i64 0] 32)) Y) :
  TxNew wa ((Y.alloc (.cells #[.int .i64 amt, .slice A n c] 27)).setRow W0.heap.size #[.slice none 0 0, .slice (some ⟨Y.heap.size, 0, none⟩) 1 1, .int .i64 0]) b2 W0.heap.size Y.heap.size amt A n c rs := by
 have hz1 : W0.heap.size < Y.heap.size := by have := hY.size; simp at this; omega
 have hz := Nat.le_trans h0.size (Nat.le_of_lt hz1)
 have hk : Kp (fun b => b = b2 ∨ b = W0.heap.size ∨ b = Y.heap.size) Y (Y.alloc (.cells #[.int .i64 amt, .slice A n c] 27)) := Kp.of ((Below.refl _ _).alloc (Nat.le_refl _) _)
 refine TxNew.mk_ ⟨h0.size, hz, by omega⟩ low ?_ (heap_alloc_new Y _) ((hd.sx (fun x hx => by have := h0.size; simp; omega)).step hk) (((h0.alloc h0.size _).trans (hY.mono (by have := h0.size; simp; omega))).alloc hz _)
 exact (Below.heap_alloc _ _ _ hz1).trans ((hY.block _ (by simp)).trans (heap_alloc_new W0 _))
theorem TxNew.a_at {amt : Int} {A : Option Addr} {n c : Nat} (Y : World) : ((Y.alloc (.cells #[.int .i64 amt, .slice A n c] 27)).alloc (.cells #[.slice none 0 0, .slice none 0 0, .int .i64 0] 32)).heap[Y.heap.size + 1]? = some (.cells #[.slice none 0 0, .slice none 0 0, .int .i64 0] 32 (0, 0)) := by
 have h := heap_alloc_new (Y.alloc (.cells #[.int .i64 amt, .slice A n c] 27)) (.cells #[.slice none 0 0, .slice none 0 0, .int .i64 0] 32)
 rwa [show (Y.alloc (.cells #[.int .i64 amt, .slice A n c] 27)).heap.size = Y.heap.size + 1 by simp] at h
theorem TxNew.b_at {amt : Int} {A : Option Addr} {n c : Nat} (Y : World) : ((Y.alloc (.cells #[.slice none 0 0, .slice none 0 0, .int .i64 0] 32)).alloc (.cells #[.int .i64 amt, .slice A n c] 27)).heap[Y.heap.size]? = some (.cells #[.slice none 0 0, .slice none 0 0, .int .i64 0] 32 (0, 0)) :=
 (Below.heap_alloc _ _ _ (by simp)).trans (heap_alloc_new Y _)
theorem TxNew.c_at {amt : Int} {A : Option Addr} {n c : Nat} {W0 Y : World} (hY : Below (W0.alloc (.cells #[.slice none 0 0, .slice none 0 0, .int .i64 0] 32)).heap.size (W0.alloc (.cells #[.slice none 0 0, .slice none 0 0, .int .i64 0] 32)) Y) :
  (Y.alloc (.cells #[.int .i64 amt, .slice A n c] 27)).heap[W0.heap.size]? = some (.cells #[.slice none 0 0, .slice none 0 0, .int .i64 0] 32 (0, 0)) := by
 have hz1 : W0.heap.size < Y.heap.size := by have := hY.size; simp at this; omega
 exact (Below.heap_alloc _ _ _ hz1).trans ((hY.block _ (by simp)).trans (heap_alloc_new W0 _))
/-- A payment's block while ins come. -/
structure InsAt (wa w5 wr : World) (tb : Nat) (I : Option Addr) (k kc : Nat) (u : Value) (ins : List RIn) : Prop where
 tx : wr.heap[tb]? = some (.cells #[.slice I k kc, u, .int .i64 0] 32 (0, 0))
 row : wr.ownsRow w5.heap.size 63 34 (.slice I k kc) k (ins.flatMap encIn)
 kp : Kp (fun b => b = tb) w5 wr
 bl : Below wa.heap.size wa wr
theorem InsAt.start {wa w5 : World} {tb : Nat} {u : Value} (ht : w5.heap[tb]? = some (.cells #[.slice none 0 0, u, .int .i64 0] 32 (0, 0))) (hb : Below wa.heap.size wa w5) : InsAt wa w5 w5 tb none 0 0 u [] :=
 ⟨ht, ⟨by simp, .inl ⟨rfl, rfl⟩⟩, Kp.refl _ _, hb⟩
theorem InsAt.tb_lt {wa w5 wr : World} {tb : Nat} {I : Option Addr} {k kc : Nat} {u : Value} {ins : List RIn} (h : InsAt wa w5 wr tb I k kc u ins) : tb < wr.heap.size := (Array.getElem?_eq_some_iff.1 h.tx).1
theorem InsAt.cell {wa w5 wr : World} {tb : Nat} {I : Option Addr} {k kc : Nat} {u : Value} {ins : List RIn} (h : InsAt wa w5 wr tb I k kc u ins) : wr.cell? ⟨tb, 0, none⟩ = some (.slice I k kc) ∧ wr.cell? ⟨tb, 1, none⟩ = some u ∧ wr.cell? ⟨tb, 2, none⟩ = some (.int .i64 0) := by
 refine ⟨?_, ?_, ?_⟩
 ·rw [cell_of_row _ tb 0 _ _ _ h.tx]; rfl
 ·rw [cell_of_row _ tb 1 _ _ _ h.tx]; rfl
 ·rw [cell_of_row _ tb 2 _ _ _ h.tx]; rfl
theorem InsAt.fz {wa w5 wr : World} {tb : Nat} {I : Option Addr} {k kc : Nat} {u : Value} {ins : List RIn} (h : InsAt wa w5 wr tb I k kc u ins) (o : Nat) : wr.frozen? ⟨tb, o, none⟩ = false := frozen_of_row _ _ _ _ _ h.tx
theorem InsAt.call {wa w5 wr w' : World} {tb : Nat} {I : Option Addr} {k kc : Nat} {u : Value} {ins : List RIn} (h : InsAt wa w5 wr tb I k kc u ins) (hb : Below wr.heap.size wr w') : InsAt wa w5 w' tb I k kc u ins :=
 ⟨(hb.block tb h.tb_lt).trans h.tx, own_below h.row hb, h.kp.call hb, h.bl.trans (hb.mono h.bl.size)⟩
/-- One in more is stored. -/
theorem InsAt.push {wa w5 wr w' : World} {tb : Nat} {I I' : Option Addr} {k kc kc' : Nat} {u : Value} {ins : List RIn} {x : RIn} (h : InsAt wa w5 wr tb I k kc u ins) (h5 : tb < w5.heap.size) (ha : wa.heap.size ≤ tb)
  (hr : w'.ownsRow w5.heap.size 63 34 (.slice I' (k + 1) kc') (k + 1) (ins.flatMap encIn ++ (encIn x).toArray.toList)) (hb : Below w5.heap.size wr w') : InsAt wa w5 (w'.setCell ⟨tb, 0, none⟩ (.slice I' (k + 1) kc')) tb I' (k + 1) kc' u (ins ++ [x]) := by
 have ht := (hb.block tb h5).trans h.tx
 refine ⟨?_, ?_, (h.kp.far (Nat.le_refl _) hb).set rfl _ _, (h.bl.trans (hb.mono (by omega))).setCell (p := ⟨tb, 0, none⟩) ha _⟩
 ·rw [heap_setCell_same w' tb 0 _ _ _ ht]
  rfl
 ·have h9 := own_set hr h5 0 (.slice I' (k + 1) kc')
  rw [List.flatMap_append]
  simpa using h9
/-- The ins' row, as a block. -/
theorem InsAt.block {wa w5 wr : World} {tb : Nat} {I : Option Addr} {k kc : Nat} {u : Value} {ins : List RIn} (h : InsAt wa w5 wr tb I k kc u ins) (hk : 0 < k) :
  ∃ g tl, I = some ⟨g, 0, none⟩ ∧ w5.heap.size ≤ g ∧ wr.heap[g]? = some (.cells (ins.flatMap encIn ++ tl).toArray 63 (0, 0)) := by
 obtain ⟨g, cur, e, hb, hg, _, _, _, ht⟩ := own_open h.row (.inl hk)
 refine ⟨g, cur.drop (k * 34), e, hb, ?_⟩
 rw [← ht, List.take_append_drop]
 exact hg
/-- A payment's block with all its outs. -/
structure OutsAt (wa w5 wx : World) (b2 tb : Nat) (J : Option Addr) (k jc : Nat) (O : Option Addr) (m mc : Nat) (ins : List RIn) (os : List ROut) : Prop where
 tx : wx.heap[tb]? = some (.cells #[.slice J k jc, .slice O m mc, .int .i64 0] 32 (0, 0))
 row : wx.ownsRow w5.heap.size 63 34 (.slice J k jc) k (ins.flatMap encIn)
 outs : OSl wx wx.heap.size O m os
 stay : Sx (fun b => b = b2 ∨ (Value.slice J k jc).ownBlock = some b) wx (fun W => OSl W W.heap.size O m os)
 bl : Below wa.heap.size wa wx
theorem OutsAt.one {wa w5 wr : World} {b2 tb ob : Nat} {J : Option Addr} {k jc : Nat} {ins : List RIn} {amt : Int} {A : Option Addr} {n c : Nat} {rs : List ROp} (hn : TxNew wa w5 b2 tb ob amt A n c rs) (hi : InsAt wa w5 wr tb J k jc (.slice (some ⟨ob, 0, none⟩) 1 1) ins) :
  OutsAt wa w5 wr b2 tb J k jc (some ⟨ob, 0, none⟩) 1 1 ins [⟨amt, A, n, c, rs⟩] := by
 have hob := (Array.getElem?_eq_some_iff.1 hn.out).1
 have key : ∀ W, Kp (fun b => b = b2 ∨ b = tb) w5 W → OSl W W.heap.size (some ⟨ob, 0, none⟩) 1 [⟨amt, A, n, c, rs⟩] := fun W hW => by
  have ho := heap_kp hW hn.out (fun e => by have h1 := hn.lo; have h2 := hn.low; omega)
  refine osl_row (os := [⟨amt, A, n, c, rs⟩]) (tl := []) ho (Array.getElem?_eq_some_iff.1 ho).1 ?_
  intro o hm
  obtain rfl := List.mem_singleton.1 hm
  exact hn.lock W (hW.more (fun b hb _ => by omega))
 refine ⟨hi.tx, hi.row, key wr (hi.kp.more (fun b hb _ => .inr hb)), fun W hW => key W ?_, hi.bl⟩
 exact ⟨fun b hb hl => (hW.1 b (fun e => by
  rcases e with e | e
  ·exact hb (.inl e)
  ·have hg5 := own_block_ge hi.row b e
   omega) (Nat.lt_of_lt_of_le hl hi.kp.2)).trans (hi.kp.1 b (fun e => hb (.inr e)) hl), Nat.le_trans hi.kp.2 hW.2⟩
/-- One out more is stored. -/
theorem OutsAt.two {wa w5 wr Y w' : World} {b2 tb ob : Nat} {J : Option Addr} {k jc : Nat} {ins : List RIn} {amt left : Int} {A A5 : Option Addr} {n c n5 c5 : Nat} {rs rs5 : List ROp} {O : Option Addr} {mc : Nat} (hn : TxNew wa w5 b2 tb ob amt A n c rs) (hi : InsAt wa w5 wr tb J k jc (.slice (some ⟨ob, 0, none⟩) 1 1) ins)
  (hY : Below wr.heap.size wr Y) (hl : ∀ E : Nat → Prop, (∀ b, E b → b = b2 ∨ (wa.heap.size ≤ b ∧ b < wr.heap.size)) → Sx E Y (fun W => RSl W W.heap.size A5 n5 rs5)) (hr : w'.ownsRow wa.heap.size 27 2 (.slice O 2 mc) 2 ([.int .i64 amt, .slice A n c] ++ [.int .i64 left, .slice A5 n5 c5])) (hg : Grew Y w' (.slice (some ⟨ob, 0, none⟩) 1 1) (.slice O 2 mc)) :
  OutsAt wa w5 (w'.setCell ⟨tb, 1, none⟩ (.slice O 2 mc)) b2 tb J k jc O 2 mc ins [⟨amt, A, n, c, rs⟩, ⟨left, A5, n5, c5, rs5⟩] := by
 have hob := (Array.getElem?_eq_some_iff.1 hn.out).1
 have htb5 := (Array.getElem?_eq_some_iff.1 hn.tx).1
 have hiY := hi.call hY
 have hzr := hi.kp.2
 have hzY := hY.size
 have ho1 : ob ≠ tb := hn.lo.2.2
 have hat : ∀ b, O.map (·.block) = some b → b = ob ∨ Y.heap.size ≤ b := fun b hb => by
  rcases hg.at_ with e | ⟨g, e, hge⟩
  ·left
   cases O with
   | none => cases hb
   | some ad =>
    have e2 : some ad.block = some ob := e
    have hb2 : some ad.block = some b := hb
    rw [e2] at hb2
    injection hb2 with hb2
    exact hb2.symm
  ·right
   cases O with
   | none => cases hb
   | some ad =>
    have e2 : some ad.block = some g := e
    have hb2 : some ad.block = some b := hb
    rw [e2] at hb2
    injection hb2 with hb2
    omega
 have hby : ∀ b, b ≠ ob → b < Y.heap.size → w'.heap[b]? = Y.heap[b]? := fun b hb hl => hg.by_.block b hl (fun e => hb (Option.some.inj (show some ob = some b from e.symm)).symm)
 have hz' : Y.heap.size ≤ w'.heap.size := hg.by_.size
 have htY : Y.heap[tb]? = _ := hiY.tx
 have ht' := (hby tb (fun e => ho1 e.symm) hiY.tb_lt).trans htY
 have hrow : w'.ownsRow w5.heap.size 63 34 (.slice J k jc) k (ins.flatMap encIn) := hiY.row.kept hg.by_ (by
  cases hk : (Value.slice J k jc).ownBlock with
  | none => exact .inl rfl
  | some g =>
   refine .inr (fun e => ?_)
   have h9 := own_block_ge hiY.row g hk
   have e2 : some ob = some g := e.symm
   injection e2 with e2
   omega)
 obtain ⟨q, cur, hq, hqa, hqh, -, -, hql, hqt⟩ := own_open hr (.inl (by omega))
 have hqo := hat q (by rw [hq]; rfl)
 have hqt5 : q ≠ tb := by rcases hqo with h9 | h9 <;> omega
 have hcur : (.cells cur.toArray 27 (0, 0) : Obj) = .cells ((List.flatMap encOut [⟨amt, A, n, c, rs⟩, ⟨left, A5, n5, c5, rs5⟩]) ++ cur.drop (2 * 2)).toArray 27 (0, 0) := by
  have e9 : cur = cur.take (2 * 2) ++ cur.drop (2 * 2) := (List.take_append_drop _ _).symm
  rw [hqt] at e9
  exact congrArg (fun l : List Value => Obj.cells l.toArray 27 (0, 0)) e9
 rw [hcur] at hqh
 have hlow := hn.low
 have hlo := hn.lo
 have key : ∀ W, (∀ b, b ≠ b2 → b ≠ tb → (Value.slice J k jc).ownBlock ≠ some b → b < w'.heap.size → W.heap[b]? = w'.heap[b]?) → w'.heap.size ≤ W.heap.size → OSl W W.heap.size O 2 [⟨amt, A, n, c, rs⟩, ⟨left, A5, n5, c5, rs5⟩] := fun W hW hz => by
  have hnj : ∀ b, b < w5.heap.size ∨ Y.heap.size ≤ b → (Value.slice J k jc).ownBlock ≠ some b := fun b hb e => by
   have h1 := own_block_ge hiY.row b e
   have h2 := (hiY.row.lt b e).2
   omega
  have hqW := (hW q (by rcases hqo with h9 | h9 <;> omega) hqt5 (hnj q (by rcases hqo with h9 | h9 <;> omega)) (Array.getElem?_eq_some_iff.1 hqh).1).trans hqh
  rw [hq]
  refine osl_row hqW (Array.getElem?_eq_some_iff.1 hqW).1 ?_
  intro o ho
  simp only [List.mem_cons, List.not_mem_nil, or_false] at ho
  rcases ho with rfl | rfl
  ·refine hn.lock W ⟨fun b hb hl => ?_, by omega⟩
   have hb0 : b ≠ b2 := fun e => hb (.inl e)
   have hb1 : b ≠ tb := fun e => hb (.inr (.inl e))
   have hb2 : b ≠ ob := fun e => hb (.inr (.inr e))
   exact (hW b hb0 hb1 (hnj b (.inl hl)) (by omega)).trans ((hby b hb2 (by omega)).trans ((hY.block b (by omega)).trans (hi.kp.1 b hb1 hl)))
  ·refine hl (fun b => b = b2 ∨ b = tb ∨ b = ob ∨ (Value.slice J k jc).ownBlock = some b) (fun b hb => ?_) W ⟨fun b hb hl => ?_, by omega⟩
   ·rcases hb with rfl | rfl | rfl | hb
    ·exact .inl rfl
    ·exact .inr ⟨hn.lo.1, by omega⟩
    ·exact .inr ⟨hn.lo.2.1, by omega⟩
    ·have h1 := own_block_ge hi.row b hb
     have h2 := (hi.row.lt b hb).2
     have h3 := hn.below.size
     exact .inr ⟨by omega, h2⟩
   ·exact (hW b (fun e => hb (.inl e)) (fun e => hb (.inr (.inl e))) (fun e => hb (.inr (.inr (.inr e)))) (by omega)).trans (hby b (fun e => hb (.inr (.inr (.inl e)))) hl)
 have hsz := set_size w' ⟨tb, 1, none⟩ (.slice O 2 mc)
 refine ⟨?_, own_set hrow htb5 _ _, key _ (fun b _ hb _ _ => Below.heap_setCell _ _ _ _ hb) hsz, fun W hW => key W (fun b hb0 hb hb2 hl => ?_) (Nat.le_trans hsz hW.2), ?_⟩
 ·rw [heap_setCell_same w' tb 1 _ _ _ ht']
  rfl
 ·exact (hW.1 b (fun e => e.elim hb0 hb2) (Nat.lt_of_lt_of_le hl hsz)).trans (Below.heap_setCell _ _ _ _ hb)
 ·refine Below.setCell (p := ⟨tb, 1, none⟩) ?_ hn.lo.1 _
  have hYw := hi.bl.trans (hY.mono hi.bl.size)
  exact ⟨hg.by_.os.trans hYw.os, hg.by_.tape.trans hYw.tape, hg.by_.output.trans hYw.output, Nat.le_trans hYw.size hz', fun b hb => (hby b (by have := hn.lo.2.1; omega) (Nat.lt_of_lt_of_le hb hYw.size)).trans (hYw.block b hb)⟩
theorem flat_set {a b : List RIn} {x : RIn} {tl : List Value} {k : Nat} (hk : a.length = k) (A : Option Addr) (n c : Nat) :
  ((a ++ x :: b).flatMap encIn ++ tl).set (k * 34 + 33) (.slice A n c) = ((a ++ { x with kA := A, kn := n, kc := c } :: b).flatMap encIn ++ tl) := by
 have hl : (a.flatMap encIn).length = k * 34 := by rw [flat_len encIn_len, hk]
 rw [List.flatMap_append, List.flatMap_append, List.flatMap_cons, List.flatMap_cons, List.append_assoc, List.append_assoc, List.set_append_right _ _ (by omega), hl, show k * 34 + 33 - k * 34 = 33 by omega, List.append_assoc, List.append_assoc, List.set_append_left _ _ (by rw [encIn_len]; omega), encIn_set]
/-- A payment's ins while their keys come. -/
structure KeysAt (wa w8 w10 wr : World) (b2 : Nat) (J : Option Addr) (n jc : Nat) (tl : List Value) (xs : List (RIn × List RKey)) (rest : List RIn) : Prop where
 row : 0 < n → ∃ g, J = some ⟨g, 0, none⟩ ∧ w8.heap.size ≤ g ∧ wr.heap[g]? = some (.cells ((xs.map Prod.fst ++ rest).flatMap encIn ++ tl).toArray 63 (0, 0))
 keys : ∀ q ∈ xs, Sx (fun b => b = b2 ∨ (Value.slice J n jc).ownBlock = some b) wr (fun W => KSl W W.heap.size q.1.kA q.1.kn q.2)
 tx : ∀ q ∈ xs, q.1.tx.length = 32
 small : ∀ q ∈ xs, q.2.length ≤ 1000 ∧ ∀ k ∈ q.2, k.n ≤ 100000
 kp : Kp (fun b => b = b2 ∨ (Value.slice J n jc).ownBlock = some b) w10 wr
 bl : Below wa.heap.size wa wr
 len : xs.length + rest.length = n
theorem KeysAt.call {wa w8 w10 wr w' : World} {b2 : Nat} {J : Option Addr} {n jc : Nat} {tl : List Value} {xs : List (RIn × List RKey)} {rest : List RIn} (h : KeysAt wa w8 w10 wr b2 J n jc tl xs rest) (hb : Below wr.heap.size wr w') : KeysAt wa w8 w10 w' b2 J n jc tl xs rest :=
 ⟨fun h0 => by
  obtain ⟨g, e, hg, hh⟩ := h.row h0
  exact ⟨g, e, hg, (hb.block g (Array.getElem?_eq_some_iff.1 hh).1).trans hh⟩, fun q hq => (h.keys q hq).step (Kp.of hb), h.tx, h.small, h.kp.call hb, h.bl.trans (hb.mono h.bl.size), h.len⟩
/-- The keys of one in are stored. -/
theorem KeysAt.store {wa w8 w10 wr : World} {b2 g : Nat} {n jc : Nat} {tl : List Value} {xs : List (RIn × List RKey)} {x : RIn} {rest : List RIn} {k : Nat} (h : KeysAt wa w8 w10 wr b2 (some ⟨g, 0, none⟩) n jc tl xs (x :: rest)) (hx : xs.length = k) (ha : wa.heap.size ≤ g) (h32 : x.tx.length = 32) {A : Option Addr} {key : RKey} (hn : key.n ≤ 100000)
  (hk : Sx (fun b => b = b2 ∨ (Value.slice (some ⟨g, 0, none⟩) n jc).ownBlock = some b) wr (fun W => KSl W W.heap.size A 1 [key])) :
  KeysAt wa w8 w10 (wr.setCell ⟨g, k * 34 + 33, none⟩ (.slice A 1 1)) b2 (some ⟨g, 0, none⟩) n jc tl (xs ++ [({ x with kA := A, kn := 1, kc := 1 }, [key])]) rest := by
 have hl := h.len
 rw [List.length_cons] at hl
 obtain ⟨g', e, hg8, hh⟩ := h.row (by omega)
 injection e with e
 injection e with e
 subst e
 have hs : Kp (fun b => b = b2 ∨ (Value.slice (some ⟨g, 0, none⟩) n jc).ownBlock = some b) wr (wr.setCell ⟨g, k * 34 + 33, none⟩ (.slice A 1 1)) := (Kp.refl _ _).set (.inr rfl) _ _
 refine ⟨fun _ => ⟨g, rfl, hg8, ?_⟩, ?_, ?_, ?_, h.kp.trans hs, h.bl.setCell (p := ⟨g, k * 34 + 33, none⟩) ha _, ?_⟩
 ·rw [heap_setCell_same wr g _ _ _ _ hh, List.setIfInBounds_toArray, flat_set (by rw [List.length_map]; exact hx), List.map_append, List.append_assoc]
  rfl
 ·intro q hq
  rcases List.mem_append.1 hq with hq | hq
  ·exact (h.keys q hq).step hs
  ·obtain rfl := List.mem_singleton.1 hq
   exact hk.step hs
 ·intro q hq
  rcases List.mem_append.1 hq with hq | hq
  ·exact h.tx q hq
  ·obtain rfl := List.mem_singleton.1 hq
   exact h32
 ·intro q hq
  rcases List.mem_append.1 hq with hq | hq
  ·exact h.small q hq
  ·obtain rfl := List.mem_singleton.1 hq
   refine ⟨by simp, fun y hy => ?_⟩
   obtain rfl := List.mem_singleton.1 hy
   exact hn
 ·rw [List.length_append, List.length_cons, List.length_nil]
  omega
theorem KeysAt.done {wa w8 w10 wr W : World} {b2 : Nat} {J : Option Addr} {n jc : Nat} {tl : List Value} {xs : List (RIn × List RKey)} (h : KeysAt wa w8 w10 wr b2 J n jc tl xs []) (h2 : b2 < w8.heap.size) (hW : Kp (fun b => b = b2) wr W) : TIns W W.heap.size J n xs := by
 have hl := h.len
 rw [List.length_nil, Nat.add_zero] at hl
 refine ⟨?_, h.tx, fun q hq => h.keys q hq W (hW.more (fun b hb _ => .inl hb)), h.small⟩
 rcases Nat.eq_zero_or_pos n with h0 | h0
 ·subst h0
  obtain rfl := List.eq_nil_of_length_eq_zero hl
  exact FSl.nil_
 ·obtain ⟨g, rfl, hg, hh⟩ := h.row h0
  rw [List.append_nil] at hh
  exact NRow.nsl (base := 0) (.inr ⟨g, tl, rfl, Nat.zero_le _, by rw [List.length_map]; exact hl, heap_kp hW hh (show g ≠ b2 by omega)⟩)
/-- A row of one key. -/
theorem ksl_one {w : World} {E : Nat → Prop} {kb : Nat} {T : TypeId} {A : Option Addr} {c : Nat} {bs : List Nat} (hb : w.heap[kb]? = some (.cells #[.slice A bs.length c] T (0, 0))) (hE : ¬ E kb) (hv : BRow w 0 (.slice A bs.length c) bs) (hE2 : ∀ k, (Value.slice A bs.length c).ownBlock = some k → ¬ E k) :
  Sx E w (fun W => KSl W W.heap.size (some ⟨kb, 0, none⟩) 1 [⟨A, bs.length, c, bs⟩]) := fun W hW => by
 have h1 := heap_kp hW hb hE
 refine ⟨⟨rfl, fun _ => ⟨kb, 0, rfl, (Array.getElem?_eq_some_iff.1 h1).1, fun i u hu => ?_⟩⟩, fun k hk => ?_⟩
 ·match i, hu with
  | 0, hu =>
   injection hu with hu
   rw [← hu, cell_of_row _ _ _ _ _ _ h1]
   rfl
 ·obtain rfl := List.mem_singleton.1 hk
  obtain ⟨A2, c2, e, hy⟩ := (hv.sx hE2 W hW).sl
  injection e with e1 e2 e3
  subst e1 e3
  exact hy
theorem OutsAt.open_ {wa w5 wx : World} {b2 tb : Nat} {J : Option Addr} {k jc : Nat} {O : Option Addr} {m mc : Nat} {ins : List RIn} {os : List ROut} (h : OutsAt wa w5 wx b2 tb J k jc O m mc ins os) :
  ∃ tl : List Value, 0 < k → ∃ g, J = some ⟨g, 0, none⟩ ∧ w5.heap.size ≤ g ∧ wx.heap[g]? = some (.cells (ins.flatMap encIn ++ tl).toArray 63 (0, 0)) := by
 rcases Nat.eq_zero_or_pos k with h0 | h0
 ·exact ⟨[], fun h1 => by omega⟩
 ·obtain ⟨g, cur, e, hb, hg, _, _, _, ht⟩ := own_open h.row (.inl h0)
  refine ⟨cur.drop (k * 34), fun _ => ⟨g, e, hb, ?_⟩⟩
  rw [← ht, List.take_append_drop]
  exact hg
theorem OutsAt.keys {wa w5 wx w10 : World} {b2 tb : Nat} {J : Option Addr} {k jc : Nat} {O : Option Addr} {m mc : Nat} {ins : List RIn} {os : List ROut} (h : OutsAt wa w5 wx b2 tb J k jc O m mc ins os) (hl : ins.length = k) {tl : List Value}
  (ht : 0 < k → ∃ g, J = some ⟨g, 0, none⟩ ∧ w5.heap.size ≤ g ∧ wx.heap[g]? = some (.cells (ins.flatMap encIn ++ tl).toArray 63 (0, 0))) (hb : Below wx.heap.size wx w10) : KeysAt wa w5 w10 w10 b2 J k jc tl [] ins :=
 ⟨fun h0 => by
  obtain ⟨g, e, hg, hh⟩ := ht h0
  exact ⟨g, e, hg, (hb.block g (Array.getElem?_eq_some_iff.1 hh).1).trans hh⟩, fun q hq => (by cases hq), fun q hq => (by cases hq), fun q hq => (by cases hq), Kp.refl _ _, h.bl.trans (hb.mono h.bl.size), by rw [List.length_nil, Nat.zero_add]; exact hl⟩
theorem KeysAt.at_ {wa w8 w10 wr : World} {b2 g : Nat} {n jc : Nat} {tl : List Value} {xs : List (RIn × List RKey)} {x : RIn} {rest : List RIn} {k : Nat} (h : KeysAt wa w8 w10 wr b2 (some ⟨g, 0, none⟩) n jc tl xs (x :: rest)) (hx : xs.length = k) :
  wr.cell? ⟨g, k * 34 + 33, none⟩ = some (.slice x.kA x.kn x.kc) ∧ wr.frozen? ⟨g, k * 34 + 33, none⟩ = false := by
 have hl := h.len
 rw [List.length_cons] at hl
 obtain ⟨g', e, -, hh⟩ := h.row (by omega)
 injection e with e
 injection e with e
 subst e
 refine ⟨?_, frozen_of_row _ _ _ _ _ hh⟩
 rw [cell_of_row _ _ _ _ _ _ hh, List.getElem?_toArray]
 refine flat_in (by rw [List.length_append, List.length_map, List.length_cons]; omega) ?_
 have e9 : (xs.map Prod.fst ++ x :: rest).getD k noIn = x := by
  rw [List.getD_eq_getElem?_getD, List.getElem?_append_right (by rw [List.length_map]; omega), List.length_map, hx, Nat.sub_self]
  rfl
 rw [e9]
 exact encIn_key x
end Go.Proofs.YtbpabjhcjffkmaaGreatDoor

/- The reference's LocksOf: its locks lie in blocks of the call's own. Conditions: named in each theorem. -/
namespace Go.Proofs.YtbpabjhcjffkmaaGreatDoor
open Go.RowKit Go.ChangeShapes Go.WideShapes Go.ChangeAt

/-- Locks that lie from a block on, apart from a row's own block. -/
def Lkd (N : Nat) (w : World) (v : Value) (ls : List Lk) : Prop := ∀ l ∈ ls, ∀ w' : World, (∀ b, N ≤ b → v.ownBlock ≠ some b → b < w.heap.size → w'.heap[b]? = w.heap[b]?) → w.heap.size ≤ w'.heap.size → RSl w' w'.heap.size l.1 2 l.2
theorem Lkd.push {N : Nat} {wr w2 w3 : World} {v v' : Value} {ls : List Lk} {A : Option Addr} {rs : List ROp} (h : Lkd N wr v ls) (hN : N ≤ wr.heap.size) (hv : ∀ k, v.ownBlock = some k → k < wr.heap.size) (hb : Below wr.heap.size wr w2) (hd : RDep w2 wr.heap.size A 2 rs) (hg : w2.grownBy w3 v.ownBlock) (ho : v'.ownBlock = v.ownBlock ∨ ∃ k, v'.ownBlock = some k ∧ w2.heap.size ≤ k) : Lkd N w3 v' (ls ++ [(A, rs)]) := by
 intro l hl w' hw' hs'
 have hsz := hg.size
 have hsz2 := hb.size
 rcases List.mem_append.1 hl with hl | hl
 ·refine h l hl w' (fun b hNb hne hb' => ?_) (by omega)
  have hne' : v'.ownBlock ≠ some b := by
   rcases ho with ho | ⟨k, ho, hk⟩
   ·rw [ho]; exact hne
   ·rw [ho]; intro e; injection e with e; omega
  exact (hw' b hNb hne' (by omega)).trans ((hg.block b (by omega) (fun e => hne e.symm)).trans (hb.block b hb'))
 ·obtain rfl := List.mem_singleton.1 hl
  refine hd w' (fun b h1 h2 => ?_) (by omega)
  have hne : v.ownBlock ≠ some b := fun e => by have := hv b e; omega
  have hne' : v'.ownBlock ≠ some b := by
   rcases ho with ho | ⟨k, ho, hk⟩
   ·rw [ho]; exact hne
   ·rw [ho]; intro e; injection e with e; omega
  exact (hw' b (by omega) hne' (by omega)).trans (hg.block b h2 (fun e => hne e.symm))
set_option maxHeartbeats 20000000 in
set_option maxRecDepth 100000 in
theorem qlocksD_any (d : List Nat) (hd : d.length = 32) (hb : ∀ x ∈ d, x < 256) (n : Int) (hn : n ≤ 100) (w : World) (hg : RoundsAt w) :
  Calls Tryz.prog 15 #[digV d, .int .i64 n] w (fun e w' => ∃ (A : Option Addr) (c : Nat) (ls : List Lk), n.toNat ≤ c ∧ e = .returned (.slice A n.toNat c) ∧ Sl w' w'.heap.size 1 A n.toNat (ls.map lkV) ∧ (∀ l ∈ ls, RDep w' w.heap.size l.1 2 l.2) ∧ ls.map lkP = (List.range n.toNat).map (lockL d) ∧ Below w.heap.size w w') := by
 have HG := aside hg
 have HDb := aside hb
 have HDl := aside hd
 have B1 : Hid (Below w.heap.size w (w.alloc (.cells (rowY d) 23))) := aside ((Below.refl _ _).alloc (Nat.le_refl _) _)
 have D0 : Hid (BlkY (w.alloc (.cells (rowY d) 23)) w.heap.size 23 d) := aside (BlkY.new w _ _)
 have HS7 := aside (zinfo d hd)
 obtain ⟨N, hN⟩ : ∃ N, N = n.toNat := ⟨_, rfl⟩
 rw [← hN]
 have hN1 : (N : Int) = n ∨ (n ≤ 0 ∧ N = 0) := by omega
 have HN1 := aside hN1
 have HO : Hid ((w.alloc (.cells (rowY d) 23)).ownsRow (w.heap.size + 1) 25 1 (.slice none 0 0) 0 (([] : List Lk).map lkV)) := aside ⟨by simp, .inl ⟨rfl, rfl⟩⟩
 have HL : Hid (Lkd w.heap.size (w.alloc (.cells (rowY d) 23)) (.slice none 0 0) []) := aside (fun l hl => by cases hl)
 have hN100 : N ≤ 100 := by omega
 clear hg hb hd hN hN1
 unfold digV
 go_enter Tryz.func15, Tryz.ntmps15
 go_wp2_with fail
 change Code.wp _ _ _ _ (w.alloc (.cells (rowY d) 23))
 have Z1 : Hid (w.heap.size + 1 ≤ (w.alloc (.cells (rowY d) 23)).heap.size) := aside (by simp)
 generalize (w.alloc (.cells (rowY d) 23)) = w1 at B1 D0 HO HL Z1 ⊢
 obtain ⟨B0, hB0⟩ : ∃ B0, B0 = w.heap.size := ⟨_, rfl⟩
 have EB := aside hB0
 simp only [← hB0] at D0 HO Z1 ⊢
 clear hB0
 go_loopw [5, 6] (fun v5 v6 wr => ∃ (i : Nat) (ls : List Lk) (A1 : Option Addr) (c1 : Nat), i ≤ N ∧ v6 = .int .i64 i ∧ v5 = .slice A1 i c1 ∧ B0 + 1 ≤ wr.heap.size ∧ Hid (wr.ownsRow (B0 + 1) 25 1 (.slice A1 i c1) i (ls.map lkV)) ∧ Hid (Lkd w.heap.size wr (.slice A1 i c1) ls) ∧ Hid (ls.map lkP = (List.range i).map (lockL d)) ∧ Hid (BlkY wr B0 23 d) ∧ Hid (Below w.heap.size w wr)) (fun _ v6 _ => N - (Go.RowKit.intOf v6).toNat)
 case atStart => exact ⟨0, [], none, 0, Nat.zero_le _, rfl, rfl, Z1.out, HO, HL, aside rfl, D0, B1⟩
 case round =>
  clear HO HL D0 B1 Z1
  obtain ⟨i, ls, A1, c1, hi, rfl, rfl, hz, HO, HL, HP, D0, HB⟩ := hrel
  by_cases hin : i < N
  ·have i0 : (i : Int) < n := by have := HN1.out; omega
   have i1 : (i : Int) < 100 := by omega
   have hwz := HB.out.size
   go_wp2_with (first
    | (refine wpList_load_row rfl 23 (.tmp 2) rfl B0 rfl 23 (rowY d) (0, 0) _ D0.out Tryz.underlying23 rfl HS7.out ?_)
    | fail)
   refine (show Calls _ _ #[digV d, _] _ _ from qlock_any d HDl.out HDb.out (i : Int) (by omega) wr (HG.out.below HB.out)).mono ?_
   rintro e w2 ⟨A2, rs, rfl, hdep, hpl, hb2⟩
   have HDep := aside hdep
   have HPl := aside hpl
   have HBr := aside hb2
   have HB2 := aside (HB.out.trans (hb2.mono hwz))
   have HO2 : Hid (w2.ownsRow (B0 + 1) 25 1 (.slice A1 i c1) i (ls.map lkV)) := aside (own_below HO.out hb2)
   have D02 := aside (D0.out.below hb2 D0.out.lt)
   have hz2 := Nat.le_trans hz hb2.size
   clear hdep hpl hb2
   go_wp2_with (first
    | (at_builtin; refine wpList_push rfl (.tmp 16) (.tmp 20) 51 rfl (B0 + 1) _ 1 24 Tryz.underlying51 infoL rfl (by decide) (.slice A1 i c1) i _ rfl rfl rfl rfl HO2.out (by omega) (by unfold maxLen; omega) hz2 ?_; intro A3 c3 w3 hc3 hc3' hown3 hb3 hz3' hg3)
    | fail)
   have HO3 : Hid (w3.ownsRow (B0 + 1) 25 1 (.slice A3 (i + 1) c3) (i + 1) ((ls ++ [(A2, rs)]).map lkV)) := aside (by rw [List.map_append]; exact hown3)
   have HL3 : Hid (Lkd w.heap.size w3 (.slice A3 (i + 1) c3) (ls ++ [(A2, rs)])) := aside (HL.out.push (HB.out.size) (fun k hk => own_lt HO.out k hk) HBr.out HDep.out hg3.1 hg3.2)
   have HP3 : Hid ((ls ++ [(A2, rs)]).map lkP = (List.range (i + 1)).map (lockL d)) := aside (by
    rw [List.map_append, HP.out, List.range_succ, List.map_append]
    show _ ++ [rs.map ROp.pl] = _ ++ [lockL d i]
    rw [HPl.out]; rfl)
   have HB3 := aside (HB2.out.trans (hb3.mono (by rw [EB.out]; omega)))
   have D03 := aside (D02.out.below hb3 (Nat.lt_succ_self _))
   have hz3 := Nat.le_trans hz2 hb3.size
   clear hown3 hb3 hg3 hz3'
   exact ⟨⟨i + 1, ls ++ [(A2, rs)], A3, c3, by omega, by go_num, rfl, hz3, HO3, HL3, HP3, D03, HB3⟩, by simp [Go.RowKit.intOf]; omega⟩
  ·obtain rfl : N = i := by omega
   have i0 : ((N : Int) < n) = False := by have := HN1.out; simp only [eq_iff_iff, iff_false]; omega
   go_wp2
   go_ret
   exact ⟨A1, c1, ls, own_cap HO.out, rfl, Sl.own HO.out, (fun l hl W hW hs => HL.out l hl W (fun b h1 _ h2 => hW b h1 h2) hs), HP.out, HB.out⟩
/-- A payment's block as the reference lays it. -/
theorem TxNew.d {wa w0 : World} {b2 : Nat} (low : b2 < wa.heap.size) {amt : Int} {A : Option Addr} {n c : Nat} {rs : List ROp} (h : RSl w0 w0.heap.size A n rs) (hb : Below w0.heap.size w0 wa) (hb2 : w0.heap.size ≤ b2) :
  TxNew wa ((wa.alloc (.cells #[.int .i64 amt, .slice A n c] 27)).alloc (.cells #[.slice none 0 0, .slice (some ⟨wa.heap.size, 0, none⟩) 1 1, .int .i64 0] 32)) b2 (wa.heap.size + 1) wa.heap.size amt A n c rs := by
 have hz := hb.size
 have hB : Below wa.heap.size wa ((wa.alloc (.cells #[.int .i64 amt, .slice A n c] 27)).alloc (.cells #[.slice none 0 0, .slice (some ⟨wa.heap.size, 0, none⟩) 1 1, .int .i64 0] 32)) := ((Below.refl _ _).alloc (Nat.le_refl _) _).alloc (by simp) _
 refine ⟨⟨by omega, Nat.le_refl _, by omega⟩, low, ?_, (Below.heap_alloc _ _ _ (by simp)).trans (heap_alloc_new wa _), rsl_sx h (hb.trans (hB.mono hz)) (fun x hx => by omega), hB⟩
 have h9 := heap_alloc_new (wa.alloc (.cells #[.int .i64 amt, .slice A n c] 27)) (.cells #[.slice none 0 0, .slice (some ⟨wa.heap.size, 0, none⟩) 1 1, .int .i64 0] 32)
 rwa [show (wa.alloc (.cells #[.int .i64 amt, .slice A n c] 27)).heap.size = wa.heap.size + 1 by simp] at h9
end Go.Proofs.YtbpabjhcjffkmaaGreatDoor
