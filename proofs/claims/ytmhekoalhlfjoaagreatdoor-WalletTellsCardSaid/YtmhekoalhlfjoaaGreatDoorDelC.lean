/- wallet.own: the walk. Conditions: named in each theorem. -/
import Derived.Test.YtmhekoalhlfjoaaGreatDoorDelB
namespace Go.Proofs.YtmhekoalhlfjoaaGreatDoor
open Go.RowKit Go.ChangeShapes Go.WideShapes Go.ChangeAt

theorem RSl.keep {w w' : World} {B n : Nat} {A : Option Addr} {rs : List ROp} (h : RSl w B A n rs) (hk : ∀ b, b < B → w'.heap[b]? = w.heap[b]?) : RSl w' B A n rs :=
  ⟨Sl.keep h.cells fun _ hp => World.cell?_of_block (hk _ hp), fun r hr => Sl.keep (h.data r hr) fun _ hp => World.cell?_of_block (hk _ hp), h.byt⟩
theorem Locks.stays {ls : List Lk} {A : Option Addr} {N c lb : Nat} {w w2 : World} {v : Value} (h : Locks ls A N c lb w) (hb : Below w.heap.size w w2) (hv : ∀ k, v.ownBlock = some k → w.heap.size ≤ k) : Stays w2 0 v (Locks ls A N c lb) := fun w' hw' hs' => by
  have hk : ∀ b, b < w.heap.size → w'.heap[b]? = w.heap[b]? := fun b hl => (hw' b (Nat.zero_le _) (fun e => by have := hv b e; omega) (Nat.lt_of_lt_of_le hl hb.size)).trans (hb.block b hl)
  have hz : w.heap.size ≤ w'.heap.size := Nat.le_trans hb.size hs'
  exact ⟨(Sl.keep h.row fun _ hp => World.cell?_of_block (hk _ hp)).more hz, fun l hl => ((h.each l hl).keep hk).more hz, (World.cell?_of_block (hk _ h.lt)).trans h.box⟩
def keepK (ls : List (List POp)) (k : List Nat × Int × Int × List POp × Int) : Bool := decide (0 ≤ ownF ls 0 k.2.2.2.1)
theorem keep_key (ls : List (List POp)) {xs ys : List RCoin} (h : xs.map RCoin.key = ys.map RCoin.key) : (xs.filter (keepC ls)).map RCoin.key = (ys.filter (keepC ls)).map RCoin.key := by
  have e : keepC ls = keepK ls ∘ RCoin.key := rfl
  rw [e, ← List.filter_map, ← List.filter_map, h]
theorem key_mem {xs ys : List RCoin} (h : xs.map RCoin.key = ys.map RCoin.key) : ∀ x ∈ xs, ∃ y ∈ ys, y.key = x.key := fun x hx => by
  have h2 : x.key ∈ ys.map RCoin.key := h ▸ List.mem_map_of_mem hx
  obtain ⟨y, hy, e⟩ := List.mem_map.1 h2
  exact ⟨y, hy, e⟩
set_option maxHeartbeats 20000000 in
set_option maxRecDepth 100000 in
theorem own_any (ls : List Lk) (cs : List RCoin) (A oA : Option Addr) (N c n oc : Nat) (hN : N ≤ 100) (hn : n ≤ 1000) (w : World) (h : Sl w w.heap.size 1 A N (ls.map lkV)) (hl : ∀ l ∈ ls, RSl w w.heap.size l.1 2 l.2) (hc : CSl w w.heap.size oA n cs) (hk : ∀ r ∈ cs, r.ln ≤ 60 ∧ ∀ o ∈ r.lk, o.dn ≤ 300) :
    Calls Tryz.prog 29 #[.slice A N c, .slice oA n oc] w (fun e w' => ∃ (A' : Option Addr) (m c' : Nat) (qs : List RCoin), m ≤ n ∧ e = .returned (.slice A' m c') ∧ CSl w' w'.heap.size A' m qs ∧ qs.map RCoin.key = (cs.filter (keepC (ls.map lkP))).map RCoin.key ∧ Below w.heap.size w w') := by
  have B1 : Hid (Below w.heap.size w (w.alloc (.cells #[.slice A N c] 37))) := aside ((Below.refl _ _).alloc (Nat.le_refl _) _)
  have hbx : (w.alloc (.cells #[.slice A N c] 37)).cell? ⟨w.heap.size, 0, none⟩ = some (.slice A N c) := by
    rw [cell_of_row _ _ 0 _ _ _ (heap_alloc_new w _)]
    rfl
  have HE : Hid (Locks ls A N c w.heap.size (w.alloc (.cells #[.slice A N c] 37))) := aside ⟨(Sl.below h B1.out).more B1.out.size, fun l hm => ((hl l hm).below B1.out).more B1.out.size, hbx⟩
  have HC := aside (hc.step B1.out)
  have HK := aside hk
  have HTx := aside hc.tx
  clear h hl hc hk hbx
  go_enter Tryz.func29, Tryz.ntmps29
  go_upto_region 1 with fail
  change Code.wp _ _ _ _ (w.alloc (.cells #[.slice A N c] 37))
  generalize (w.alloc (.cells #[.slice A N c] 37)) = w1 at B1 HE HC ⊢
  obtain ⟨lb, hlb⟩ : ∃ lb, lb = w.heap.size := ⟨_, rfl⟩
  rw [← hlb] at HE ⊢
  clear hlb
  go_wp2_with fail
  refine (copy_any cs oA n oc w1 HC.out hn HK.out).mono ?_
  rintro e w2 ⟨A2, c2, qs, rfl, hown, hst, hkey, hb2⟩
  have HO := aside hown
  have HS := aside hst
  have HKy := aside hkey
  have HB2 := aside hb2
  have HT2 : Hid (∀ q ∈ qs, q.tx.length = 32) := aside (fun q hq => by
    obtain ⟨y, hy, e⟩ := key_mem hkey q hq
    have e2 : q.tx = y.tx := (Prod.mk.inj e).1.symm
    rw [e2]
    exact HTx.out y hy)
  have HE2 : Hid (Stays w2 0 (.slice A2 n c2) (Locks ls A N c lb)) := aside (HE.out.stays hb2 (own_block_ge hown))
  clear hown hst hkey hb2 HE HC HTx
  go_wp2_with fail
  refine (del_any ls qs A A2 N c lb n c2 w1.heap.size hN hn w2 HB2.out.size HO.out HS.out HT2.out HE2.out).mono ?_
  rintro e w3 ⟨m, hm, rfl, hcs, hb3⟩
  have HC3 := aside hcs
  have HB3 : Hid (Below w.heap.size w w3) := aside (B1.out.trans ((HB2.out.trans hb3).mono B1.out.size))
  clear hcs hb3 HO HS HE2
  go_wp2
  go_ret
  exact ⟨A2, m, c2, _, hm, rfl, HC3.out, keep_key _ HKy.out, HB3.out⟩
end Go.Proofs.YtmhekoalhlfjoaaGreatDoor
