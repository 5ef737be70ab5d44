/- The small steps of Pay and Payment: the walks. Conditions: named in each theorem. The reference's Unused: the walk. Conditions: named in each theorem. -/
import Derived.Test.YtbpabjhcjffkmaaGreatDoorRefU
import Derived.Test.YtbpabjhcjffkmaaGreatDoorRefP
import Derived.Test.YtbpabjhcjffkmaaGreatDoorRefN
import Derived.Test.YtbpabjhcjffkmaaGreatDoorPayL
import Derived.OrdersHeld
import Derived.Deep.RegionHeld3
import Derived.Deep.MidRow
/- The small steps of Pay and Payment: the walks. Conditions: named in each theorem. -/
namespace Go.Proofs.YtbpabjhcjffkmaaGreatDoor
open Go.RowKit Go.ChangeShapes Go.WideShapes Go.ChangeAt

theorem own_cap {w : World} {base : Nat} {e : TypeId} {sz n c : Nat} {A : Option Addr} {xs : List Value} (h : w.ownsRow base e sz (.slice A n c) n xs) : n ≤ c := by
 obtain ⟨A', c', e1, h1, _⟩ := own_slice h
 injection e1 with _ _ e3
 omega
set_option maxHeartbeats 20000000 in
set_option maxRecDepth 100000 in
theorem ownM_any (ls : List Lk) (cs : List RCoin) (A oA : Option Addr) (N c n oc : Nat) (hN : N ≤ 100) (hn : n ≤ 1000) (w : World) (h : Sl w w.heap.size 1 A N (ls.map lkV)) (hl : ∀ l ∈ ls, RSl w w.heap.size l.1 2 l.2) (hc : CSl w w.heap.size oA n cs) (hk : ∀ r ∈ cs, r.ln ≤ 60 ∧ ∀ o ∈ r.lk, o.dn ≤ 300) :
  Calls Tryz.prog 30 #[.slice A N c, .slice oA n oc] w (fun e w' => ∃ (A' : Option Addr) (m c' : Nat) (qs : List RCoin), m ≤ n ∧ m ≤ c' ∧ e = .returned (.slice A' m c') ∧ CSl w' w'.heap.size A' m qs ∧ qs.map RCoin.key = (cs.filter (keepC (ls.map lkP))).map RCoin.key ∧ Below w.heap.size w w') := by
 have B1 : Hid (Below w.heap.size w (w.alloc (.cells #[.slice A N c] 51))) := aside ((Below.refl _ _).alloc (Nat.le_refl _) _)
 have hbx : (w.alloc (.cells #[.slice A N c] 51)).cell? ⟨w.heap.size, 0, none⟩ = some (.slice A N c) := by
  rw [cell_of_row _ _ 0 _ _ _ (heap_alloc_new w _)]
  rfl
 have HE : Hid (Locks ls A N c w.heap.size (w.alloc (.cells #[.slice A N c] 51))) := aside ⟨(Sl.below h B1.out).more B1.out.size, fun l hm => ((hl l hm).below B1.out).more B1.out.size, hbx⟩
 have HC := aside (hc.step B1.out)
 have HK := aside hk
 have HTx := aside hc.tx
 clear h hl hc hk hbx
 go_enter Tryz.func30, Tryz.ntmps30
 go_upto_region 1 with fail
 change Code.wp _ _ _ _ (w.alloc (.cells #[.slice A N c] 51))
 generalize (w.alloc (.cells #[.slice A N c] 51)) = w1 at B1 HE HC ⊢
 obtain ⟨lb, hlb⟩ : ∃ lb, lb = w.heap.size := ⟨_, rfl⟩
 rw [← hlb] at HE ⊢
 clear hlb
 go_wp2_with fail
 refine (copy_any cs oA n oc w1 HC.out hn HK.out).mono ?_
 rintro e w2 ⟨A2, c2, qs, rfl, hown, hst, hkey, hb2⟩
 have HO := aside hown
 have HCap : Hid (n ≤ c2) := aside (own_cap hown)
 have HS := aside hst
 have HKy := aside hkey
 have HB2 := aside hb2
 have HT2 : Hid (∀ q ∈ qs, q.tx.length = 32) := aside (fun q hq => by
  obtain ⟨y, hy, e⟩ := key_mem hkey q hq
  have e2 : q.tx = y.tx := (Prod.mk.inj e).1.symm
  rw [e2]
  exact HTx.out y hy)
 have HE2 : Hid (Stays w2 0 (.slice A2 n c2) (Locks ls A N c lb)) := aside (HE.out.stays hb2 (own_block_ge hown))
 clear hown hst hkey hb2 HE HC HTx
 go_wp2_with fail
 refine (del_any ls qs A A2 N c lb n c2 w1.heap.size hN hn w2 HB2.out.size HO.out HS.out HT2.out HE2.out).mono ?_
 rintro e w3 ⟨m, hm, rfl, hcs, hb3⟩
 have HC3 := aside hcs
 have HB3 : Hid (Below w.heap.size w w3) := aside (B1.out.trans ((HB2.out.trans hb3).mono B1.out.size))
 clear hcs hb3 HO HS HE2
 go_wp2
 go_ret
 exact ⟨A2, m, c2, _, hm, Nat.le_trans hm HCap.out, rfl, HC3.out, keep_key _ HKy.out, HB3.out⟩
set_option maxHeartbeats 20000000 in
set_option maxRecDepth 100000 in
theorem locksM_any (d : List Nat) (hd : d.length = 32) (hb : ∀ x ∈ d, x < 256) (n : Int) (hn : n ≤ 100) (w : World) (hg : RoundsAt w) :
  Calls Tryz.prog 29 #[digV d, .int .i64 n] w (fun e w' => ∃ (A : Option Addr) (c : Nat) (ls : List Lk), n.toNat ≤ c ∧ e = .returned (.slice A n.toNat c) ∧ Sl w' w'.heap.size 1 A n.toNat (ls.map lkV) ∧ (∀ l ∈ ls, RSl w' w'.heap.size l.1 2 l.2) ∧ ls.map lkP = (List.range n.toNat).map (lockL d) ∧ Below w.heap.size w w') := by
 have HG := aside hg
 have HDb := aside hb
 have HDl := aside hd
 have B1 : Hid (Below w.heap.size w (w.alloc (.cells (rowY d) 23))) := aside ((Below.refl _ _).alloc (Nat.le_refl _) _)
 have D0 : Hid (BlkY (w.alloc (.cells (rowY d) 23)) w.heap.size 23 d) := aside (BlkY.new w _ _)
 have HS7 := aside (zinfo d hd)
 obtain ⟨N, hN⟩ : ∃ N, N = n.toNat := ⟨_, rfl⟩
 rw [← hN]
 have hmn : min n 100 = n := by omega
 have hN1 : (N : Int) = n ∨ (n ≤ 0 ∧ N = 0) := by omega
 have HN1 := aside hN1
 have HO : Hid ((w.alloc (.cells (rowY d) 23)).ownsRow (w.heap.size + 1) 25 1 (.slice none 0 0) 0 (([] : List Lk).map lkV)) := aside ⟨by simp, .inl ⟨rfl, rfl⟩⟩
 have HL : Hid (Lks (w.alloc (.cells (rowY d) 23)) (.slice none 0 0) []) := aside (fun l hl => by cases hl)
 have hN100 : N ≤ 100 := by omega
 clear hg hb hd hN hN1
 unfold digV
 go_enter Tryz.func29, Tryz.ntmps29
 go_wp2_with fail
 change Code.wp _ _ _ _ (w.alloc (.cells (rowY d) 23))
 have Z1 : Hid (w.heap.size + 1 ≤ (w.alloc (.cells (rowY d) 23)).heap.size) := aside (by simp)
 generalize (w.alloc (.cells (rowY d) 23)) = w1 at B1 D0 HO HL Z1 ⊢
 obtain ⟨B0, hB0⟩ : ∃ B0, B0 = w.heap.size := ⟨_, rfl⟩
 have EB := aside hB0
 simp only [← hB0] at D0 HO Z1 ⊢
 clear hB0
 go_loopw [5, 9] (fun v5 v9 wr => ∃ (i : Nat) (ls : List Lk) (A1 : Option Addr) (c1 : Nat), i ≤ N ∧ v9 = .int .i64 i ∧ v5 = .slice A1 i c1 ∧ B0 + 1 ≤ wr.heap.size ∧ Hid (wr.ownsRow (B0 + 1) 25 1 (.slice A1 i c1) i (ls.map lkV)) ∧ Hid (Lks wr (.slice A1 i c1) ls) ∧ Hid (ls.map lkP = (List.range i).map (lockL d)) ∧ Hid (BlkY wr B0 23 d) ∧ Hid (Below w.heap.size w wr)) (fun _ v9 _ => N - (Go.RowKit.intOf v9).toNat)
 case atStart => exact ⟨0, [], none, 0, Nat.zero_le _, rfl, rfl, Z1.out, HO, HL, aside rfl, D0, B1⟩
 case round =>
  clear HO HL D0 B1 Z1
  obtain ⟨i, ls, A1, c1, hi, rfl, rfl, hz, HO, HL, HP, D0, HB⟩ := hrel
  by_cases hin : i < N
  ·have i0 : (i : Int) < n := by have := HN1.out; omega
   have hwz := HB.out.size
   go_wp2_with (first
    | (refine wpList_load_row rfl 23 (.tmp 2) rfl B0 rfl 23 (rowY d) (0, 0) _ D0.out Tryz.underlying23 rfl HS7.out ?_)
    | fail)
   refine (show Calls _ _ #[digV d, _] _ _ from lock_any d HDl.out HDb.out i (by omega) wr (HG.out.below HB.out)).mono ?_
   rintro e w2 ⟨A2, rs, rfl, hdep, hpl, hb2⟩
   have HDep := aside hdep
   have HPl := aside hpl
   have HBr := aside hb2
   have HB2 := aside (HB.out.trans (hb2.mono hwz))
   have HO2 : Hid (w2.ownsRow (B0 + 1) 25 1 (.slice A1 i c1) i (ls.map lkV)) := aside (own_below HO.out hb2)
   have D02 := aside (D0.out.below hb2 D0.out.lt)
   have hz2 := Nat.le_trans hz hb2.size
   clear hdep hpl hb2
   go_wp2_with (first
    | (at_builtin; refine wpList_push rfl (.tmp 12) (.tmp 16) 51 rfl (B0 + 1) _ 1 24 Tryz.underlying51 infoL rfl (by decide) (.slice A1 i c1) i _ rfl rfl rfl rfl HO2.out (by omega) (by unfold maxLen; omega) hz2 ?_; intro A3 c3 w3 hc3 hc3' hown3 hb3 hz3' hg3)
    | fail)
   have HO3 : Hid (w3.ownsRow (B0 + 1) 25 1 (.slice A3 (i + 1) c3) (i + 1) ((ls ++ [(A2, rs)]).map lkV)) := aside (by rw [List.map_append]; exact hown3)
   have HL3 : Hid (Lks w3 (.slice A3 (i + 1) c3) (ls ++ [(A2, rs)])) := aside (HL.out.push (fun k hk => own_lt HO.out k hk) HBr.out HDep.out hg3.1 hg3.2)
   have HP3 : Hid ((ls ++ [(A2, rs)]).map lkP = (List.range (i + 1)).map (lockL d)) := aside (by
    rw [List.map_append, HP.out, List.range_succ, List.map_append]
    show _ ++ [rs.map ROp.pl] = _ ++ [lockL d i]
    rw [HPl.out])
   have HB3 := aside (HB2.out.trans (hb3.mono (by rw [EB.out]; omega)))
   have D03 := aside (D02.out.below hb3 (Nat.lt_succ_self _))
   have hz3 := Nat.le_trans hz2 hb3.size
   clear hown3 hb3 hg3 hz3'
   exact ⟨⟨i + 1, ls ++ [(A2, rs)], A3, c3, by omega, by go_num, rfl, hz3, HO3, HL3, HP3, D03, HB3⟩, by simp [Go.RowKit.intOf]; omega⟩
  ·obtain rfl : N = i := by omega
   have i0 : ((N : Int) < n) = False := by have := HN1.out; simp only [eq_iff_iff, iff_false]; omega
   go_wp2
   go_ret
   exact ⟨A1, c1, ls, own_cap HO.out, rfl, Sl.own HO.out, HL.out.now, HP.out, HB.out⟩
set_option maxHeartbeats 20000000 in
set_option maxRecDepth 100000 in
theorem qownM_any (ls : List Lk) (cs : List RCoin) (A oA : Option Addr) (N c n oc : Nat) (hN : N ≤ 100) (hn : n ≤ 1000) (w : World) (h : Sl w w.heap.size 1 A N (ls.map lkV)) (hl : ∀ l ∈ ls, RSl w w.heap.size l.1 2 l.2) (hd : ∀ l ∈ ls, ∀ r ∈ l.2, r.dn ≤ 1000) (hc : CSl w w.heap.size oA n cs) :
  Calls Tryz.prog 16 #[.slice A N c, .slice oA n oc] w (fun e w' => ∃ (A' : Option Addr) (m c' : Nat), m ≤ n ∧ m ≤ c' ∧ e = .returned (.slice A' m c') ∧ CSl w' w'.heap.size A' m (cs.filter (keepC (ls.map lkP))) ∧ Below w.heap.size w w') := by
 have hln := hc.len
 have HLn := aside hln
 have H := aside h
 have HL := aside hl
 have HC := aside hc
 have HD := aside hd
 have HB0 := aside (Below.refl w.heap.size w)
 have HO0 : Hid (w.ownsRow w.heap.size 57 36 (.slice none 0 0) 0 (((cs.take 0).filter (keepC (ls.map lkP))).flatMap encC)) := aside ⟨by simp, .inl ⟨rfl, rfl⟩⟩
 clear h hl hc hd hln
 go_enter Tryz.func16, Tryz.ntmps16
 go_wp2_with fail
 go_loopw [5, 6] (fun v5 v6 wr => ∃ (k m : Nat) (A1 : Option Addr) (c1 : Nat), m ≤ k ∧ k ≤ n ∧ v6 = .int .i64 k ∧ v5 = .slice A1 m c1 ∧ Hid (wr.ownsRow w.heap.size 57 36 (.slice A1 m c1) m (((cs.take k).filter (keepC (ls.map lkP))).flatMap encC)) ∧ Hid (Below w.heap.size w wr)) (fun _ v6 _ => n - (Go.RowKit.intOf v6).toNat)
 case atStart => exact ⟨0, 0, none, 0, Nat.le_refl _, Nat.zero_le _, rfl, rfl, HO0, HB0⟩
 case round =>
  clear HB0 HO0
  obtain ⟨k, m, A1, c1, hmk, hk, rfl, rfl, HO, HB⟩ := hrel
  by_cases hkn : k < n
  ·have k0 : (k : Int) < (n : Int) := by omega
   have hwz := HB.out.size
   have hCB := HC.out.below HB.out
   obtain ⟨b, of, hAe, hb1, hrg⟩ := hCB.at_ hkn
   have hm := hCB.mem hkn
   have hlk := (hCB.lock _ hm).more hwz
   have htk : (cs.take (k + 1)).filter (keepC (ls.map lkP)) = (cs.take k).filter (keepC (ls.map lkP)) ++ (if keepC (ls.map lkP) (cs.getD k noC) then [cs.getD k noC] else []) := by
    rw [take_next noC (by have := HLn.out; omega), List.filter_append]
    congr 1
    exact filt_one _ _
   generalize cs.getD k noC = r at *
   have hq := qowner_any ls r.lk r.amt A r.lA N c r.ln r.lc hN wr ((Sl.below H.out HB.out).more hwz) (fun l hm => ((HL.out l hm).below HB.out).more hwz) HD.out hlk
   have hV : keepC (ls.map lkP) r = decide (0 ≤ ownF (ls.map lkP) 0 (r.lk.map ROp.pl)) := rfl
   generalize ownF (ls.map lkP) 0 (r.lk.map ROp.pl) = R at hq hV
   have HQ := aside hq
   have HV := aside hV
   have HTk := aside htk
   have HRg := aside hrg
   have HRo := aside (range_out hrg)
   have HIo : Hid ((Tryz.prog.info? 27).map (·.size) = some 2) := aside outInfo
   have HS1 : Hid ((Tryz.prog.info? 57).map (·.size) = some (encC r).length) := aside (by rw [encC_len]; kernel_rfl)
   have hbl : b < wr.heap.size := by omega
   subst hAe
   clear hrg hlk hm hCB hkn htk hq hV
   go_wp2_with (first
    | (refine wpList_load_mid rfl 27 (.tmp 17) rfl b (of + k * 36 + 33) rfl [.int .i64 r.amt, .slice r.lA r.ln r.lc] _ HRo.out Tryz.underlying27 rfl HIo.out ?_)
    | fail)
   refine HQ.out.mono ?_
   rintro e w3 ⟨rfl, hb3⟩
   have HB3 : Hid (Below w.heap.size w w3) := aside (HB.out.trans (hb3.mono hwz))
   have HO3 : Hid (w3.ownsRow w.heap.size 57 36 (.slice A1 m c1) m (((cs.take k).filter (keepC (ls.map lkP))).flatMap encC)) := aside (own_below HO.out hb3)
   have HRg3 := aside (range_below HRg.out hb3 hbl)
   have hz3 : w.heap.size ≤ w3.heap.size := HB3.out.size
   clear hb3 HO HB HRg HRo HQ
   by_cases hR : 0 ≤ R
   ·have HT2 : Hid ((cs.take (k + 1)).filter (keepC (ls.map lkP)) = (cs.take k).filter (keepC (ls.map lkP)) ++ [r]) := aside (by rw [HTk.out, HV.out, decide_eq_true hR, if_pos rfl])
    have HE1 : Hid ((encC r).toArray.toList.all (fun u => u.oneCell') = true) := aside (List.all_eq_true.2 (encC_one r))
    have HE2 : Hid ((encC r).toArray.size = 36) := aside (by simp only [List.size_toArray, encC_len])
    clear HTk
    go_wp2_with (first
     | (refine wpList_load_mid rfl 57 (.tmp 24) rfl b (of + k * 36) rfl (encC r) _ HRg3.out Tryz.underlying57 rfl HS1.out ?_)
     | (refine wpList_coin rfl (.tmp 25) rfl (encC r) rfl (encC_len r) ?_)
     | (at_builtin; refine wpList_push rfl (.tmp 21) (.tmp 26) 24 rfl w.heap.size _ 36 80 Tryz.underlying24 infoC (by kernel_rfl) (by decide) (.slice A1 m c1) m _ rfl rfl HE2.out HE1.out HO3.out (by omega) (by unfold maxLen; omega) hz3 ?_; intro A3 c3 w5 hc3 hc3' hown3 hb5 hz5 hg5)
     | fail)
    have HO5 : Hid (w5.ownsRow w.heap.size 57 36 (.slice A3 (m + 1) c3) (m + 1) (((cs.take (k + 1)).filter (keepC (ls.map lkP))).flatMap encC)) := aside (by rw [HT2.out, List.flatMap_append]; simpa using hown3)
    exact ⟨⟨k + 1, m + 1, A3, c3, by omega, by omega, by go_num, rfl, HO5, aside (HB3.out.trans hb5)⟩, by simp [Go.RowKit.intOf]; omega⟩
   ·have HT2 : Hid ((cs.take (k + 1)).filter (keepC (ls.map lkP)) = (cs.take k).filter (keepC (ls.map lkP))) := aside (by rw [HTk.out, HV.out, decide_eq_false hR]; simp)
    have hR2 : (0 ≤ R) = False := by simp [hR]
    have HO4 : Hid (w3.ownsRow w.heap.size 57 36 (.slice A1 m c1) m (((cs.take (k + 1)).filter (keepC (ls.map lkP))).flatMap encC)) := aside (by rw [HT2.out]; exact HO3.out)
    clear HTk HT2 HO3
    go_wp2
    exact ⟨⟨k + 1, m, A1, c1, by omega, by omega, by go_num, rfl, HO4, HB3⟩, by simp [Go.RowKit.intOf]; omega⟩
  ·obtain rfl : n = k := by omega
   have i0 : ((n : Int) < (n : Int)) = False := by simp
   have htn : cs.take n = cs := List.take_of_length_le (by have := HLn.out; omega)
   have HCS : Hid (CSl wr wr.heap.size A1 m (cs.filter (keepC (ls.map lkP)))) := aside (by
    have h9 := Sl.own HO.out
    rw [htn] at h9
    exact ⟨h9, fun r hr => ((HC.out.lock r ((List.mem_filter.1 hr).1)).below HB.out).more HB.out.size, fun r hr => HC.out.tx r ((List.mem_filter.1 hr).1)⟩)
   have HCap : Hid (m ≤ c1) := aside (own_cap HO.out)
   clear hkn htn HO
   go_wp2
   go_ret
   exact ⟨A1, m, c1, hmk, HCap.out, rfl, HCS.out, HB.out⟩
set_option maxHeartbeats 20000000 in
set_option maxRecDepth 100000 in
theorem wcopied_any (rs : List ROp) (A : Option Addr) (n c : Nat) (w : World) (h : RSl w w.heap.size A n rs) (hn : n ≤ 60) (hd : ∀ r ∈ rs, r.dn ≤ 300) :
  Calls Tryz.prog 32 #[.slice A n c] w (fun e w' => ∃ A' c' rs', e = .returned (.slice A' n c') ∧ RDep w' w.heap.size A' n rs' ∧ rs'.map ROp.pl = rs.map ROp.pl ∧ Below w.heap.size w w') := by
 have hl := h.len
 have HL := aside hl
 have H := aside h
 have HD := aside hd
 have HB0 := aside (Below.refl w.heap.size w)
 have HO0 : Hid (w.ownsRow w.heap.size 85 3 (.slice none 0 0) 0 (([] : List ROp).flatMap encR)) := aside ⟨by simp, .inl ⟨rfl, rfl⟩⟩
 have HS0 : Hid (∀ r ∈ ([] : List ROp), Stays w w.heap.size (.slice none 0 0) (fun x => YSl x x.heap.size r.dA r.dn r.data)) := aside (fun r hr => by cases hr)
 have HP0 : Hid (([] : List ROp).map ROp.pl = (rs.take 0).map ROp.pl) := aside rfl
 clear hl h hd
 go_enter Tryz.func32, Tryz.ntmps32
 go_wp2_with fail
 go_loopw [3, 8] (fun v3 v8 wr => ∃ (k : Nat) (qs : List ROp) (A1 : Option Addr) (c1 : Nat), k ≤ n ∧ v8 = .int .i64 k ∧ v3 = .slice A1 k c1 ∧ Hid (wr.ownsRow w.heap.size 85 3 (.slice A1 k c1) k (qs.flatMap encR)) ∧ Hid (∀ r ∈ qs, Stays wr w.heap.size (.slice A1 k c1) (fun x => YSl x x.heap.size r.dA r.dn r.data)) ∧ Hid (qs.map ROp.pl = (rs.take k).map ROp.pl) ∧ Hid (Below w.heap.size w wr)) (fun _ v8 _ => n - (Go.RowKit.intOf v8).toNat)
 case atStart => exact ⟨0, [], none, 0, Nat.zero_le _, rfl, rfl, HO0, HS0, HP0, HB0⟩
 case round =>
  clear HB0 HO0 HS0 HP0
  obtain ⟨k, qs, A1, c1, hk, rfl, rfl, HO, HS, HP, HB⟩ := hrel
  by_cases hkn : k < n
  ·have k0 : (k : Int) < (n : Int) := by omega
   have hwz := HB.out.size
   have R1 := H.out.below HB.out
   obtain ⟨b1, of1, e1, hb1, p0, p1, p2⟩ := R1.at_ hkn
   have hm1 := R1.mem hkn
   have hY1 := Sl.more (R1.data _ hm1) hwz
   have hdn := HD.out _ hm1
   have hn1 := pl_next (rs := rs) (k := k) (by have := HL.out; omega)
   generalize rs.getD k noR = r at *
   have HN1 := aside hn1
   have B2 : Hid (Below wr.heap.size wr (wr.alloc (.cells #[.int .i64 r.op, .int .i64 r.n, .slice r.dA r.dn r.dc] 85))) := aside ((Below.refl _ _).alloc (Nat.le_refl _) _)
   have DX : Hid ((wr.alloc (.cells #[.int .i64 r.op, .int .i64 r.n, .slice r.dA r.dn r.dc] 85)).heap[wr.heap.size]? = some (.cells #[.int .i64 r.op, .int .i64 r.n, .slice r.dA r.dn r.dc] 85 (0, 0))) := aside (heap_alloc_new _ _)
   have HY2 : Hid (YSl (wr.alloc (.cells #[.int .i64 r.op, .int .i64 r.n, .slice r.dA r.dn r.dc] 85)) (wr.alloc (.cells #[.int .i64 r.op, .int .i64 r.n, .slice r.dA r.dn r.dc] 85)).heap.size r.dA r.dn r.data) := aside (Sl.more (Sl.below hY1 B2.out) B2.out.size)
   subst e1
   clear hY1 hn1 hm1 R1 hkn
   go_upto_region 5 with fail
   change Code.wp _ _ _ _ (wr.alloc (.cells #[.int .i64 r.op, .int .i64 r.n, .slice r.dA r.dn r.dc] 85))
   generalize (wr.alloc (.cells #[.int .i64 r.op, .int .i64 r.n, .slice r.dA r.dn r.dc] 85)) = w2 at B2 DX HY2 ⊢
   obtain ⟨bx, hbx⟩ : ∃ bx, bx = wr.heap.size := ⟨_, rfl⟩
   have EBx := aside hbx
   rw [← hbx] at DX ⊢
   clear hbx
   have x2 : w2.cell? ⟨bx, 2, none⟩ = some (.slice r.dA r.dn r.dc) := by rw [cell_of_row _ _ 2 _ _ _ DX.out]; rfl
   have hl2 : bx < w2.heap.size := (Array.getElem?_eq_some_iff.1 DX.out).1
   go_wp2_with fail
   refine (cloneY_any r.data r.dA r.dn r.dc w2 HY2.out (by omega)).mono ?_
   rintro e w3 ⟨A2, c2, rfl, hdep, hb3⟩
   have DX3 := (hb3.block bx hl2).trans DX.out
   have y2 : w3.cell? ⟨bx, 2, none⟩ = some (.slice r.dA r.dn r.dc) := by rw [cell_of_row _ _ 2 _ _ _ DX3]; rfl
   have f2 : w3.frozen? ⟨bx, 2, none⟩ = false := by simp [World.frozen?, DX3]
   have HDx3 := aside DX3
   have HDep := aside hdep
   have HB3 := aside hb3
   clear DX3 hdep hb3 DX x2 p0 p1 p2
   go_upto_region 6 with fail
   have DX4 : Hid ((w3.setCell ⟨bx, 2, none⟩ (.slice A2 r.dn c2)).heap[bx]? = some (.cells #[.int .i64 r.op, .int .i64 r.n, .slice A2 r.dn c2] 85 (0, 0))) := aside (heap_setCell_same w3 bx 2 _ _ _ HDx3.out)
   have HB4 : Hid (Below wr.heap.size wr (w3.setCell ⟨bx, 2, none⟩ (.slice A2 r.dn c2))) := aside ((B2.out.trans (HB3.out.mono B2.out.size)).setCell (p := ⟨bx, 2, none⟩) (by rw [← EBx.out]; exact Nat.le_refl _) _)
   have HDep4 : Hid (Deps (w3.setCell ⟨bx, 2, none⟩ (.slice A2 r.dn c2)) w2.heap.size (fun x => YSl x x.heap.size A2 r.dn r.data)) := aside (HDep.out.keep (fun b hb _ => Below.heap_setCell w3 _ _ b (show b ≠ bx by omega)) (by simp))
   change Code.wp _ _ _ _ (w3.setCell ⟨bx, 2, none⟩ (.slice A2 r.dn c2))
   generalize (w3.setCell ⟨bx, 2, none⟩ (.slice A2 r.dn c2)) = w4 at DX4 HB4 HDep4 ⊢
   clear y2 f2 HDx3 HDep HB3
   have z0 : w4.cell? ⟨bx, 0, none⟩ = some (.int .i64 r.op) := by rw [cell_of_row _ _ 0 _ _ _ DX4.out]; rfl
   have z1 : w4.cell? ⟨bx, 1, none⟩ = some (.int .i64 r.n) := by rw [cell_of_row _ _ 1 _ _ _ DX4.out]; rfl
   have z2 : w4.cell? ⟨bx, 2, none⟩ = some (.slice A2 r.dn c2) := by rw [cell_of_row _ _ 2 _ _ _ DX4.out]; rfl
   have HO4 : Hid (w4.ownsRow w.heap.size 85 3 (.slice A1 k c1) k (qs.flatMap encR)) := aside (own_below HO.out HB4.out)
   have hz4 : w.heap.size ≤ w4.heap.size := Nat.le_trans hwz HB4.out.size
   have HN2 : Hid (Stays w4 w.heap.size (.slice A1 k c1) (fun x => YSl x x.heap.size A2 r.dn r.data)) := aside (HDep4.out.stays (by have := B2.out.size; omega) (fun j hj => by have := own_lt HO.out j hj; have := B2.out.size; omega))
   have HS4 : Hid (∀ r ∈ qs, Stays w4 w.heap.size (.slice A1 k c1) (fun x => YSl x x.heap.size r.dA r.dn r.data)) := aside (fun r hr => (HS.out r hr).call HB4.out)
   have HBw4 : Hid (Below w.heap.size w w4) := aside (HB.out.trans (HB4.out.mono hwz))
   clear HDep4 HS HO HB HB4
   go_wp2_with (first
    | (at_builtin; refine wpList_push rfl (.tmp 16) (.tmp 18) 25 rfl w.heap.size _ 3 40 Tryz.underlying25 infoO rfl (by decide) (.slice A1 k c1) k _ rfl rfl rfl rfl HO4.out (by omega) (by unfold maxLen; omega) hz4 ?_; intro A3 c3 w5 hc3 hc3' hown3 hb5 hz5 hg5)
    | fail)
   have HO5 : Hid (w5.ownsRow w.heap.size 85 3 (.slice A3 (k + 1) c3) (k + 1) ((qs ++ [(⟨r.op, r.n, A2, r.dn, c2, r.data⟩ : ROp)]).flatMap encR)) := aside (by rw [List.flatMap_append]; simpa [encR] using hown3)
   have HS5 : Hid (∀ q ∈ qs ++ [(⟨r.op, r.n, A2, r.dn, c2, r.data⟩ : ROp)], Stays w5 w.heap.size (.slice A3 (k + 1) c3) (fun x => YSl x x.heap.size q.dA q.dn q.data)) := aside (fun q hq => by
    rcases List.mem_append.1 hq with hq | hq
    ·exact (HS4.out q hq).grown hg5.1 hg5.2
    ·obtain rfl := List.mem_singleton.1 hq
     exact HN2.out.grown hg5.1 hg5.2)
   have HP5 : Hid ((qs ++ [(⟨r.op, r.n, A2, r.dn, c2, r.data⟩ : ROp)]).map ROp.pl = (rs.take (k + 1)).map ROp.pl) := aside (by
    rw [List.map_append, HP.out, HN1.out]
    rfl)
   exact ⟨⟨k + 1, _, A3, c3, by omega, by go_num, rfl, HO5, HS5, HP5, aside (HBw4.out.trans hb5)⟩, by simp [Go.RowKit.intOf]; omega⟩
  ·obtain rfl : n = k := by omega
   have i0 : ((n : Int) < (n : Int)) = False := by simp
   clear hkn
   have hpl : qs.map ROp.pl = rs.map ROp.pl := by
    have := HP.out
    rwa [List.take_of_length_le (by have := HL.out; omega)] at this
   have hby : ∀ q ∈ qs, ∀ x ∈ q.data, x < 256 := fun q hq => by
    have h2 : q.pl ∈ rs.map ROp.pl := hpl ▸ List.mem_map_of_mem hq
    obtain ⟨r, hr, e⟩ := List.mem_map.1 h2
    have e3 : q.data = r.data := (Prod.mk.inj (Prod.mk.inj e).2).2.symm
    rw [e3]
    exact H.out.byt r hr
   have HPl := aside hpl
   have HBy := aside hby
   clear hpl hby
   go_wp2
   go_ret
   refine ⟨A1, c1, qs, rfl, fun w' hw' hs' => ⟨own_deps HO.out w' hw' hs', fun q hq => ?_, HBy.out⟩, HPl.out, HB.out⟩
   exact (HS.out q hq).deps w' hw' hs'
set_option maxRecDepth 100000 in
theorem madd_any (a b : Int) (w : World) : Calls Tryz.prog 59 #[.int .i64 a, .int .i64 b] w (fun e w' => e = .returned (.tuple #[.int .i64 (addN [a, b] 0).1, errP (addN [a, b] 0).2]) ∧ Below w.heap.size w w') := by
 have B1 : Hid (Below w.heap.size w (w.alloc (.cells #[.int .i64 a, .int .i64 b] 3))) := aside ((Below.refl _ _).alloc (Nat.le_refl _) _)
 have HM := aside (msum_any [a, b] (some ⟨w.heap.size, 0, none⟩) 2 2 (w.alloc (.cells #[.int .i64 a, .int .i64 b] 3)) ⟨rfl, fun _ => ⟨w.heap.size, 0, rfl, by simp, fun j u hu => by
  rw [Nat.zero_add, cell_of_row _ _ j _ _ _ (heap_alloc_new w _), List.getElem?_toArray]
  exact hu⟩⟩ (by decide))
 generalize addN [a, b] 0 = R at HM ⊢
 go_enter Tryz.func59, Tryz.ntmps59
 go_wp2_with fail
 refine HM.out.mono ?_
 rintro e w2 ⟨rfl, hb2⟩
 have HB2 := aside (B1.out.trans (hb2.mono B1.out.size))
 clear hb2
 go_wp2
 go_ret2
 exact ⟨rfl, HB2.out⟩
/-- What is wanted, and what is wrong with it. -/
def wantQ (amt : Int) (l : List POp) (fee : Int) : Int × Int := if moneyE amt ≠ 0 then (0, moneyE amt) else if lkQ l ≠ 0 then (0, lkQ l) else addN [amt, fee] 0
set_option maxRecDepth 100000 in
theorem wanted_any (amt : Int) (rs : List ROp) (A : Option Addr) (n c : Nat) (fee : Int) (w : World) (h : RSl w w.heap.size A n rs) :
  Calls Tryz.prog 28 #[.agg #[.int .i64 amt, .slice A n c], .int .i64 fee] w (fun e w' => e = .returned (.tuple #[.int .i64 (wantQ amt (rs.map ROp.pl) fee).1, errP (wantQ amt (rs.map ROp.pl) fee).2]) ∧ Below w.heap.size w w') := by
 have B1 : Hid (Below w.heap.size w (w.alloc (.cells #[.int .i64 amt, .slice A n c] 27))) := aside ((Below.refl _ _).alloc (Nat.le_refl _) _)
 have D1 : Hid ((w.alloc (.cells #[.int .i64 amt, .slice A n c] 27)).heap[w.heap.size]? = some (.cells #[.int .i64 amt, .slice A n c] 27 (0, 0))) := aside (heap_alloc_new _ _)
 have H := aside h
 obtain ⟨R, hR⟩ : ∃ R, R = wantQ amt (rs.map ROp.pl) fee := ⟨_, rfl⟩
 rw [← hR]
 have HR : Hid (R = if moneyE amt ≠ 0 then (0, moneyE amt) else if lkQ (rs.map ROp.pl) ≠ 0 then (0, lkQ (rs.map ROp.pl)) else addN [amt, fee] 0) := aside hR
 clear h hR
 go_enter Tryz.func28, Tryz.ntmps28
 go_upto_region 1 with fail
 change Code.wp _ _ _ _ (w.alloc (.cells #[.int .i64 amt, .slice A n c] 27))
 generalize (w.alloc (.cells #[.int .i64 amt, .slice A n c] 27)) = w1 at B1 D1 ⊢
 obtain ⟨bo, hbo⟩ : ∃ bo, bo = w.heap.size := ⟨_, rfl⟩
 simp only [← hbo] at D1 ⊢
 clear hbo
 have hlo : bo < w1.heap.size := (Array.getElem?_eq_some_iff.1 D1.out).1
 have y0 : w1.cell? ⟨bo, 0, none⟩ = some (.int .i64 amt) := by rw [cell_of_row _ _ 0 _ _ _ D1.out]; rfl
 have y1 : w1.cell? ⟨bo, 1, none⟩ = some (.slice A n c) := by rw [cell_of_row _ _ 1 _ _ _ D1.out]; rfl
 have HMn := aside (money_any amt w1)
 have HLc := aside (lkC_any rs A n c w1 ((H.out.below B1.out).more B1.out.size))
 generalize moneyE amt = q1 at HMn HR
 generalize lkQ (rs.map ROp.pl) = q2 at HLc HR
 go_wp2_with fail
 refine HMn.out.mono ?_
 rintro e w3 ⟨rfl, hw3⟩
 rw [hw3]
 clear hw3 w3
 by_cases hq1 : q1 = 0
 ·subst hq1
  rw [show errP 0 = Value.nilIface from rfl]
  have HR2 := aside (HR.out.trans (if_neg (by simp)))
  go_wp2_with fail
  refine HLc.out.mono ?_
  rintro e w4 ⟨rfl, hb4⟩
  have HB4 := aside (B1.out.trans (hb4.mono B1.out.size))
  have hx := (hb4.block bo hlo).trans D1.out
  have z0 : w4.cell? ⟨bo, 0, none⟩ = some (.int .i64 amt) := by rw [cell_of_row _ _ 0 _ _ _ hx]; rfl
  clear hb4 HLc HMn y0 y1 hx
  by_cases hq2 : q2 = 0
  ·subst hq2
   rw [show errP 0 = Value.nilIface from rfl]
   have hR3 : R = addN [amt, fee] 0 := HR2.out.trans (if_neg (by simp))
   have HA := aside (madd_any amt fee w4)
   rw [← hR3] at HA
   clear hR3 HR2 HR
   go_wp2_with fail
   refine HA.out.mono ?_
   rintro e w5 ⟨rfl, hb5⟩
   have HB5 := aside (HB4.out.trans (hb5.mono HB4.out.size))
   clear hb5
   go_wp2
   go_ret2
   exact ⟨rfl, HB5.out⟩
  ·have hR3 : R = (0, q2) := HR2.out.trans (if_pos hq2)
   subst hR3
   rw [errP_no hq2]
   have HE := aside (errP_no hq2)
   clear hq2 HR2 HR
   go_wp2
   go_ret2
   exact ⟨by rw [HE.out] <;> rfl, HB4.out⟩
 ·have hR3 : R = (0, q1) := HR.out.trans (if_pos hq1)
  subst hR3
  rw [errP_no hq1]
  have HE := aside (errP_no hq1)
  clear hq1 HR
  go_wp2
  go_ret2
  exact ⟨by rw [HE.out] <;> rfl, B1.out⟩
/-- A lock in a box. -/
structure FBox (l : Lk) (fb : Nat) (x : World) : Prop where
 lock : RSl x x.heap.size l.1 2 l.2
 box : x.cell? ⟨fb, 0, none⟩ = some (.slice l.1 2 2)
theorem FBox.call {l : Lk} {fb : Nat} {x y : World} (h : FBox l fb x) (hb : Below x.heap.size x y) : FBox l fb y :=
 ⟨(h.lock.below hb).more hb.size, (hb.cell (p := ⟨fb, 0, none⟩) (World.block_lt_of_cell? x _ h.box)).trans h.box⟩
def unlike (l : Lk) (r : RCoin) : Bool := !decide (r.pl = lkP l)
set_option maxRecDepth 100000 in
theorem fresh1_any (l : Lk) (r : RCoin) (fb : Nat) (w : World) (hE : FBox l fb w) (hr : RSl w w.heap.size r.lA r.ln r.lk) (h60 : r.ln ≤ 60) :
  Calls Tryz.prog 71 #[.agg (encC r).toArray, .pointer (some ⟨fb, 0, none⟩)] w (fun e w' => e = .returned (.bool (!unlike l r)) ∧ Below w.heap.size w w') := by
 have B1 : Hid (Below w.heap.size w (w.alloc (.cells (encC r).toArray 57))) := aside ((Below.refl _ _).alloc (Nat.le_refl _) _)
 have D1 : Hid ((w.alloc (.cells (encC r).toArray 57)).heap[w.heap.size]? = some (.cells (encC r).toArray 57 (0, 0))) := aside (heap_alloc_new _ _)
 have HE := aside (hE.call B1.out)
 have HR := aside ((hr.below B1.out).more B1.out.size)
 have hV : (!unlike l r) = decide (r.pl = lkP l) := by unfold unlike; simp
 rw [hV]
 clear hE hr hV
 go_enter Tryz.func71, Tryz.ntmps71
 go_upto_region 1 with fail
 change Code.wp _ _ _ _ (w.alloc (.cells (encC r).toArray 57))
 generalize (w.alloc (.cells (encC r).toArray 57)) = w1 at B1 D1 HE HR ⊢
 obtain ⟨bx, hbx⟩ : ∃ bx, bx = w.heap.size := ⟨_, rfl⟩
 rw [← hbx] at D1 ⊢
 have hb1 := HE.out.box
 have x2 : w1.cell? ⟨bx, 34, none⟩ = some (.slice r.lA r.ln r.lc) := by rw [cell_of_row _ _ 34 _ _ _ D1.out, List.getElem?_toArray]; exact encC_at r 2
 have HC := aside (same_any r.lk l.2 (decide (r.pl = lkP l)) (by rw [decide_eq_true_iff]; rfl) r.lA l.1 r.ln r.lc 2 2 (by omega) w1 HR.out HE.out.lock)
 clear hbx D1 HE HR
 go_wp2_with fail
 refine HC.out.mono ?_
 rintro e w3 ⟨rfl, hb3⟩
 have HB3 := aside (B1.out.trans (hb3.mono B1.out.size))
 clear hb3
 go_wp2
 go_ret
 exact ⟨rfl, HB3.out⟩
set_option maxHeartbeats 20000000 in
set_option maxRecDepth 100000 in
theorem fidx_any (l : Lk) (qs : List RCoin) (A' : Option Addr) (fb n c' : Nat) (hq60 : ∀ r ∈ qs, r.ln ≤ 60) (hn : n ≤ 1000) (w : World) (hE : FBox l fb w) (h : CSl w w.heap.size A' n qs) :
  Calls Tryz.prog 102 #[.slice A' n c', .func (.func 71) #[] #[.pointer (some ⟨fb, 0, none⟩)]] w (fun e w' => e = .returned (.int .i64 (dropI (unlike l) qs 0)) ∧ Below w.heap.size w w') := by
 have hl := h.len
 obtain ⟨R, hR⟩ : ∃ R, R = dropI (unlike l) qs 0 := ⟨_, rfl⟩
 rw [← hR]
 have HR0 : Hid (R = dropI (unlike l) (qs.drop 0) 0) := aside hR
 have HB0 := aside (Below.refl w.heap.size w)
 have HE := aside hE
 have HL := aside hl
 have H := aside h
 have HQ6 := aside hq60
 clear hl h hE hR hq60
 go_enter Tryz.func102, Tryz.ntmps102
 go_wp2_with fail
 go_loopw [8] (fun v8 wr => ∃ k : Nat, k ≤ n ∧ v8 = .int .i64 k ∧ Hid (Below w.heap.size w wr) ∧ Hid (R = dropI (unlike l) (qs.drop k) k)) (fun v8 _ => n - (Go.RowKit.intOf v8).toNat)
 case atStart => exact ⟨0, Nat.zero_le _, rfl, HB0, HR0⟩
 case round =>
  clear HB0 HR0
  obtain ⟨k, hk, rfl, HB, HR⟩ := hrel
  by_cases hkn : k < n
  ·have k0 : (k : Int) < (n : Int) := by omega
   have hwz := HB.out.size
   have hCB := H.out.below HB.out
   obtain ⟨b, of, hAe, hb1, hrg⟩ := hCB.at_ hkn
   have hm := hCB.mem hkn
   have hlk := (hCB.lock _ hm).more hwz
   have hdr : qs.drop k = qs.getD k noC :: qs.drop (k + 1) := by
    rw [List.getD_eq_getElem?_getD, List.getElem?_eq_getElem (by have := HL.out; omega)]
    exact List.drop_eq_getElem_cons (by have := HL.out; omega)
   have hq := HR.out
   rw [hdr] at hq
   generalize qs.getD k noC = r at *
   have hq2 : R = if unlike l r then dropI (unlike l) (qs.drop (k + 1)) (k + 1) else (k : Int) := hq
   have HQ := aside hq2
   have HRg := aside hrg
   have HC := aside (fresh1_any l r fb wr (HE.out.call HB.out) hlk (HQ6.out _ hm))
   have HS1 : Hid ((Tryz.prog.info? 57).map (·.size) = some (encC r).length) := aside (by rw [encC_len]; kernel_rfl)
   generalize unlike l r = V at HQ HC
   subst hAe
   clear hrg hlk hq hq2 hdr hm hCB hkn
   go_wp2_with (first
    | (refine wpList_load_mid rfl 57 (.tmp 14) rfl b (of + k * 36) rfl (encC r) _ HRg.out Tryz.underlying57 rfl HS1.out ?_)
    | fail)
   refine HC.out.mono ?_
   rintro e w3 ⟨rfl, hb3⟩
   have HB3 := aside (HB.out.trans (hb3.mono hwz))
   clear hb3 HC HRg
   cases V with
   | false =>
    have hRk : R = (k : Int) := HQ.out.trans (if_neg (by simp))
    subst hRk
    go_wp2
    go_ret
    exact ⟨rfl, HB3.out⟩
   | true =>
    have HR2 : Hid (R = dropI (unlike l) (qs.drop (k + 1)) (k + 1)) := aside (HQ.out.trans (if_pos rfl))
    go_wp2
    exact ⟨⟨k + 1, by omega, by go_num, HB3, HR2⟩, by simp [Go.RowKit.intOf]; omega⟩
  ·obtain rfl : n = k := by omega
   have i0 : ((n : Int) < (n : Int)) = False := by simp
   have hRk : R = -1 := by
    rw [HR.out, List.drop_of_length_le (by have := HL.out; omega)]
    rfl
   subst hRk
   clear hkn
   go_wp2
   go_ret
   exact ⟨rfl, HB.out⟩
theorem dropI_has {p : RCoin → Bool} : ∀ {qs : List RCoin} {k : Nat}, 0 ≤ dropI p qs k ↔ ∃ r ∈ qs, p r = false
 | [], k => by simp [dropI]
 | c :: r, k => by
  unfold dropI
  cases h : p c with
  | true =>
   rw [if_pos rfl, dropI_has]
   simp [h]
  | false =>
   rw [if_neg (by simp)]
   exact ⟨fun _ => ⟨c, List.mem_cons_self, h⟩, fun _ => by omega⟩
/-- Is a lock had by a coin? -/
def hadL (cs : List RCoin) (l : List POp) : Bool := decide (∃ r ∈ cs, r.pl = l)
theorem had_drop (cs : List RCoin) (l : Lk) : decide (0 ≤ dropI (unlike l) cs 0) = hadL cs (lkP l) := by
 unfold hadL
 rw [decide_eq_decide, dropI_has]
 unfold unlike
 simp
set_option maxRecDepth 100000 in
theorem fhas_any (l : Lk) (qs : List RCoin) (A' : Option Addr) (fb n c' : Nat) (hq60 : ∀ r ∈ qs, r.ln ≤ 60) (hn : n ≤ 1000) (w : World) (hE : FBox l fb w) (h : CSl w w.heap.size A' n qs) :
  Calls Tryz.prog 70 #[.slice A' n c', .func (.func 71) #[] #[.pointer (some ⟨fb, 0, none⟩)]] w (fun e w' => e = .returned (.bool (hadL qs (lkP l))) ∧ Below w.heap.size w w') := by
 have HC := aside (fidx_any l qs A' fb n c' hq60 hn w hE h)
 rw [← had_drop]
 generalize dropI (unlike l) qs 0 = R at HC ⊢
 clear hE h
 go_enter Tryz.func70, Tryz.ntmps70
 go_wp2_with fail
 refine HC.out.mono ?_
 rintro e w3 ⟨rfl, hb3⟩
 have HB3 := aside hb3
 clear hb3
 go_wp2
 go_ret
 exact ⟨rfl, HB3.out⟩
/-- The place of the first lock that no coin has; 0 where there is none. -/
def frI (cs : List RCoin) : List (List POp) → Nat → Nat
 | [], _ => 0
 | l :: r, i => if hadL cs l then frI cs r (i + 1) else i
theorem frI_lt (cs : List RCoin) : ∀ (ls : List (List POp)) (i : Nat), 0 < i + ls.length → frI cs ls i < i + ls.length
 | [], i, h => by simpa [frI] using h
 | l :: r, i, h => by
  unfold frI
  split
  ·have := frI_lt cs r (i + 1) (by omega)
   simp only [List.length_cons]
   omega
  ·simp only [List.length_cons]
   omega
set_option maxHeartbeats 20000000 in
set_option maxRecDepth 100000 in
theorem fresh_any (ls : List Lk) (qs : List RCoin) (A A' : Option Addr) (N c n c' : Nat) (hN0 : 0 < N) (hN : N ≤ 100) (hq60 : ∀ r ∈ qs, r.ln ≤ 60) (hn : n ≤ 1000) (w : World) (h : Sl w w.heap.size 1 A N (ls.map lkV)) (hl : ∀ l ∈ ls, RSl w w.heap.size l.1 2 l.2) (hc : CSl w w.heap.size A' n qs) :
  Calls Tryz.prog 33 #[.slice A N c, .slice A' n c'] w (fun e w' => e = .returned (.slice (ls.getD (frI qs (ls.map lkP) 0) (none, [])).1 2 2) ∧ Below w.heap.size w w') := by
 have hll : ls.length = N := by have := h.len; simpa using this
 obtain ⟨R, hR⟩ : ∃ R, R = frI qs (ls.map lkP) 0 := ⟨_, rfl⟩
 rw [← hR]
 have HR : Hid (R = frI qs ((ls.drop 0).map lkP) 0) := aside hR
 have H := aside h
 have HL := aside hl
 have HC := aside hc
 have HLl := aside hll
 have HQ6 := aside hq60
 have HB := aside (Below.refl w.heap.size w)
 clear h hl hc hll hR hq60
 go_enter Tryz.func33, Tryz.ntmps33
 go_wp2_with fail
 go_loopw [9] (fun v9 wr => ∃ k : Nat, k ≤ N ∧ v9 = .int .i64 k ∧ Hid (Below w.heap.size w wr) ∧ Hid (R = frI qs ((ls.drop k).map lkP) k)) (fun v9 _ => N - (Go.RowKit.intOf v9).toNat)
 case atStart => exact ⟨0, Nat.zero_le _, rfl, HB, HR⟩
 case round =>
  clear HB HR
  obtain ⟨k, hk, rfl, HB, HR⟩ := hrel
  by_cases hkn : k < N
  ·have k0 : (k : Int) < (N : Int) := by omega
   have hwz := HB.out.size
   obtain ⟨hmem, hdr⟩ := lk_at (ls := ls) (k := k) (by have := HLl.out; omega)
   obtain ⟨b, of, hAe, hbl, hck0⟩ := (Sl.below H.out HB.out).cells (by omega)
   have hck := hck0 k (lkV (ls.getD k (none, []))) (by
    rw [List.getElem?_map, List.getD_eq_getElem?_getD, List.getElem?_eq_getElem (by have := HLl.out; omega)]
    rfl)
   have hRl := ((HL.out _ hmem).below HB.out).more hwz
   have hRn := HR.out
   rw [hdr, List.map_cons] at hRn
   obtain ⟨l, hle⟩ : ∃ l, l = ls.getD k (none, []) := ⟨_, rfl⟩
   have HLe := aside hle
   rw [← hle] at hck hRl hRn
   have hRn2 : R = if hadL qs (lkP l) then frI qs ((ls.drop (k + 1)).map lkP) (k + 1) else k := hRn
   have HRn := aside hRn2
   unfold lkV at hck
   have hbz : b < wr.heap.size := by omega
   have B2 : Hid (Below wr.heap.size wr (wr.alloc (.cells #[.slice l.1 2 2] 25))) := aside ((Below.refl _ _).alloc (Nat.le_refl _) _)
   have HE : Hid (FBox l wr.heap.size (wr.alloc (.cells #[.slice l.1 2 2] 25))) := aside ⟨(hRl.below B2.out).more B2.out.size, by rw [cell_of_row _ _ 0 _ _ _ (heap_alloc_new wr _)]; rfl⟩
   have HBw2 : Hid (Below w.heap.size w (wr.alloc (.cells #[.slice l.1 2 2] 25))) := aside (HB.out.trans (B2.out.mono hwz))
   subst hAe
   clear hRl hmem hdr hck0 hRn hRn2 hbl hkn hle HB
   go_upto_region 4 with fail
   change Code.wp _ _ _ _ (wr.alloc (.cells #[.slice l.1 2 2] 25))
   generalize (wr.alloc (.cells #[.slice l.1 2 2] 25)) = w2 at B2 HE HBw2 ⊢
   obtain ⟨fb, hfb⟩ : ∃ fb, fb = wr.heap.size := ⟨_, rfl⟩
   rw [← hfb] at HE ⊢
   have HF := aside (fhas_any l qs A' fb n c' HQ6.out hn w2 HE.out ((HC.out.below HBw2.out).more HBw2.out.size))
   generalize hadL qs (lkP l) = V at HF HRn
   clear hfb hck hbz B2
   go_wp2_with fail
   refine HF.out.mono ?_
   rintro e w3 ⟨rfl, hb3⟩
   have HB3 := aside (HBw2.out.trans (hb3.mono HBw2.out.size))
   have hbx := (HE.out.call hb3).box
   clear hb3 HF HE HBw2
   cases V with
   | false =>
    have hRk : R = k := HRn.out.trans (if_neg (by simp))
    have HRl : Hid ((ls.getD R (none, [])).1 = l.1) := aside (by rw [hRk, ← HLe.out])
    clear hRk
    go_wp2
    go_ret
    exact ⟨by rw [HRl.out] <;> rfl, HB3.out⟩
   | true =>
    have HR2 : Hid (R = frI qs ((ls.drop (k + 1)).map lkP) (k + 1)) := aside (HRn.out.trans (if_pos rfl))
    go_wp2
    exact ⟨⟨k + 1, by omega, by go_num, HB3, HR2⟩, by simp [Go.RowKit.intOf]; omega⟩
  ·obtain rfl : N = k := by omega
   have i0 : ((N : Int) < (N : Int)) = False := by simp
   have n0 : (0 : Int) < (N : Int) := by omega
   have hR0 : R = 0 := by
    rw [HR.out, List.drop_of_length_le (by have := HLl.out; omega)]
    rfl
   obtain ⟨b, of, hAe, hbl, hck0⟩ := (Sl.below H.out HB.out).cells (by omega)
   have hck := hck0 0 (lkV (ls.getD 0 (none, []))) (by
    rw [List.getElem?_map, List.getD_eq_getElem?_getD, List.getElem?_eq_getElem (by have := HLl.out; omega)]
    rfl)
   unfold lkV at hck
   rw [Nat.add_zero] at hck
   subst hR0 hAe
   clear hkn hck0 HR
   go_wp2
   go_ret
   exact ⟨rfl, HB.out⟩
end Go.Proofs.YtbpabjhcjffkmaaGreatDoor

/- The reference's Unused: the walk. Conditions: named in each theorem. -/
namespace Go.Proofs.YtbpabjhcjffkmaaGreatDoor
open Go.RowKit Go.ChangeShapes Go.WideShapes Go.ChangeAt

theorem own_one2 (l o : List POp) : (ownF [l] 0 o == 0) = decide (l = o) := by
 unfold ownF ownF
 by_cases h : l = o
 ·rw [if_pos h]; simp [h]
 ·rw [if_neg h]; simp [h]
set_option maxHeartbeats 40000000 in
set_option maxRecDepth 100000 in
theorem unused_any (ls : List Lk) (qs : List RCoin) (A A' : Option Addr) (N c n c' : Nat) (hN0 : 0 < N) (hN : N ≤ 100) (hNc : N ≤ c) (hn : n ≤ 1000) (w : World) (h : Sl w w.heap.size 1 A N (ls.map lkV)) (hl : ∀ l ∈ ls, RSl w w.heap.size l.1 2 l.2) (hd : ∀ l ∈ ls, ∀ r ∈ l.2, r.dn ≤ 1000) (hc : CSl w w.heap.size A' n qs) :
  Calls Tryz.prog 21 #[.slice A N c, .slice A' n c'] w (fun e w' => e = .returned (.slice (ls.getD (frI qs (ls.map lkP) 0) (none, [])).1 2 2) ∧ Below w.heap.size w w') := by
 have hll : ls.length = N := by have := h.len; simpa using this
 have hln := hc.len
 obtain ⟨R, hR⟩ : ∃ R, R = frI qs (ls.map lkP) 0 := ⟨_, rfl⟩
 rw [← hR]
 have HR : Hid (R = frI qs ((ls.drop 0).map lkP) 0) := aside hR
 have H := aside h
 have HL := aside hl
 have HD := aside hd
 have HC := aside hc
 have HLl := aside hll
 have HLn := aside hln
 have HB := aside (Below.refl w.heap.size w)
 clear h hl hc hll hR hd hln
 go_enter Tryz.func21, Tryz.ntmps21
 go_wp2_with fail
 go_loopw [5] (fun v5 wr => ∃ k : Nat, k ≤ N ∧ v5 = .int .i64 k ∧ Hid (Below w.heap.size w wr) ∧ Hid (R = frI qs ((ls.drop k).map lkP) k)) (fun v5 _ => N - (Go.RowKit.intOf v5).toNat)
 case atStart => exact ⟨0, Nat.zero_le _, rfl, HB, HR⟩
 case round =>
  clear HB HR
  obtain ⟨k, hk, rfl, HB, HR⟩ := hrel
  by_cases hkn : k < N
  ·have k0 : (k : Int) < (N : Int) := by omega
   obtain ⟨hmem, hdr⟩ := lk_at (ls := ls) (k := k) (by have := HLl.out; omega)
   have hRn := HR.out
   rw [hdr, List.map_cons] at hRn
   obtain ⟨l, hle⟩ : ∃ l, l = ls.getD k (none, []) := ⟨_, rfl⟩
   have HLe := aside hle
   rw [← hle] at hRn hmem
   have hRn2 : R = if hadL qs (lkP l) then frI qs ((ls.drop (k + 1)).map lkP) (k + 1) else k := hRn
   have HRn := aside hRn2
   have HMem := aside hmem
   have HDl := aside (HD.out l hmem)
   have HAt : Hid (∀ W : World, Below w.heap.size w W → ∃ b of, A = some ⟨b, of, none⟩ ∧ b < w.heap.size ∧ W.cell? ⟨b, of + k, none⟩ = some (.slice l.1 2 2)) := aside (fun W hW => by
    obtain ⟨b, of, hAe, hbl, hck0⟩ := (Sl.below H.out hW).cells (by omega)
    refine ⟨b, of, hAe, hbl, ?_⟩
    have := hck0 k (lkV (ls.getD k (none, []))) (by
     rw [List.getElem?_map, List.getD_eq_getElem?_getD, List.getElem?_eq_getElem (by have := HLl.out; omega)]
     rfl)
    rw [← HLe.out] at this
    exact this)
   have HH0 : Hid (false = hadL (qs.take 0) (lkP l)) := aside (by unfold hadL; simp)
   obtain ⟨b, of, hAe, hbl, -⟩ := HAt.out w (Below.refl _ _)
   subst hAe
   have hk1 : IntKind.i64.wrap ((k : Int) + 1) = ((k + 1 : Nat) : Int) := by rw [IntKind.wrap_i64]; omega
   clear hdr hRn hRn2 hle hmem
   go_upto_region 6 with fail
   go_loopw [6, 7] (fun v6 v7 wr => ∃ (j : Nat) (V : Bool), j ≤ n ∧ v7 = .int .i64 j ∧ v6 = .bool V ∧ Hid (V = hadL (qs.take j) (lkP l)) ∧ Hid (Below w.heap.size w wr)) (fun _ v7 _ => n - (Go.RowKit.intOf v7).toNat)
   case atStart => exact ⟨0, false, Nat.zero_le _, rfl, rfl, HH0, HB⟩
   case round =>
    clear HB HH0
    obtain ⟨j, V, hj, rfl, rfl, HV, HB⟩ := hrel
    by_cases hjn : j < n
    ·have j0 : (j : Int) < (n : Int) := by omega
     have hwz := HB.out.size
     have hCB := HC.out.below HB.out
     obtain ⟨b2, o2, hAe2, hb2, hrg⟩ := hCB.at_ hjn
     have hm := hCB.mem hjn
     have hlk := (hCB.lock _ hm).more hwz
     have htk : qs.take (j + 1) = qs.take j ++ [qs.getD j noC] := take_next noC (by have := HLn.out; omega)
     generalize qs.getD j noC = r at *
     obtain ⟨b', of', eA, hbl', hck⟩ := HAt.out wr HB.out
     injection eA with eA
     injection eA with ea eb
     rw [← ea, ← eb] at hck
     have p33 : wr.cell? ⟨b2, o2 + j * 36 + 33, none⟩ = some (.int .i64 r.amt) := hrg 33 _ (encC_at r 1)
     have p34 : wr.cell? ⟨b2, o2 + j * 36 + 33 + 1, none⟩ = some (.slice r.lA r.ln r.lc) := hrg 34 _ (encC_at r 2)
     have HRl := aside (((HL.out l HMem.out).below HB.out).more hwz)
     have hsl : Sl (wr.drewN 1) (wr.drewN 1).heap.size 1 (some ⟨b, of + k, none⟩) 1 ([l].map lkV) := ⟨rfl, fun _ => ⟨b, of + k, rfl, by show b < wr.heap.size; omega, fun i u hu => by
      match i, hu with
      | 0, hu =>
       injection hu with hu
       rw [← hu]
       exact hck⟩⟩
     have HOw := aside (qowner_any [l] r.lk r.amt (some ⟨b, of + k, none⟩) r.lA 1 (c - k) r.ln r.lc (by decide) (wr.drewN 1) hsl (fun x hx => by obtain rfl := List.mem_singleton.1 hx; exact HRl.out.drewN 1) (fun x hx => by obtain rfl := List.mem_singleton.1 hx; exact HDl.out) (hlk.drewN 1))
     have hbz1 : b < wr.heap.size := by omega
     have hbz2 : b2 < wr.heap.size := by omega
     have hdec : (ownF ([l].map lkP) 0 (r.lk.map ROp.pl) == 0) = decide (lkP l = r.pl) := own_one2 (lkP l) r.pl
     generalize ownF ([l].map lkP) 0 (r.lk.map ROp.pl) = z at HOw hdec
     have HRo := aside (range_out hrg)
     have HTk := aside htk
     have HDec := aside hdec
     have sb0 : (0 : Int) ≤ (k : Int) := by omega
     have sb1 : (0 : Int) ≤ (k : Int) + 1 := by omega
     have sb2 : (k : Int) + 1 ≤ (c : Int) := by omega
     have sb3 : (c = k) = False := by simp only [eq_iff_iff, iff_false]; omega
     subst hAe2
     have HS0 : wr.drew.cell? ⟨b2, o2 + j * 36 + 33, none⟩ = some (.int .i64 r.amt) ∧ wr.drew.cell? ⟨b2, o2 + j * 36 + 33 + 1, none⟩ = some (.slice r.lA r.ln r.lc) := ⟨p33, p34⟩
     clear hsl hrg hm hlk hCB htk hck hbl' ea eb hdec hjn
     go_wp2_with fail
     refine wp_region_held_drew (S := (fun w' => Below wr.heap.size wr w')) (by kernel_rfl) (below_drawn (Below.refl _ _) 1) (fun hS => ?_)
     refine tkH (i := 0) (v := ?_) rfl (by kernel_rfl) (fun _ _ _ h => h) (Or.inl ⟨by rfl, ?_⟩) hS ?_
     rotate_left
     ·(intro W hSw; (try dsimp only at hSw); go_simp; try with_reducible rfl)
     (repeat (first | simp only [q1] | simp only [q2] | simp only [q3] | simp only [Act.put] | simp only [q4] | simp only [q5] | simp only [q6]))
     refine tkH (i := 1) (v := ?_) rfl (by kernel_rfl) (fun _ _ _ h => h) (Or.inl ⟨by rfl, ?_⟩) hS ?_
     rotate_left
     ·(intro W hSw; (try dsimp only at hSw); go_simp; try with_reducible rfl)
     (repeat (first | simp only [q1] | simp only [q2] | simp only [q3] | simp only [Act.put] | simp only [q4] | simp only [q5] | simp only [q6]))
     refine tkH (i := 2) (v := ?_) rfl (by kernel_rfl) (fun _ _ _ h => h) (Or.inl ⟨by rfl, ?_⟩) hS ?_
     rotate_left
     ·(intro W hSw; (try dsimp only at hSw); go_simp; try with_reducible rfl)
     (repeat (first | simp only [q1] | simp only [q2] | simp only [q3] | simp only [Act.put] | simp only [q4] | simp only [q5] | simp only [q6]))
     refine tkH (i := 3) (v := ?_) rfl (by kernel_rfl) (fun _ _ _ h => h) (Or.inl ⟨by rfl, ?_⟩) hS ?_
     rotate_left
     ·(intro W hSw; (try dsimp only at hSw); go_simp; try with_reducible rfl)
     (repeat (first | simp only [q1] | simp only [q2] | simp only [q3] | simp only [Act.put] | simp only [q4] | simp only [q5] | simp only [q6]))
     refine tkH (i := 4) (v := ?_) rfl (by kernel_rfl) (fun _ _ _ h => h) (Or.inl ⟨by rfl, ?_⟩) hS ?_
     rotate_left
     ·(intro W hSw; (try dsimp only at hSw); go_simp; try with_reducible rfl)
     (repeat (first | simp only [q1] | simp only [q2] | simp only [q3] | simp only [Act.put] | simp only [q4] | simp only [q5] | simp only [q6]))
     refine tkH (i := 5) (v := ?_) rfl (by kernel_rfl) (fun _ _ _ h => h) (Or.inl ⟨by rfl, ?_⟩) hS ?_
     rotate_left
     ·(intro W hSw; (try dsimp only at hSw); go_simp; try with_reducible rfl)
     (repeat (first | simp only [q1] | simp only [q2] | simp only [q3] | simp only [Act.put] | simp only [q4] | simp only [q5] | simp only [q6]))
     refine tkH (i := 6) (v := ?_) rfl (by kernel_rfl) (fun _ _ _ h => h) (Or.inl ⟨by rfl, ?_⟩) hS ?_
     rotate_left
     ·(intro W hSw; (try dsimp only at hSw); go_simp; try with_reducible rfl)
     (repeat (first | simp only [q1] | simp only [q2] | simp only [q3] | simp only [Act.put] | simp only [q4] | simp only [q5] | simp only [q6]))
     refine tkH (i := 7) (v := ?_) rfl (by kernel_rfl) (fun _ _ _ h => h) (Or.inl ⟨by rfl, ?_⟩) hS ?_
     rotate_left
     ·(intro W hSw; (try dsimp only at hSw); go_simp; try with_reducible rfl)
     (repeat (first | simp only [q1] | simp only [q2] | simp only [q3] | simp only [Act.put] | simp only [q4] | simp only [q5] | simp only [q6]))
     refine tkH (i := 8) (v := ?_) rfl (by kernel_rfl) (fun _ _ _ h => h) (Or.inl ⟨by rfl, ?_⟩) hS ?_
     rotate_left
     ·(intro W hSw; (try dsimp only at hSw); go_simp; try with_reducible rfl)
     (repeat (first | simp only [q1] | simp only [q2] | simp only [q3] | simp only [Act.put] | simp only [q4] | simp only [q5] | simp only [q6]))
     refine tkH (i := 9) (v := _) rfl (by kernel_rfl) (fun _ _ _ h => h) (yieldsIf_load_mid (by rfl) _ _ rfl b2 (o2 + j * 36 + 33) rfl [.int .i64 r.amt, .slice r.lA r.ln r.lc] _ (fun W hW => range_below HRo.out hW hbz2) Tryz.underlying27 rfl outInfo) hS ?_
     (repeat (first | simp only [q1] | simp only [q2] | simp only [q3] | simp only [Act.put] | simp only [q4] | simp only [q5] | simp only [q6]))
     refine oneL (i := 10) (by kernel_rfl) rfl ?_
     (repeat (first | simp only [q1] | simp only [q2] | simp only [q3]))
     go_wp2_with (first
      | (go_at_call 24; refine HOw.out.mono ?_; rintro e w3 ⟨rfl, hb3⟩; have hS3 : Below wr.heap.size wr w3 := ((below_drawn (Below.refl wr.heap.size wr) 1).trans hb3); have HS3 := aside hS3; clear hb3 hS3)
      | fail)
     change _ ∧ _
     refine ⟨HS3.out, ?_⟩
     (try dsimp only)
     (repeat (first | simp only [q1] | simp only [q2] | simp only [q3] | simp only [Act.put] | simp only [q4] | simp only [q5] | simp only [q6]))
     refine tkH (i := 11) (v := ?_) rfl (by kernel_rfl) (fun _ _ _ h => h) (Or.inl ⟨by rfl, ?_⟩) HS3.out ?_
     rotate_left
     ·(intro W hSw; (try dsimp only at hSw); go_simp; try with_reducible rfl)
     (repeat (first | simp only [q1] | simp only [q2] | simp only [q3] | simp only [Act.put] | simp only [q4] | simp only [q5] | simp only [q6]))
     refine wpAnyH_done (by kernel_rfl) ?_ _
     have HB3 : Hid (Below w.heap.size w w3) := aside (HB.out.trans (HS3.out.mono hwz))
     rw [HDec.out]
     clear HOw HS3 p33 p34 HS0 HRo HRl HDec
     by_cases hlr : lkP l = r.pl
     ·rw [decide_eq_true hlr]
      have HV2 : Hid (true = hadL (qs.take (j + 1)) (lkP l)) := aside (by
       rw [HTk.out]
       unfold hadL
       symm
       rw [decide_eq_true_iff]
       exact ⟨r, by simp, hlr.symm⟩)
      clear hlr HTk
      go_wp2
      exact ⟨⟨j + 1, true, by omega, by go_num, rfl, HV2, HB3⟩, by simp [Go.RowKit.intOf]; omega⟩
     ·rw [decide_eq_false hlr]
      have HV2 : Hid (V = hadL (qs.take (j + 1)) (lkP l)) := aside (by
       rw [HTk.out, HV.out]
       unfold hadL
       rw [decide_eq_decide]
       constructor
       ·rintro ⟨x, hx, e⟩
        exact ⟨x, List.mem_append_left _ hx, e⟩
       ·rintro ⟨x, hx, e⟩
        rcases List.mem_append.1 hx with hx | hx
        ·exact ⟨x, hx, e⟩
        ·obtain rfl := List.mem_singleton.1 hx
         exact absurd e.symm hlr)
      clear hlr HTk
      go_wp2
      exact ⟨⟨j + 1, V, by omega, by go_num, rfl, HV2, HB3⟩, by simp [Go.RowKit.intOf]; omega⟩
    ·obtain rfl : n = j := by omega
     have i0 : ((n : Int) < (n : Int)) = False := by simp
     rw [List.take_of_length_le (Nat.le_of_eq HLn.out)] at HV
     obtain ⟨b', of', eA, -, hck⟩ := HAt.out wr HB.out
     injection eA with eA
     injection eA with ea eb
     rw [← ea, ← eb] at hck
     clear hjn ea eb
     cases V with
     | true =>
      have HR2 : Hid (R = frI qs ((ls.drop (k + 1)).map lkP) (k + 1)) := aside (HRn.out.trans (if_pos HV.out.symm))
      clear hck
      go_wp2
      exact ⟨⟨k + 1, by omega, by go_num, HB, HR2⟩, by simp [Go.RowKit.intOf]; omega⟩
     | false =>
      have hRk : R = k := HRn.out.trans (if_neg (by rw [← HV.out]; simp))
      have HRl : Hid ((ls.getD R (none, [])).1 = l.1) := aside (by rw [hRk, ← HLe.out])
      clear hRk
      go_wp2
      go_ret
      have hRl := HRl.out
      rw [List.getD_eq_getElem?_getD] at hRl
      exact ⟨by rw [hRl] <;> rfl, HB.out⟩
  ·obtain rfl : N = k := by omega
   have i0 : ((N : Int) < (N : Int)) = False := by simp
   have n0 : (0 : Int) < (N : Int) := by omega
   have hR0 : R = 0 := by
    rw [HR.out, List.drop_of_length_le (by have := HLl.out; omega)]
    rfl
   obtain ⟨b, of, hAe, hbl, hck0⟩ := (Sl.below H.out HB.out).cells (by omega)
   have hck := hck0 0 (lkV (ls.getD 0 (none, []))) (by
    rw [List.getElem?_map, List.getD_eq_getElem?_getD, List.getElem?_eq_getElem (by have := HLl.out; omega)]
    rfl)
   unfold lkV at hck
   rw [Nat.add_zero] at hck
   subst hR0 hAe
   clear hkn hck0 HR
   go_wp2
   go_ret
   exact ⟨rfl, HB.out⟩
end Go.Proofs.YtbpabjhcjffkmaaGreatDoor
