/- wallet.checked, wallet.Balance: the walks. Conditions: named in each theorem. -/
import Derived.Test.YtmhekoalhlfjoaaGreatDoorBalL
namespace Go.Proofs.YtmhekoalhlfjoaaGreatDoor
open Go.RowKit Go.ChangeShapes Go.WideShapes Go.ChangeAt

def chQ (n : Int) (cs : List RCoin) : Int := if n < 1 ∨ 100 < n then 2 else setQ cs
set_option maxHeartbeats 20000000 in
set_option maxRecDepth 100000 in
theorem checked_any (n : Int) (cs : List RCoin) (A : Option Addr) (m c : Nat) (w : World) (h : CSl w w.heap.size A m cs) :
    Calls Tryz.prog 27 #[.int .i64 n, .slice A m c] w (fun e w' => e = .returned (errP (chQ n cs)) ∧ Below w.heap.size w w') := by
  have HC := aside (check_any cs A m c w h)
  obtain ⟨Q, hQ⟩ : ∃ Q, Q = chQ n cs := ⟨_, rfl⟩
  rw [← hQ]
  unfold chQ at hQ
  clear h
  by_cases h1 : n < 1
  · obtain rfl : Q = 2 := hQ.trans (if_pos (.inl h1))
    clear hQ
    go_enter Tryz.func27, Tryz.ntmps27
    go_wp2
    go_ret
    exact ⟨rfl, Below.refl _ _⟩
  have h1' : 1 ≤ n := by omega
  by_cases h2 : 100 < n
  · obtain rfl : Q = 2 := hQ.trans (if_pos (.inr h2))
    clear hQ h1
    go_enter Tryz.func27, Tryz.ntmps27
    go_wp2
    go_ret
    exact ⟨rfl, Below.refl _ _⟩
  have h2' : n ≤ 100 := by omega
  obtain rfl : Q = setQ cs := hQ.trans (if_neg (by omega))
  clear hQ h1 h2
  generalize setQ cs = q at HC ⊢
  go_enter Tryz.func27, Tryz.ntmps27
  go_wp2_with fail
  refine HC.out.mono ?_
  rintro e w3 ⟨rfl, hb3⟩
  have HB3 := aside hb3
  clear hb3
  go_wp2
  go_ret
  exact ⟨rfl, HB3.out⟩
set_option maxHeartbeats 20000000 in
set_option maxRecDepth 100000 in
theorem balance_any (d : List Nat) (hd : d.length = 32) (hb : ∀ x ∈ d, x < 256) (n : Int) (cs : List RCoin) (A : Option Addr) (m c : Nat) (w : World) (h : CSl w w.heap.size A m cs) (hg : RoundsAt w) :
    Calls Tryz.prog 14 #[digV d, .int .i64 n, .slice A m c] w (fun e w' => e = .returned (.tuple #[.int .i64 (balQ d n cs).1, errP (balQ d n cs).2]) ∧ Below w.heap.size w w') := by
  obtain ⟨R, hR⟩ : ∃ R, R = balQ d n cs := ⟨_, rfl⟩
  rw [← hR]
  have HR : Hid (R = if chQ n cs ≠ 0 then (0, chQ n cs) else csumQ (cs.filter (keepC ((List.range n.toNat).map (lockL d))))) := aside hR
  have B1 : Hid (Below w.heap.size w (w.alloc (.cells (rowY d) 23))) := aside ((Below.refl _ _).alloc (Nat.le_refl _) _)
  have D0 : Hid (BlkY (w.alloc (.cells (rowY d) 23)) w.heap.size 23 d) := aside (BlkY.new w _ _)
  have HDl := aside hd
  have HDb := aside hb
  have HG := aside hg
  have H := aside h
  have HS7 := aside (zinfo d hd)
  clear hR hd hb hg h
  unfold digV
  go_enter Tryz.func14, Tryz.ntmps14
  go_upto_region 1 with fail
  change Code.wp _ _ _ _ (w.alloc (.cells (rowY d) 23))
  generalize (w.alloc (.cells (rowY d) 23)) = w1 at B1 D0 ⊢
  obtain ⟨B0, hB0⟩ : ∃ B0, B0 = w.heap.size := ⟨_, rfl⟩
  have EB := aside hB0
  simp only [← hB0] at D0 ⊢
  clear hB0
  have l0 := D0.out.lt
  have HC := aside (checked_any n cs A m c w1 (H.out.step B1.out))
  obtain ⟨q, hq⟩ : ∃ q, q = chQ n cs := ⟨_, rfl⟩
  have HQ := aside hq
  rw [← hq] at HC HR
  clear hq
  go_wp2_with fail
  refine HC.out.mono ?_
  rintro e w2 ⟨rfl, hb2⟩
  have D2 : Hid (BlkY w2 B0 23 d) := aside (D0.out.below hb2 l0)
  have HB2 : Hid (Below w.heap.size w w2) := aside (B1.out.trans (hb2.mono B1.out.size))
  clear hb2 HC D0 B1 l0
  by_cases hq : q = 0
  · subst hq
    rw [show errP 0 = Value.nilIface from rfl]
    have hR2 : R = csumQ (cs.filter (keepC ((List.range n.toNat).map (lockL d)))) := HR.out.trans (if_neg (by simp))
    have hn : 1 ≤ n ∧ n ≤ 100 ∧ setQ cs = 0 := by
      have := HQ.out
      unfold chQ at this
      split at this
      · omega
      · exact ⟨by omega, by omega, this.symm⟩
    obtain ⟨hm, hk⟩ := set_small H.out hn.2.2
    have hn100 : n ≤ 100 := hn.2.1
    have HK := aside hk
    have HR2 := aside hR2
    clear hn hk hR2 HR HQ
    go_wp2_with (first
      | (refine wpList_load_row rfl 23 (.tmp 3) rfl B0 rfl 23 (rowY d) (0, 0) _ D2.out Tryz.underlying23 rfl HS7.out ?_)
      | fail)
    refine (show Calls _ _ #[digV d, _] _ _ from locks_any d HDl.out HDb.out n hn100 w2 (HG.out.below HB2.out)).mono ?_
    rintro e w3 ⟨A3, c3, ls, rfl, hsl, hrs, hlp, hb3⟩
    have HSl := aside hsl
    have HRs := aside hrs
    have HLp := aside hlp
    have HB3 : Hid (Below w.heap.size w w3) := aside (HB2.out.trans (hb3.mono HB2.out.size))
    clear hsl hrs hlp hb3 D2 HB2
    go_wp2_with fail
    refine (own_any ls cs A3 A n.toNat c3 m c (by omega) hm w3 HSl.out HRs.out (H.out.step HB3.out) HK.out).mono ?_
    rintro e w4 ⟨A4, m4, c4, qs, hm4, rfl, hcs, hkey, hb4⟩
    have HC4 := aside hcs
    have HKy := aside hkey
    have HB4 : Hid (Below w.heap.size w w4) := aside (HB3.out.trans (hb4.mono HB3.out.size))
    clear hcs hkey hb4 HSl HRs HB3
    have HSm := aside (csum_any qs A4 m4 c4 w4 HC4.out)
    have hRq : R = csumQ qs := by
      rw [HR2.out, ← HLp.out]
      exact (csum_key HKy.out).symm
    rw [← hRq] at HSm
    clear hRq HKy
    go_wp2_with fail
    refine HSm.out.mono ?_
    rintro e w5 ⟨rfl, hb5⟩
    have HB5 : Hid (Below w.heap.size w w5) := aside (HB4.out.trans (hb5.mono HB4.out.size))
    clear hb5 HSm HC4 HB4
    go_wp2
    go_ret2
    exact ⟨rfl, HB5.out⟩
  · have hR : R = (0, q) := HR.out.trans (if_pos hq)
    subst hR
    rw [errP_no hq]
    have HE := aside (errP_no hq)
    clear hq HR HQ
    go_wp2
    go_ret2
    exact ⟨by rw [HE.out] <;> rfl, HB2.out⟩
end Go.Proofs.YtmhekoalhlfjoaaGreatDoor
