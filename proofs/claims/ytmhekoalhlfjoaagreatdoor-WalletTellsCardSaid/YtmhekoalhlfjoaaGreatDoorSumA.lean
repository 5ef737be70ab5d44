/- money.Sum, coin.Sum: the walks. Conditions: named in each theorem. -/
import Derived.Test.YtmhekoalhlfjoaaGreatDoorDelC
namespace Go.Proofs.YtmhekoalhlfjoaaGreatDoor
open Go.RowKit Go.ChangeShapes Go.WideShapes Go.ChangeAt

/-- Numbers together, and what is wrong with them. -/
def addN : List Int → Int → Int × Int
  | [], s => (s, 0)
  | n :: r, s => if moneyE n ≠ 0 then (0, moneyE n) else if 1125899906842624 < s + n then (0, 4) else addN r (s + n)
theorem moneyE_zero {n : Int} (h : moneyE n = 0) : 0 ≤ n ∧ n ≤ 1125899906842624 := by
  unfold moneyE at h
  split at h
  · omega
  · omega
set_option maxHeartbeats 20000000 in
set_option maxRecDepth 100000 in
theorem msum_any (zs : List Int) (A : Option Addr) (n c : Nat) (w : World) (h : ISl w w.heap.size A n zs) (hn : n ≤ 1000) :
    Calls Tryz.prog 76 #[.slice A n c] w (fun e w' => e = .returned (.tuple #[.int .i64 (addN zs 0).1, errP (addN zs 0).2]) ∧ Below w.heap.size w w') := by
  have hl := h.len
  obtain ⟨R, hR⟩ : ∃ R, R = addN zs 0 := ⟨_, rfl⟩
  rw [← hR]
  have HR0 : Hid (R = addN (zs.drop 0) ((0 : Nat) : Int)) := aside hR
  have H := aside h
  have HL := aside hl
  clear h hl hR
  go_enter Tryz.func76, Tryz.ntmps76
  go_wp2_with fail
  go_loopw [4, 10] (fun v4 v10 wr => ∃ k s : Nat, k ≤ n ∧ s ≤ 1125899906842624 ∧ v10 = .int .i64 k ∧ v4 = .int .i64 s ∧ wr = w ∧ Hid (R = addN (zs.drop k) s)) (fun _ v10 _ => n - (Go.RowKit.intOf v10).toNat)
  case atStart => exact ⟨0, 0, Nat.zero_le _, Nat.zero_le _, rfl, rfl, rfl, HR0⟩
  case round =>
    clear HR0
    obtain ⟨k, s, hk, hs, rfl, rfl, hwr, HR⟩ := hrel
    subst hwr
    by_cases hkn : k < n
    · have k0 : (k : Int) < (n : Int) := by omega
      obtain ⟨b, off, e, hb, hc⟩ := H.out.at_ hkn
      have hdr : zs.drop k = nth zs k :: zs.drop (k + 1) := by
        rw [nth_get (by have := HL.out; omega)]
        exact List.drop_eq_getElem_cons (by have := HL.out; omega)
      have hq := HR.out
      rw [hdr] at hq
      generalize nth zs k = a at *
      have hq2 : R = if moneyE a ≠ 0 then (0, moneyE a) else if 1125899906842624 < (s : Int) + a then (0, 4) else addN (zs.drop (k + 1)) (s + a) := hq
      have HQ := aside hq2
      have HM := aside (money_any a)
      have hz := moneyE_zero (n := a)
      generalize moneyE a = q at HQ HM hz
      subst e
      have HZ := aside hz
      clear hq hq2 hdr hkn hz
      go_wp2_with fail
      refine (HM.out _).mono ?_
      rintro e w3 ⟨rfl, hw3⟩
      rw [hw3]
      clear hw3 w3
      by_cases hq0 : q = 0
      · subst hq0
        rw [show errP 0 = Value.nilIface from rfl]
        obtain ⟨ha0, ha1⟩ := HZ.out rfl
        obtain ⟨a', rfl⟩ := Int.eq_ofNat_of_zero_le ha0
        by_cases hbig : 1125899906842624 < (s : Int) + (a' : Int)
        · have hR : R = (0, 4) := HQ.out.trans (by rw [if_neg (by simp), if_pos hbig])
          subst hR
          have hw : IntKind.i64.wrap ((s : Int) + (a' : Int)) = (s : Int) + (a' : Int) := by rw [IntKind.wrap_i64]; omega
          go_wp2
          go_ret2
          exact ⟨rfl, Below.refl _ _⟩
        · have hb2 : (s : Int) + (a' : Int) ≤ 1125899906842624 := by omega
          have HR2 : Hid (R = addN (zs.drop (k + 1)) ((s + a' : Nat) : Int)) := aside (HQ.out.trans (by rw [if_neg (by simp), if_neg hbig, Int.natCast_add]))
          clear hbig
          have hw : IntKind.i64.wrap ((s : Int) + (a' : Int)) = (s : Int) + (a' : Int) := by rw [IntKind.wrap_i64]; omega
          go_wp2
          exact ⟨⟨k + 1, s + a', by omega, by omega, by go_num, by simp, trivial, HR2⟩, by simp [Go.RowKit.intOf]; omega⟩
      · have hR : R = (0, q) := HQ.out.trans (if_pos hq0)
        subst hR
        rw [errP_no hq0]
        have HE := aside (errP_no hq0)
        clear hq0 HQ HZ
        go_wp2
        go_ret2
        exact ⟨by rw [HE.out] <;> rfl, Below.refl _ _⟩
    · obtain rfl : n = k := by omega
      have i0 : ((n : Int) < (n : Int)) = False := by simp
      have hR : R = ((s : Int), 0) := by
        rw [HR.out, List.drop_of_length_le (by have := HL.out; omega)]
        rfl
      subst hR
      clear hkn HR
      go_wp2
      go_ret2
      exact ⟨rfl, Below.refl _ _⟩
/-- What coins are together, and what is wrong with them. -/
def csumQ (cs : List RCoin) : Int × Int := if setQ cs ≠ 0 then (0, setQ cs) else addN (cs.map (·.amt)) 0
set_option maxHeartbeats 20000000 in
set_option maxRecDepth 100000 in
theorem total_any (cs : List RCoin) (A : Option Addr) (n c : Nat) (w : World) (h : CSl w w.heap.size A n cs) (hn : n ≤ 1000) :
    Calls Tryz.prog 53 #[.slice A n c] w (fun e w' => e = .returned (.tuple #[.int .i64 (addN (cs.map (·.amt)) 0).1, errP (addN (cs.map (·.amt)) 0).2]) ∧ Below w.heap.size w w') := by
  have hl := h.len
  obtain ⟨R, hR⟩ : ∃ R, R = addN (cs.map (·.amt)) 0 := ⟨_, rfl⟩
  rw [← hR]
  have HR := aside hR
  clear hR
  have HL := aside hl
  have H := aside h
  have HB0 := aside (Below.refl w.heap.size w)
  have HO0 : Hid (IRow w w.heap.size (.slice none 0 0) ((cs.take 0).map (·.amt))) := aside ⟨by simp, .inl ⟨rfl, by simp⟩⟩
  clear hl h
  go_enter Tryz.func53, Tryz.ntmps53
  go_wp2_with fail
  go_loopw [4, 9] (fun v4 v9 wr => ∃ (k : Nat) (A1 : Option Addr) (c1 : Nat), k ≤ n ∧ v9 = .int .i64 k ∧ v4 = .slice A1 k c1 ∧ Hid (IRow wr w.heap.size (.slice A1 k c1) ((cs.take k).map (·.amt))) ∧ Hid (Below w.heap.size w wr)) (fun _ v9 _ => n - (Go.RowKit.intOf v9).toNat)
  case atStart => exact ⟨0, none, 0, Nat.zero_le _, rfl, rfl, HO0, HB0⟩
  case round =>
    clear HB0 HO0
    obtain ⟨k, A1, c1, hk, rfl, rfl, HO, HB⟩ := hrel
    by_cases hkn : k < n
    · have k0 : (k : Int) < (n : Int) := by omega
      have hwz := HB.out.size
      have hCB := H.out.below HB.out
      obtain ⟨b, of, hAe, hb1, hrg⟩ := hCB.at_ hkn
      have hnx : (cs.take (k + 1)).map (·.amt) = (cs.take k).map (·.amt) ++ [(cs.getD k noC).amt] := by
        rw [take_next noC (by have := HL.out; omega), List.map_append]
        rfl
      have hlk : ((cs.take k).map (·.amt)).length = k := by
        rw [List.length_map, List.length_take]
        have := HL.out
        omega
      generalize cs.getD k noC = r at *
      have HRg := aside hrg
      have HNx := aside hnx
      have HLk := aside hlk
      have HS9 : Hid ((Tryz.prog.info? 61).map (·.size) = some (encC r).toArray.size) := aside (by simp only [List.size_toArray, encC_len]; kernel_rfl)
      have HS8 : Hid ((encC noC).toArray.size = (encC r).toArray.size) := aside (by simp only [List.size_toArray, encC_len])
      have HO1 : Hid ((encC r).toArray.all (·.oneCell') = true) := aside (all_oneCell_toArray (encC_one r))
      have DX : Hid ((wr.alloc (.cells (encC noC).toArray 61)).heap[wr.heap.size]? = some (.cells (encC noC).toArray 61 (0, 0))) := aside (heap_alloc_new _ _)
      have HS1 : Hid ((Tryz.prog.info? 61).map (·.size) = some (encC r).length) := aside (by rw [encC_len]; kernel_rfl)
      subst hAe
      clear hrg hnx hCB hkn hlk
      go_upto_region 5 with (first
        | (refine wpList_load_mid rfl 61 (.tmp 11) rfl b (of + k * 36) rfl (encC r) _ HRg.out Tryz.underlying61 rfl HS1.out ?_)
        | (refine wpList_store_row rfl 61 (.tmp 6) (.tmp 12) rfl wr.heap.size (encC r).toArray rfl rfl 61 (encC noC).toArray DX.out HS9.out HS8.out HO1.out ?_)
        | fail)
      have HB2 : Hid (Below wr.heap.size wr ((wr.alloc (.cells (encC noC).toArray 61)).setRow wr.heap.size (encC r).toArray)) := aside (below_setRow ((Below.refl _ _).alloc (Nat.le_refl _) _) _ (Nat.le_refl _) _)
      have DX2 : Hid (((wr.alloc (.cells (encC noC).toArray 61)).setRow wr.heap.size (encC r).toArray).heap[wr.heap.size]? = some (.cells (encC r).toArray 61 (0, 0))) := aside (setRow_heap _ _ _ _ _ _ DX.out)
      change Code.wp _ _ _ _ ((wr.alloc (.cells (encC noC).toArray 61)).setRow wr.heap.size (encC r).toArray)
      generalize ((wr.alloc (.cells (encC noC).toArray 61)).setRow wr.heap.size (encC r).toArray) = w2 at HB2 DX2 ⊢
      obtain ⟨bx, hbx⟩ : ∃ bx, bx = wr.heap.size := ⟨_, rfl⟩
      rw [← hbx] at DX2 ⊢
      have x1 : w2.cell? ⟨bx, 33, none⟩ = some (.int .i64 r.amt) := by rw [cell_of_row _ _ 33 _ _ _ DX2.out, List.getElem?_toArray]; exact encC_at r 1
      have HO2 : Hid (w2.ownsRow w.heap.size 3 1 (.slice A1 k c1) k (((cs.take k).map (·.amt)).map (Value.int .i64))) := aside (by
        have h1 := own_below HO.out HB2.out
        rwa [HLk.out] at h1)
      have hz2 : w.heap.size ≤ w2.heap.size := Nat.le_trans hwz HB2.out.size
      have HBw2 : Hid (Below w.heap.size w w2) := aside (HB.out.trans (HB2.out.mono hwz))
      clear hbx DX HS8 HS1 HO HB2 HRg HS9 HO1 HB DX2
      go_wp2_with (first
        | (at_builtin; refine wpList_push rfl (.tmp 13) (.tmp 17) 57 rfl w.heap.size _ 1 8 Tryz.underlying57 intInfo rfl (by decide) (.slice A1 k c1) k _ rfl rfl rfl rfl HO2.out (by omega) (by unfold maxLen; omega) hz2 ?_; intro A3 c3 w5 hc3 hc3' hown3 hb5 hz5 hg5)
        | fail)
      have HO5 : Hid (IRow w5 w.heap.size (.slice A3 (k + 1) c3) ((cs.take (k + 1)).map (·.amt))) := aside (by
        rw [HNx.out]
        exact IRow.push (by rw [HLk.out]) hown3)
      exact ⟨⟨k + 1, A3, c3, by omega, by go_num, rfl, HO5, aside (HBw2.out.trans hb5)⟩, by simp [Go.RowKit.intOf]; omega⟩
    · obtain rfl : n = k := by omega
      have i0 : ((n : Int) < (n : Int)) = False := by simp
      have htk : cs.take n = cs := List.take_of_length_le (by have := HL.out; omega)
      rw [htk] at HO
      have hlm : (cs.map (·.amt)).length = n := by rw [List.length_map]; exact HL.out
      obtain ⟨A9, n9, c9, e9, hs9, -, -⟩ := IRow.out HO.out
      injection e9 with e1 e2 e3
      subst e1 e2 e3
      have HM := aside (msum_any (cs.map (·.amt)) A1 n c1 wr hs9 hn)
      rw [← HR.out] at HM
      clear hkn hs9 hlm htk
      go_wp2_with fail
      refine HM.out.mono ?_
      rintro e w3 ⟨rfl, hb3⟩
      have HB3 := aside (HB.out.trans (hb3.mono HB.out.size))
      clear hb3
      go_wp2
      go_ret2
      exact ⟨rfl, HB3.out⟩
set_option maxHeartbeats 20000000 in
set_option maxRecDepth 100000 in
theorem csum_any (cs : List RCoin) (A : Option Addr) (n c : Nat) (w : World) (h : CSl w w.heap.size A n cs) :
    Calls Tryz.prog 28 #[.slice A n c] w (fun e w' => e = .returned (.tuple #[.int .i64 (csumQ cs).1, errP (csumQ cs).2]) ∧ Below w.heap.size w w') := by
  have HC := aside (check_any cs A n c w h)
  have hl := h.len
  have hsmall : setQ cs = 0 → n ≤ 1000 := fun h0 => by
    unfold setQ at h0
    rw [hl] at h0
    split at h0
    · omega
    · omega
  have HSm := aside hsmall
  have HT := aside (fun w2 h2 h3 => total_any cs A n c w2 h2 h3)
  have H := aside h
  have HQ : Hid (csumQ cs = if setQ cs ≠ 0 then (0, setQ cs) else addN (cs.map (·.amt)) 0) := aside rfl
  generalize setQ cs = q at HC HSm HQ
  generalize addN (cs.map (·.amt)) 0 = R at HT HQ
  generalize csumQ cs = R2 at HQ ⊢
  clear h hl hsmall
  go_enter Tryz.func28, Tryz.ntmps28
  go_wp2_with fail
  refine HC.out.mono ?_
  rintro e w2 ⟨rfl, hb2⟩
  have HB2 := aside hb2
  have H2 := aside (H.out.step hb2)
  clear hb2
  by_cases hq : q = 0
  · subst hq
    rw [show errP 0 = Value.nilIface from rfl]
    have hR : R2 = R := HQ.out.trans (if_neg (by simp))
    subst hR
    go_wp2_with fail
    refine (HT.out w2 H2.out (HSm.out (by trivial))).mono ?_
    rintro e w3 ⟨rfl, hb3⟩
    have HB3 := aside (HB2.out.trans (hb3.mono HB2.out.size))
    clear hb3
    go_wp2
    go_ret2
    exact ⟨rfl, HB3.out⟩
  · have hR : R2 = (0, q) := HQ.out.trans (if_pos hq)
    subst hR
    rw [errP_no hq]
    have HE := aside (errP_no hq)
    clear hq HQ HSm
    go_wp2
    go_ret2
    exact ⟨by rw [HE.out] <;> rfl, HB2.out⟩
end Go.Proofs.YtmhekoalhlfjoaaGreatDoor
