/- The reference: Greatest. Conditions: named in each theorem. -/
import Derived.Test.YtgickjghfndaaaaDoorPickV
import Derived.Test.YtgickjghfndaaaaDoorPickU
namespace Go.Proofs.YtgickjghfndaaaaDoor
open Go.RowKit Go.ChangeShapes Go.WideShapes Go.ChangeAt

set_option maxHeartbeats 20000000 in
set_option maxRecDepth 100000 in
theorem greatest_any (ns : List Int) (A : Option Addr) (n c : Nat) (hn : n ≤ 30) (w : World) (h : ISl w w.heap.size A n ns) (o : List Int) (hp : o.Perm (rangeZ n)) (hs : o.Pairwise (LtG (atZ ns))) :
    Calls Tryd.prog 10 #[.slice A n c] w (fun e w' => ∃ A' c', e = .returned (.slice A' n c') ∧ OwnZ w' w.heap.size (.slice A' n c') n o ∧ Below w.heap.size w w') := by
  have HP := aside hp
  have HS := aside hs
  have H := aside h
  have HLo : Hid (o.length = n) := aside (by rw [hp.length_eq, rangeZ_len])
  have HO : Hid (OwnZ w w.heap.size (.slice none 0 0) 0 (o.take 0)) := aside (ownZ_nil _ _)
  have HB := aside (Below.refl w.heap.size w)
  clear hp hs h
  go_enter Tryd.func10, Tryd.ntmps10
  go_wp2
  go_loopw [3, 4] (fun v3 v4 wr => ∃ (k : Nat) (A1 : Option Addr) (c1 : Nat), k ≤ n ∧ v4 = .int .i64 k ∧ v3 = .slice A1 k c1 ∧ Hid (OwnZ wr w.heap.size (.slice A1 k c1) k (o.take k)) ∧ Hid (Below w.heap.size w wr)) (fun _ v4 _ => n - (Go.RowKit.intOf v4).toNat)
  case atStart => exact ⟨0, none, 0, Nat.zero_le _, rfl, rfl, HO, HB⟩
  case round =>
    clear HO HB
    obtain ⟨k, A1, c1, hk, rfl, rfl, HO, HB⟩ := hrel
    by_cases hkn : k < n
    · have k0 : (k : Int) < (n : Int) := by omega
      have HLk : Hid ((o.take k).length = k) := aside (by rw [List.length_take]; have := HLo.out; omega)
      have HO0 : Hid (OwnZ wr w.heap.size (.slice A1 (roundZ o k 0).length c1) (roundZ o k 0).length (roundZ o k 0)) := aside (by rw [round_start HP.out hkn, HLk.out]; exact HO.out)
      have HL0 : Hid ((roundZ o k 0).length = k) := aside (by rw [round_start HP.out hkn, HLk.out])
      have hl0 : (roundZ o k 0).length ≤ k + 1 := by rw [HL0.out]; omega
      have hv3 : Value.slice A1 k c1 = .slice A1 (roundZ o k 0).length c1 := by rw [HL0.out]
      go_wp2_with fail
      go_loopw [3, 5] (fun v3 v5 wx => ∃ (i : Nat) (L : List Int) (A2 : Option Addr) (c2 : Nat), i ≤ n ∧ v5 = .int .i64 i ∧ v3 = .slice A2 L.length c2 ∧ L.length ≤ k + 1 ∧ Hid (L = roundZ o k i) ∧ Hid (OwnZ wx w.heap.size (.slice A2 L.length c2) L.length L) ∧ Hid (Below w.heap.size w wx)) (fun _ v5 _ => n - (Go.RowKit.intOf v5).toNat)
      case atStart => exact ⟨0, roundZ o k 0, A1, c1, Nat.zero_le _, rfl, hv3, hl0, aside rfl, HO0, HB⟩
      case round =>
        clear HO HB HLk HO0 HL0 hl0 hv3
        obtain ⟨i, L, A2, c2, hi, rfl, rfl, hll, HL, HO, HB⟩ := hrel
        by_cases hin : i < n
        · have i0 : (i : Int) < (n : Int) := by omega
          go_wp2_with fail
          go_loopw [6, 7] (fun v6 v7 wz => ∃ (j q a : Nat), j ≤ n ∧ v7 = .int .i64 j ∧ v6 = .int .i64 a ∧ a ≤ j ∧ wz = wr.drewN q ∧ Hid (a = aheadZ (atZ ns) i j)) (fun _ v7 _ => n - (Go.RowKit.intOf v7).toNat)
          case atStart => exact ⟨0, 0, 0, Nat.zero_le _, rfl, rfl, Nat.le_refl _, rfl, aside rfl⟩
          case round =>
            obtain ⟨j, q, a, hj, rfl, rfl, haj, hw, HA⟩ := hrel
            subst hw
            by_cases hjn : j < n
            · have j0 : (j : Int) < (n : Int) := by omega
              obtain ⟨b, of, hAe, hbl, ci⟩ := ISl.at_ (isl_below H.out HB.out) hin
              obtain ⟨b', of', hAe', hbl', cj⟩ := ISl.at_ (isl_below H.out HB.out) hjn
              rw [hAe] at hAe'
              injection hAe' with e
              injection e with e1 e2
              subst e1 e2
              have hlt : LtG (atZ ns) (j : Int) (i : Int) ↔ (nth ns i < nth ns j ∨ (nth ns j = nth ns i ∧ j < i)) := by
                unfold LtG atZ
                rw [Int.toNat_natCast, Int.toNat_natCast]
                omega
              have hst := ahead_succ (atZ ns) (i : Int) j
              rw [← HA.out] at hst
              have HYe : Hid ((nth ns i < nth ns j ∨ (nth ns j = nth ns i ∧ j < i)) → a + 1 = aheadZ (atZ ns) i (j + 1)) := aside (fun hh => by rw [hst, if_pos (hlt.2 hh)])
              have HNo : Hid (¬ (nth ns i < nth ns j ∨ (nth ns j = nth ns i ∧ j < i)) → a = aheadZ (atZ ns) i (j + 1)) := aside (fun hh => by rw [hst, if_neg (fun hx => hh (hlt.1 hx))]; rfl)
              generalize nth ns i = x at ci HYe HNo
              generalize nth ns j = y at cj HYe HNo
              subst hAe
              clear hlt hst hbl hbl' HA
              by_cases h1 : x < y
              · have HY := aside (HYe.out (.inl h1))
                clear HYe HNo
                go_wp2_with fail
                go_quiet (fail)
                go_wp2
                exact ⟨⟨j + 1, _, a + 1, by omega, by go_num, by go_num, by omega, rfl, HY⟩, by simp [Go.RowKit.intOf]; omega⟩
              · by_cases h2 : y = x
                · subst h2
                  have hee : (y == y) = true := by simp
                  by_cases h3 : j < i
                  · have h3z : (j : Int) < (i : Int) := by omega
                    have HY := aside (HYe.out (.inr ⟨rfl, h3⟩))
                    clear HYe HNo
                    go_wp2_with fail
                    go_quiet (fail)
                    go_wp2
                    exact ⟨⟨j + 1, _, a + 1, by omega, by go_num, by go_num, by omega, rfl, HY⟩, by simp [Go.RowKit.intOf]; omega⟩
                  · have h3z : ((j : Int) < (i : Int)) = False := by simp only [eq_iff_iff, iff_false]; omega
                    have HY := aside (HNo.out (by omega))
                    clear HYe HNo
                    go_wp2_with fail
                    go_quiet (fail)
                    go_wp2
                    exact ⟨⟨j + 1, _, a, by omega, by go_num, rfl, by omega, rfl, HY⟩, by simp [Go.RowKit.intOf]; omega⟩
                · have hee : (y == x) = false := by simp [h2]
                  have h1z : (x < y) = False := eq_false h1
                  have HY := aside (HNo.out (by omega))
                  clear HYe HNo h1
                  go_wp2_with fail
                  go_quiet (fail)
                  go_wp2
                  exact ⟨⟨j + 1, _, a, by omega, by go_num, rfl, by omega, rfl, HY⟩, by simp [Go.RowKit.intOf]; omega⟩
            · obtain rfl : n = j := by omega
              have j0 : ((n : Int) < (n : Int)) = False := by simp
              have HB2 : Hid (Below w.heap.size w (wr.drewN q)) := aside (below_drawn HB.out _)
              have HO2 : Hid (OwnZ (wr.drewN q) w.heap.size (.slice A2 L.length c2) L.length L) := aside (own_below HO.out (below_drawn (Below.refl _ _) _))
              have hbz := HB2.out.size
              have hrk := rank_iff HP.out HS.out hkn hin
              rw [← HA.out] at hrk
              generalize wr.drewN q = w2 at HB2 HO2 hbz
              clear HB HO HA
              by_cases hak : a = k
              · have hee : ((a : Int) == (k : Int)) = true := by simp [hak]
                have HL2 : Hid (L ++ [(i : Int)] = roundZ o k (i + 1)) := aside (by rw [round_yes (hrk.1 hak), HL.out])
                have hle : (L ++ [(i : Int)]).length ≤ k + 1 := by rw [HL2.out]; exact round_len _ _ _
                have hll2 : (L ++ [(i : Int)]).length = L.length + 1 := by simp
                clear hrk hak
                go_wp2_with (first
                  | (at_builtin; refine wpList_push rfl (.tmp 56) (.tmp 58) 22 rfl w.heap.size _ 1 8 Tryd.underlying22 infoZ rfl (by decide) (.slice A2 L.length c2) L.length _ rfl rfl rfl rfl HO2.out (by omega) (by unfold maxLen; omega) hbz ?_; intro A3 c3 w3 hc3 hc3' hown3 hb3 hz3' hg3)
                  | fail)
                have HO3 : Hid (OwnZ w3 w.heap.size (.slice A3 (L.length + 1) c3) (L.length + 1) (L ++ [(i : Int)])) := aside (by show w3.ownsRow _ _ _ _ _ _; rw [List.map_append]; exact hown3)
                have H3 := aside (HB2.out.trans hb3)
                clear hown3 hb3 hg3
                exact ⟨⟨i + 1, L ++ [(i : Int)], A3, c3, by omega, by go_num, by rw [hll2], hle, HL2, by rw [hll2]; exact HO3, H3⟩, by simp [Go.RowKit.intOf]; omega⟩
              · have hee : ((a : Int) == (k : Int)) = false := by simp; omega
                have HL2 : Hid (L = roundZ o k (i + 1)) := aside (by rw [round_no (fun e => hak (hrk.2 e)), HL.out])
                clear hrk hak
                go_wp2
                exact ⟨⟨i + 1, L, A2, c2, by omega, by go_num, rfl, hll, HL2, HO2, HB2⟩, by simp [Go.RowKit.intOf]; omega⟩
        · obtain rfl : n = i := by omega
          have i0 : ((n : Int) < (n : Int)) = False := by simp
          have hLk : L = o.take (k + 1) := by rw [HL.out, round_done HP.out hkn]
          have hLl : L.length = k + 1 := by rw [hLk, List.length_take]; have := HLo.out; omega
          have HO2 : Hid (OwnZ wr w.heap.size (.slice A2 (k + 1) c2) (k + 1) (o.take (k + 1))) := aside (by have := HO.out; rw [hLl, hLk] at this; exact this)
          have hv : Value.slice A2 L.length c2 = .slice A2 (k + 1) c2 := by rw [hLl]
          clear HL HO hLk hLl hin
          go_wp2
          exact ⟨⟨k + 1, A2, c2, by omega, by go_num, hv, HO2, HB⟩, by simp [Go.RowKit.intOf]; omega⟩
    · obtain rfl : n = k := by omega
      have i0 : ((n : Int) < (n : Int)) = False := by simp
      have HO2 : Hid (OwnZ wr w.heap.size (.slice A1 n c1) n o) := aside (by
        have h := HO.out
        rwa [show o.take n = o by rw [← HLo.out, List.take_length]] at h)
      clear HO hkn
      go_wp2
      go_ret
      exact ⟨A1, c1, rfl, HO2.out, HB.out⟩
end Go.Proofs.YtgickjghfndaaaaDoor
