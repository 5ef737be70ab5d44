/- The reference: Power, Chosen, Least. Conditions: named in each theorem. -/
import Derived.Test.YtgickjghfndaaaaDoorPickX
namespace Go.Proofs.YtgickjghfndaaaaDoor
open Go.RowKit Go.ChangeShapes Go.WideShapes Go.ChangeAt

theorem sub_sum {l m : List Int} (h : l.Sublist m) (h0 : ∀ x ∈ m, 0 ≤ x) : 0 ≤ l.sum ∧ l.sum ≤ m.sum := by
  induction h with
  | slnil => simp
  | cons a h ih =>
    have := ih fun x hx => h0 x (by simp [hx])
    have := h0 a (by simp)
    rw [List.sum_cons]
    omega
  | cons_cons a h ih =>
    have := ih fun x hx => h0 x (by simp [hx])
    have := h0 a (by simp)
    rw [List.sum_cons, List.sum_cons]
    omega
theorem one_ints (zs : List Int) : ∀ u ∈ zs.map (Value.int .i64), u.oneCell' = true := fun u hu => by
  obtain ⟨x, _, rfl⟩ := List.mem_map.1 hu
  rfl
theorem bit_one {C m : Nat} (i : Int) (h : C / 2 ^ m % 2 = 1) : chN (m + 1) i (C % 2 ^ (m + 1)) = i :: chN m (i + 1) (C % 2 ^ m) := by
  have e : C % 2 ^ (m + 1) = C % 2 ^ m + 2 ^ m := by rw [Nat.mod_pow_succ, h, Nat.mul_one]
  rw [e]
  show (if 2 ^ m ≤ C % 2 ^ m + 2 ^ m then i :: chN m (i + 1) (C % 2 ^ m + 2 ^ m - 2 ^ m) else chN m (i + 1) (C % 2 ^ m + 2 ^ m)) = _
  rw [if_pos (Nat.le_add_left _ _), Nat.add_sub_cancel]
theorem bit_no {C m : Nat} (i : Int) (h : C / 2 ^ m % 2 ≠ 1) : chN (m + 1) i (C % 2 ^ (m + 1)) = chN m (i + 1) (C % 2 ^ m) := by
  have h0 : C / 2 ^ m % 2 = 0 := by omega
  have e : C % 2 ^ (m + 1) = C % 2 ^ m := by rw [Nat.mod_pow_succ, h0, Nat.mul_zero, Nat.add_zero]
  have hl : C % 2 ^ m < 2 ^ m := Nat.mod_lt _ (Nat.two_pow_pos m)
  rw [e]
  show (if 2 ^ m ≤ C % 2 ^ m then i :: chN m (i + 1) (C % 2 ^ m - 2 ^ m) else chN m (i + 1) (C % 2 ^ m)) = _
  rw [if_neg (by omega)]
theorem half_next (C m : Nat) : C / 2 ^ m / 2 = C / 2 ^ (m + 1) := by rw [Nat.div_div_eq_div_mul, Nat.pow_succ]
/-- What choices so far are worth: the best of those from a number on. -/
def LInv (g : Int → Int) (n : Nat) (want : Int) (k : Nat) (had : Bool) (L : List Int) : Prop :=
  (had = false ∧ L = [] ∧ ∀ c, k ≤ c → c < 2 ^ n → sumG g (chN n 0 c) < want) ∨
  (had = true ∧ ∃ c0, k ≤ c0 ∧ c0 < 2 ^ n ∧ L = chN n 0 c0 ∧ want ≤ sumG g (chN n 0 c0) ∧ ∀ c, k ≤ c → c < 2 ^ n → want ≤ sumG g (chN n 0 c) → Lex (sumG g (chN n 0 c0)) (chN n 0 c0).length (sumG g (chN n 0 c)) (chN n 0 c).length ∧ (c0 < c → ¬ Lex (sumG g (chN n 0 c)) (chN n 0 c).length (sumG g (chN n 0 c0)) (chN n 0 c0).length))
theorem LInv.start (g : Int → Int) (n : Nat) (want : Int) : LInv g n want (2 ^ n) false [] := .inl ⟨rfl, rfl, fun c h1 h2 => by omega⟩
theorem LInv.skip {g : Int → Int} {n : Nat} {want : Int} {k : Nat} {had : Bool} {L : List Int} (h : LInv g n want (k + 1) had L) (hs : sumG g (chN n 0 k) < want) : LInv g n want k had L := by
  rcases h with ⟨h1, h2, h3⟩ | ⟨h1, c0, h2, h3, h4, h5, h6⟩
  · refine .inl ⟨h1, h2, fun c hc hc2 => ?_⟩
    by_cases e : c = k
    · rw [e]; exact hs
    · exact h3 c (by omega) hc2
  · refine .inr ⟨h1, c0, by omega, h3, h4, h5, fun c hc hc2 hw => ?_⟩
    by_cases e : c = k
    · rw [e] at hw; omega
    · exact h6 c (by omega) hc2 hw
theorem LInv.take {g : Int → Int} {n : Nat} {want : Int} {k : Nat} {had : Bool} {L : List Int} (h : LInv g n want (k + 1) had L) (hk : k < 2 ^ n) (hw : want ≤ sumG g (chN n 0 k)) (ht : had = false ∨ sumG g (chN n 0 k) < sumG g L ∨ (sumG g (chN n 0 k) = sumG g L ∧ (chN n 0 k).length < L.length)) : LInv g n want k true (chN n 0 k) := by
  refine .inr ⟨rfl, k, Nat.le_refl _, hk, rfl, hw, fun c hc hc2 hwc => ?_⟩
  by_cases e : c = k
  · subst e
    exact ⟨.inr ⟨rfl, Int.le_refl _⟩, fun hh => absurd hh (Nat.lt_irrefl _)⟩
  rcases h with ⟨h1, h2, h3⟩ | ⟨h1, c0, h2, h3, h4, h5, h6⟩
  · have := h3 c (by omega) hc2; omega
  · have h7 := (h6 c (by omega) hc2 hwc).1
    rw [h4] at ht
    unfold Lex at *
    rcases ht with ht | ht | ht
    · rw [h1] at ht; cases ht
    · refine ⟨by omega, fun _ => by omega⟩
    · refine ⟨by omega, fun _ => by omega⟩
theorem LInv.keep {g : Int → Int} {n : Nat} {want : Int} {k : Nat} {L : List Int} (h : LInv g n want (k + 1) true L) (hl : Lex (sumG g L) L.length (sumG g (chN n 0 k)) (chN n 0 k).length) : LInv g n want k true L := by
  rcases h with ⟨h1, h2, h3⟩ | ⟨h1, c0, h2, h3, h4, h5, h6⟩
  · cases h1
  · refine .inr ⟨h1, c0, by omega, h3, h4, h5, fun c hc hc2 hwc => ?_⟩
    by_cases e : c = k
    · subst e
      exact ⟨by rw [← h4]; exact hl, fun hh => by omega⟩
    · exact h6 c (by omega) hc2 hwc
theorem LInv.list {g : Int → Int} {n : Nat} {want : Int} {k : Nat} {had : Bool} {L : List Int} (h : LInv g n want k had L) : L = [] ∨ ∃ c0, L = chN n 0 c0 := by
  rcases h with ⟨h1, h2, h3⟩ | ⟨h1, c0, h2, h3, h4, h5, h6⟩
  · exact .inl h2
  · exact .inr ⟨c0, h4⟩
theorem chN_atZ (ns : List Int) (c : Nat) : sumG (atZ ns) (chN ns.length 0 c) = (chV ns c).sum ∧ (chN ns.length 0 c).length = (chV ns c).length := by
  have hv := chN_vals (g := atZ ns) ns 0 c fun j _ => by unfold atZ; rw [Int.zero_add, Int.toNat_natCast]
  refine ⟨?_, ?_⟩
  · unfold sumG; rw [hv]
  · rw [← hv, List.length_map]
theorem LInv.done {ns : List Int} {want : Int} {had : Bool} {L : List Int} (h : LInv (atZ ns) ns.length want 0 had L) (h0 : ∀ x ∈ ns, 0 ≤ x) (hw : want ≤ ns.sum) : L = pickF ns 0 want := by
  obtain ⟨s1, s2, s3⟩ := pick_sum h0 hw
  have hc := numF_pick ns 0 want
  have hl := numF_lt ns want
  rw [← hc] at s1 s2
  rcases h with ⟨h1, h2, h3⟩ | ⟨h1, c0, h2, h3, h4, h5, h6⟩
  · have := h3 _ (Nat.zero_le _) hl
    omega
  · obtain ⟨g1, g2⟩ := h6 _ (Nat.zero_le _) hl (by omega)
    have hv := chN_atZ ns c0
    have g3 := (bestF_least ns h0 want (chV ns c0) (chV_sub ns c0) (by omega)).2
    have g4 := numF_last ns h0 want c0 h3 (by omega) (by unfold Lex at *; omega) (by unfold Lex at *; omega)
    by_cases e : c0 = numF ns want
    · rw [h4, e, hc]
    · exfalso
      refine g2 (by omega) ?_
      unfold Lex at *
      omega
set_option maxHeartbeats 4000000 in
set_option maxRecDepth 100000 in
theorem power_any (n : Nat) (hn : n ≤ 30) (w : World) : Calls Tryd.prog 26 #[.int .i64 n] w (fun e w' => e = .returned (.int .i64 ((2 ^ n : Nat) : Int)) ∧ w' = w) := by
  obtain ⟨P, hP⟩ : ∃ P, P = 2 ^ n := ⟨_, rfl⟩
  rw [← hP]
  have HP := aside hP
  clear hP
  go_enter Tryd.func26, Tryd.ntmps26
  go_wp2
  go_loopw [3, 4] (fun v3 v4 wr => ∃ (i p : Nat), i ≤ n ∧ v4 = .int .i64 i ∧ v3 = .int .i64 p ∧ wr = w ∧ Hid (p = 2 ^ i)) (fun _ v4 _ => n - (Go.RowKit.intOf v4).toNat)
  case atStart => exact ⟨0, 1, Nat.zero_le _, rfl, rfl, rfl, aside rfl⟩
  case round =>
    obtain ⟨i, p, hi, rfl, rfl, hw, HI⟩ := hrel
    try subst hw
    by_cases hin : i < n
    · have i0 : (i : Int) < (n : Int) := by omega
      have hp : p ≤ 1073741824 := by
        rw [HI.out]
        have h2 : 2 ^ i ≤ 2 ^ 30 := Nat.pow_le_pow_right (by decide) (by omega)
        have h3 : (2 : Nat) ^ 30 = 1073741824 := by decide
        omega
      have hwr : IntKind.i64.wrap (2 * (p : Int)) = ((2 * p : Nat) : Int) := by rw [IntKind.wrap_i64]; omega
      have HN : Hid (2 * p = 2 ^ (i + 1)) := aside (by rw [HI.out, Nat.pow_succ, Nat.mul_comm])
      clear HI
      go_wp2
      exact ⟨⟨i + 1, 2 * p, by omega, by go_num, by go_num, by trivial, HN⟩, by simp [Go.RowKit.intOf]; omega⟩
    · obtain rfl : n = i := by omega
      have i0 : ((n : Int) < (n : Int)) = False := by simp
      have HPp : Hid (p = P) := aside (by rw [HI.out, HP.out])
      go_wp2
      go_ret
      exact ⟨by rw [HPp.out] <;> rfl, rfl⟩
set_option maxHeartbeats 8000000 in
set_option maxRecDepth 100000 in
theorem rchosen_any (n C : Nat) (hn : n ≤ 9) (hC : C < 512) (w : World) : Calls Tryd.prog 27 #[.int .i64 n, .int .i64 C] w (fun e w' => ∃ A' c' L, e = .returned (.slice A' L.length c') ∧ ISl w' w'.heap.size A' L.length L ∧ L = chN n 0 (C % 2 ^ n) ∧ Below w.heap.size w w') := by
  have HB := aside (Below.refl w.heap.size w)
  have HO : Hid (OwnZ w w.heap.size (.slice none 0 0) 0 []) := aside (ownZ_nil _ _)
  go_enter Tryd.func27, Tryd.ntmps27
  go_wp2
  go_loopw [1, 5, 6] (fun v1 v5 v6 wr => ∃ (k m ch : Nat) (L : List Int) (A1 : Option Addr) (c1 : Nat), k + m = n ∧ v6 = .int .i64 ((k : Int) - 1) ∧ v1 = .int .i64 ch ∧ v5 = .slice A1 L.length c1 ∧ L.length ≤ m ∧ ch < 512 ∧ Hid (ch = C / 2 ^ m) ∧ Hid (L = chN m (k : Int) (C % 2 ^ m)) ∧ Hid (OwnZ wr w.heap.size (.slice A1 L.length c1) L.length L) ∧ Hid (Below w.heap.size w wr)) (fun _ _ v6 _ => ((Go.RowKit.intOf v6) + 1).toNat)
  case atStart => exact ⟨n, 0, C, [], none, 0, rfl, rfl, rfl, rfl, Nat.le_refl _, hC, aside (by simp), aside rfl, HO, HB⟩
  case round =>
    clear HO HB
    obtain ⟨k, m, ch, L, A1, c1, hkm, rfl, rfl, rfl, hll, hch, HCh, HL, HO, HB⟩ := hrel
    rcases Nat.eq_zero_or_pos k with h0 | hpos
    · subst h0
      obtain rfl : m = n := by omega
      clear HCh
      have HLe : Hid (L = chN m 0 (C % 2 ^ m)) := aside HL.out
      go_wp2
      go_ret
      exact ⟨A1, c1, L, rfl, ownZ_isl HO.out, HLe.out, HB.out⟩
    · obtain ⟨k', rfl⟩ : ∃ k', k = k' + 1 := ⟨k - 1, by omega⟩
      have hk0 : (0 : Int) ≤ (k' : Int) := by omega
      have hkk : ((k' + 1 : Nat) : Int) - 1 = (k' : Int) := by omega
      rw [hkk]
      have HCn : Hid (ch / 2 = C / 2 ^ (m + 1)) := aside (by rw [HCh.out, half_next])
      have hbz := HB.out.size
      by_cases hb : ch % 2 = 1
      · have HLn : Hid ((k' : Int) :: L = chN (m + 1) (k' : Int) (C % 2 ^ (m + 1))) := aside (by
          rw [bit_one (k' : Int) (by rw [← HCh.out]; exact hb), HL.out]
          rfl)
        have hbb : ((ch : Int) % 2 == 1) = true := by simp; omega
        have hd2 : IntKind.i64.wrap ((ch : Int).tdiv 2) = ((ch / 2 : Nat) : Int) := by
          rw [show (ch : Int).tdiv 2 = ((ch / 2 : Nat) : Int) from rfl, IntKind.wrap_i64]
          omega
        have HBa : Hid (Below w.heap.size w (wr.alloc (.cells #[.int .i64 (k' : Int)] 3))) := aside (HB.out.alloc hbz _)
        have HOa : Hid ((wr.alloc (.cells #[.int .i64 (k' : Int)] 3)).ownsRow w.heap.size 3 1 (.slice (some ⟨wr.heap.size, 0, none⟩) 1 1) 1 [.int .i64 (k' : Int)]) := aside ⟨by simp, .inr ⟨wr.heap.size, 1, #[.int .i64 (k' : Int)], rfl, hbz, heap_alloc_new wr _, Nat.le_refl _, by decide, rfl, by simp⟩⟩
        have HSa : Hid (ISl (wr.alloc (.cells #[.int .i64 (k' : Int)] 3)) (wr.alloc (.cells #[.int .i64 (k' : Int)] 3)).heap.size A1 L.length L) := aside (ownZ_isl (own_below HO.out ((Below.refl _ _).alloc (Nat.le_refl _) _)))
        have H1 := aside (one_ints L)
        have hba := HBa.out.size
        have hle : ((k' : Int) :: L).length = 1 + L.length := by rw [List.length_cons]; omega
        clear HL HCh hb hkk
        go_wp2_with (first
          | (at_builtin; refine wpList_concat rfl (.tmp 17) (.tmp 18) 22 rfl w.heap.size (.int .i64 0) 1 8 Tryd.underlying22 infoZ rfl (by decide) _ 1 _ rfl HOa.out _ A1 L.length c1 _ rfl HSa.out H1.out (by omega) (by unfold maxLen; omega) hba ?_; intro A3 c3 w3 hc3 hc3' hown3 hb3 hg3)
          | fail)
        have HO3 : Hid (OwnZ w3 w.heap.size (.slice A3 (1 + L.length) c3) (1 + L.length) ((k' : Int) :: L)) := aside hown3
        have H3 := aside (HBa.out.trans hb3)
        clear hown3 hb3 hg3
        exact ⟨⟨k', m + 1, ch / 2, (k' : Int) :: L, A3, c3, by omega, by go_num, rfl, by rw [hle], by omega, by omega, HCn, HLn, by rw [hle]; exact HO3, H3⟩, by simp [Go.RowKit.intOf] <;> omega⟩
      · have HLn : Hid (L = chN (m + 1) (k' : Int) (C % 2 ^ (m + 1))) := aside (by
          rw [bit_no (k' : Int) (by rw [← HCh.out]; exact hb), HL.out]
          rfl)
        have hbb : ((ch : Int) % 2 == 1) = false := by simp; omega
        have hd2 : IntKind.i64.wrap ((ch : Int).tdiv 2) = ((ch / 2 : Nat) : Int) := by
          rw [show (ch : Int).tdiv 2 = ((ch / 2 : Nat) : Int) from rfl, IntKind.wrap_i64]
          omega
        clear HL HCh hb hkk
        go_wp2
        exact ⟨⟨k', m + 1, ch / 2, L, A1, c1, by omega, by go_num, rfl, rfl, by omega, by omega, HCn, HLn, HO, HB⟩, by simp [Go.RowKit.intOf] <;> omega⟩
set_option maxHeartbeats 20000000 in
set_option maxRecDepth 100000 in
theorem least_ref (ns : List Int) (A : Option Addr) (n c : Nat) (want : Int) (hn : n ≤ 9) (w : World) (h : ISl w w.heap.size A n ns) (hq : pickQ ns want = 0) :
    Calls Tryd.prog 14 #[.slice A n c, .int .i64 want] w (fun e w' => ∃ A' c' p, e = .returned (.slice A' p.length c') ∧ ISl w' w'.heap.size A' p.length p ∧ p = pickF ns 0 want ∧ Below w.heap.size w w') := by
  have HLn := aside (ISl.len h)
  have H := aside h
  obtain ⟨z1, z2, z3, z4, z5, z6⟩ := pickQ_zero hq
  have HNs := aside z2
  have HZ5 := aside z5
  have HZ6 := aside z6
  have HPw := aside (power_any n (by omega))
  have HI0 := aside (LInv.start (atZ ns) n want)
  have hpw : 1 ≤ 2 ^ n ∧ 2 ^ n ≤ 512 := by
    have h2 : 2 ^ n ≤ 2 ^ 9 := Nat.pow_le_pow_right (by decide) hn
    have h3 : (2 : Nat) ^ 9 = 512 := by decide
    have := Nat.two_pow_pos n
    omega
  have HSb : Hid (∀ k, sumG (atZ ns) (chN n 0 k) ≤ 1125899906842624) := aside (fun k => by
    have e := (chN_atZ ns k).1
    rw [ISl.len h] at e
    rw [e]
    have := (sub_sum (chV_sub ns k) (fun x hx => (z2 x hx).1)).2
    unfold totZ at z5
    omega)
  have HOk : Hid (∀ k, ∀ x ∈ chN n 0 k, OkZ n x) := aside (fun k x hx => by
    have := chN_ok n 0 k x hx
    unfold OkZ
    omega)
  have HDn : Hid (∀ had L, LInv (atZ ns) n want 0 had L → L = pickF ns 0 want) := aside (fun had L hI => by
    have e := ISl.len h
    subst e
    exact hI.done (fun x hx => (z2 x hx).1) z6)
  obtain ⟨N, hN⟩ : ∃ N, N = 2 ^ n := ⟨_, rfl⟩
  rw [← hN] at hpw HI0 HPw
  have HN := aside hN
  clear h hq z1 z2 z5 z6 hN
  go_enter Tryd.func14, Tryd.ntmps14
  go_wp2_with (first | (go_at_call 26; refine (HPw.out _).mono ?_; rintro e w' ⟨rfl, hw⟩; rw [hw]; clear hw w') | fail)
  have HA0 : Hid (ISl w w.heap.size none 0 []) := aside Sl.nil_
  have HB0 := aside (Below.refl w.heap.size w)
  clear HPw
  go_loopw [5, 6, 7] (fun v5 v6 v7 wr => ∃ (k : Nat) (had : Bool) (L : List Int) (A1 : Option Addr) (c1 : Nat), k ≤ N ∧ v7 = .int .i64 ((k : Int) - 1) ∧ v6 = .bool had ∧ v5 = .slice A1 L.length c1 ∧ Hid (ISl wr wr.heap.size A1 L.length L) ∧ Hid (Below w.heap.size w wr) ∧ Hid (LInv (atZ ns) n want k had L)) (fun _ _ v7 _ => ((Go.RowKit.intOf v7) + 1).toNat)
  case atStart => exact ⟨N, false, [], none, 0, Nat.le_refl _, rfl, rfl, rfl, HA0, HB0, HI0⟩
  case round =>
    clear HA0 HB0 HI0
    obtain ⟨k, had, L, A1, c1, hk, rfl, rfl, rfl, HA, HB, HI⟩ := hrel
    rcases Nat.eq_zero_or_pos k with h0 | hpos
    · subst h0
      have HLe := aside (HDn.out _ _ HI.out)
      clear HI
      go_wp2
      go_ret
      exact ⟨A1, c1, L, rfl, HA.out, HLe.out, HB.out⟩
    · obtain ⟨k', rfl⟩ : ∃ k', k = k' + 1 := ⟨k - 1, by omega⟩
      have hk0 : (0 : Int) ≤ (k' : Int) := by omega
      have hkk : ((k' + 1 : Nat) : Int) - 1 = (k' : Int) := by omega
      rw [hkk]
      have hkN : k' < N := by omega
      have HkN : Hid (k' < 2 ^ n) := aside (by rw [← HN.out]; exact hkN)
      have hLL := HI.out.list
      have HLo : Hid (∀ x ∈ L, OkZ n x) := aside (by
        rcases hLL with h | ⟨c0, h⟩
        · rw [h]; exact fun x hx => by cases hx
        · rw [h]; exact HOk.out c0)
      have hLs : sumG (atZ ns) L ≤ 1125899906842624 := by
        rcases hLL with h | ⟨c0, h⟩
        · rw [h]; show (0 : Int) ≤ 1125899906842624; decide
        · rw [h]; exact HSb.out c0
      have hLl : L.length ≤ n := by
        rcases hLL with h | ⟨c0, h⟩
        · rw [h]; exact Nat.zero_le _
        · rw [h]; exact chN_len _ _ _
      have HPos : Hid (∀ x, OkZ n x → 0 ≤ atZ ns x) := aside (fun x hx => (atZ_nonneg HLn.out HNs.out hx).1)
      clear hLL hkk
      go_wp2_with fail
      refine (rchosen_any n k' hn (by omega) _).mono ?_
      rintro e w2 ⟨A2, c2, p, rfl, hp, hpe, hb2⟩
      rw [Nat.mod_eq_of_lt HkN.out] at hpe
      have HPe := aside hpe
      have hB2 := HB.out.trans (hb2.mono HB.out.size)
      have HB2 := aside hB2
      have HP := aside hp
      have HA2 := aside (isl_more (isl_below HA.out hb2) hb2.size)
      have W1 : Hid (Calls Tryd.prog 28 #[.slice A n c, .slice A2 p.length c2] w2 (fun e w' => e = .returned (.int .i64 (sumG (atZ ns) p)) ∧ w' = w2)) := aside (worth_any ns A n c p A2 p.length c2 w2 (isl_more (isl_below H.out hB2) hB2.size) hp (by rw [hpe]; have := chN_len n 0 k'; omega) (by rw [hpe]; exact HOk.out k') (by rw [hpe]; exact fun x hx => HPos.out x (HOk.out k' x hx)) (by rw [hpe]; exact HSb.out k'))
      have W2 : Hid (Calls Tryd.prog 28 #[.slice A n c, .slice A1 L.length c1] w2 (fun e w' => e = .returned (.int .i64 (sumG (atZ ns) L)) ∧ w' = w2)) := aside (worth_any ns A n c L A1 L.length c1 w2 (isl_more (isl_below H.out hB2) hB2.size) HA2.out (by omega) HLo.out (fun x hx => HPos.out x (HLo.out x hx)) hLs)
      have HSk : Hid (sumG (atZ ns) p < want → LInv (atZ ns) n want k' had L) := aside (fun hs => HI.out.skip (by rw [← hpe]; exact hs))
      have HTk : Hid (want ≤ sumG (atZ ns) p → (had = false ∨ sumG (atZ ns) p < sumG (atZ ns) L ∨ (sumG (atZ ns) p = sumG (atZ ns) L ∧ p.length < L.length)) → LInv (atZ ns) n want k' true p) := aside (fun hw ht => by rw [hpe] at hw ht ⊢; exact HI.out.take HkN.out hw ht)
      have HKp : Hid (had = true → Lex (sumG (atZ ns) L) L.length (sumG (atZ ns) p) p.length → LInv (atZ ns) n want k' true L) := aside (fun hh hl => by rw [hh] at HI; rw [hpe] at hl; exact HI.out.keep hl)
      clear hp hpe hb2 hB2 HB HA HI HLo hLl hLs HPe
      generalize sumG (atZ ns) p = S at W1 HSk HTk HKp
      generalize sumG (atZ ns) L = T at W2 HTk HKp
      go_wp2_with fail
      refine W1.out.mono ?_
      rintro e w3 ⟨rfl, hw3⟩
      rw [hw3]
      clear hw3 w3
      by_cases hs : S < want
      · have HI2 := aside (HSk.out hs)
        clear HSk HTk HKp W1 W2
        go_wp2
        exact ⟨⟨k', had, L, A1, c1, by omega, rfl, rfl, rfl, HA2, HB2, HI2⟩, by simp [Go.RowKit.intOf] <;> omega⟩
      · have hsz : (S < want) = False := eq_false hs
        have hws : want ≤ S := by omega
        clear HSk
        go_wp2_with fail
        refine W2.out.mono ?_
        rintro e w3 ⟨rfl, hw3⟩
        rw [hw3]
        clear hw3 w3 hs hsz
        cases had with
        | false =>
          have HI2 := aside (HTk.out hws (.inl rfl))
          clear HTk HKp W1 W2
          go_wp2
          exact ⟨⟨k', true, p, A2, c2, by omega, rfl, rfl, rfl, HP, HB2, HI2⟩, by simp [Go.RowKit.intOf] <;> omega⟩
        | true =>
          by_cases h1 : S < T
          · have HI2 := aside (HTk.out hws (.inr (.inl h1)))
            clear HTk HKp W1 W2
            go_wp2
            exact ⟨⟨k', true, p, A2, c2, by omega, rfl, rfl, rfl, HP, HB2, HI2⟩, by simp [Go.RowKit.intOf] <;> omega⟩
          · have h1z : (S < T) = False := eq_false h1
            by_cases h2 : S = T
            · subst h2
              have hee : (S == S) = true := by simp
              by_cases h3 : p.length < L.length
              · have h3z : (p.length : Int) < (L.length : Int) := by omega
                have HI2 := aside (HTk.out hws (.inr (.inr ⟨rfl, h3⟩)))
                clear HTk HKp W1 W2 h1
                go_wp2
                exact ⟨⟨k', true, p, A2, c2, by omega, rfl, rfl, rfl, HP, HB2, HI2⟩, by simp [Go.RowKit.intOf] <;> omega⟩
              · have h3z : ((p.length : Int) < (L.length : Int)) = False := by simp only [eq_iff_iff, iff_false]; omega
                have HI2 := aside (HKp.out rfl (.inr ⟨rfl, by omega⟩))
                clear HTk HKp W1 W2 h1
                go_wp2
                exact ⟨⟨k', true, L, A1, c1, by omega, rfl, rfl, rfl, HA2, HB2, HI2⟩, by simp [Go.RowKit.intOf] <;> omega⟩
            · have hee : (S == T) = false := by simp [h2]
              have HI2 := aside (HKp.out rfl (.inl (by omega)))
              clear HTk HKp W1 W2 h1
              go_wp2
              exact ⟨⟨k', true, L, A1, c1, by omega, rfl, rfl, rfl, HA2, HB2, HI2⟩, by simp [Go.RowKit.intOf] <;> omega⟩
end Go.Proofs.YtgickjghfndaaaaDoor
