/- slices.SortStableFunc of at most thirty places, the greatest first. Conditions: named in each theorem. Comparing, money, whether there is enough: cmp.Compare, the closure of Great, money.Check, money.Sum, pick.Check. Conditions: named in each theorem. The comparison of pick.Great, and the places of all amounts. Conditions: named in each theorem. -/
import Derived.Test.YtbpabjhcjffkmaaGreatDoorSrtD
import Derived.Test.YtbpabjhcjffkmaaGreatDoorCmpB
/- slices.SortStableFunc of at most thirty places, the greatest first. Conditions: named in each theorem. -/
namespace Go.Proofs.YtbpabjhcjffkmaaGreatDoor.Pk
open Go.RowKit Go.ChangeShapes Go.WideShapes Go.ChangeAt

theorem sym_all (gf : Int → Int) (Ok : Int → Prop) (g nb len c : Nat) (hl : len ≤ 1000) : ∀ N, SymOk gf Ok g nb len c N
 | 0 => fun A L R B a m b W h => absurd h (Nat.not_lt_zero _)
 | N + 1 => by
  intro A L R B a m b W hN h1 h2 sL sR hO hOk hlen ha hm hb hc hr
  have ih := sym_all gf Ok g nb len c hl N
  by_cases e1 : L.length = 1
  ·match L, e1 with
   | [x], _ => exact sym_oneL A x R B gf Ok sR (fun y hy => hO x (by simp) y hy) h2 hOk g nb len c hlen hl a m b ha hm hb W hc hr
  ·by_cases e2 : R.length = 1
   ·match R, e2 with
    | [y], _ => exact sym_oneR A L y B gf Ok sL (fun x hx => hO x hx y (by simp)) (by omega) hOk g nb len c hlen hl a m b ha hm hb W hc hr
   ·exact sym_gen A L R B gf Ok sL sR hO hOk (by omega) (by omega) g nb len c hlen hl a m b ha hm hb W hc hr (fun A' L' R' B' a' m' b' W' h' => ih A' L' R' B' a' m' b' W' (by omega))
set_option maxHeartbeats 4000000 in
set_option maxRecDepth 100000 in
theorem stable_any (X : List Int) (gf : Int → Int) (Ok : Int → Prop) (hX : Rise X) (hOk : ∀ x ∈ X, Ok x) (g nb len c : Nat) (hlen : X.length = len) (hl : len ≤ 30) (W : World) (hc : CmpC g W nb gf Ok) (h : RowAt W g X) :
  Calls Tryz.prog 104 #[.slice (some ⟨g, 0, none⟩) len c, .int .i64 len, cmpV nb] W (fun e w' => e = .returned (.tuple #[]) ∧ (∃ S, RowAt w' g S ∧ S.Perm X ∧ S.Pairwise (LtG gf)) ∧ Upon g W w') := by
 by_cases h20 : len < 20
 ·have hI := ins_any [] X [] gf Ok hX hOk g nb len c (by simpa using hlen) (by omega) 0 len rfl (by simp [hlen]) W hc (by simpa using h)
  have HI := aside hI
  have i0 : (len : Int) < 20 := by omega
  clear hI hc h hX hOk hlen
  go_enter Tryz.func104, Tryz.ntmps104
  go_wp2
  refine wp_loop_rounds 1 ?_
  rw [rounds_succ]
  go_wp2_with fail
  refine HI.out.mono ?_
  rintro e w1 ⟨rfl, hex, hu⟩
  have HE := aside hex
  have HU := aside hu
  clear hex hu HI
  go_wp2
  refine wp_loop_rounds 1 ?_
  rw [rounds_succ]
  go_wp2
  go_end0
  refine ⟨rfl, ?_, HU.out⟩
  obtain ⟨S, hr, hp, hs⟩ := HE.out
  exact ⟨S, by simpa using hr, hp, hs⟩
 ·obtain ⟨X1, hX1⟩ : ∃ Y, Y = X.take 20 := ⟨_, rfl⟩
  obtain ⟨X2, hX2⟩ : ∃ Y, Y = X.drop 20 := ⟨_, rfl⟩
  have hXe : X = X1 ++ X2 := by rw [hX1, hX2, List.take_append_drop]
  have k1 : X1.length = 20 := by rw [hX1, List.length_take]; omega
  have k2 : X2.length = len - 20 := by rw [hX2, List.length_drop]; omega
  clear hX1 hX2
  subst hXe
  have hR := hX
  unfold Rise at hR
  rw [List.pairwise_append] at hR
  have HI1 := aside (ins_any [] X1 X2 gf Ok hR.1 (fun x hx => hOk x (by simp [hx])) g nb len c (by simpa using hlen) (by omega) 0 20 rfl (by simp [k1]) W hc (by simpa using h))
  have HI2 : Hid (∀ W' (S1 : List Int), Upon g W W' → S1.length = 20 → RowAt W' g (S1 ++ X2) → Calls Tryz.prog 126 #[.slice (some ⟨g, 0, none⟩) len c, .int .i64 20, .int .i64 len, cmpV nb] W' (fun e w' => e = .returned (.tuple #[]) ∧ (∃ S, RowAt w' g (S1 ++ (S ++ [])) ∧ S.Perm X2 ∧ S.Pairwise (LtG gf)) ∧ Upon g W' w')) := aside (fun W' S1 hu hs hr =>
   ins_any S1 X2 [] gf Ok hR.2.1 (fun x hx => hOk x (by simp [hx])) g nb len c (by simp only [List.append_nil, List.length_append]; omega) (by omega) 20 len (by omega) (by omega) W' (hc.step hu) (by simpa using hr))
  have HI3 : Hid (∀ W' (S1 S2 : List Int), Upon g W W' → S1.Perm X1 → S2.Perm X2 → S1.Pairwise (LtG gf) → S2.Pairwise (LtG gf) → 0 < X2.length → RowAt W' g (S1 ++ S2) → Calls Tryz.prog 127 #[.slice (some ⟨g, 0, none⟩) len c, .int .i64 0, .int .i64 20, .int .i64 len, cmpV nb] W' (MergeD gf g [] (S1 ++ S2) [] W')) := aside (fun W' S1 S2 hu p1 p2 s1 s2 hx hr =>
   sym_all gf Ok g nb len c (by omega) (S1.length + S2.length + 1) [] S1 S2 [] 0 20 len W' (by omega) (by rw [p1.length_eq]; omega) (by rw [p2.length_eq]; exact hx) s1 s2 (fun x hx y hy => hR.2.2 x (p1.mem_iff.1 hx) y (p2.mem_iff.1 hy)) (fun x hx => hOk x (by
    rcases List.mem_append.1 hx with h | h
    ·exact List.mem_append.2 (.inl (p1.mem_iff.1 h))
    ·exact List.mem_append.2 (.inr (p2.mem_iff.1 h)))) (by simp only [List.nil_append, List.append_nil, List.length_append]; rw [p1.length_eq, p2.length_eq]; omega) rfl (by rw [p1.length_eq, k1]; rfl) (by rw [p1.length_eq, p2.length_eq, k1, k2]; simp; omega) (hc.step hu) (by simpa using hr))
  have HK := aside (And.intro k1 k2)
  have i0 : (20 : Int) ≤ (len : Int) := by omega
  have i1 : (len : Int) < 40 := by omega
  clear hc h hX hOk hlen hR k1 k2
  go_enter Tryz.func104, Tryz.ntmps104
  go_wp2
  refine wp_loop_rounds 2 ?_
  rw [rounds_succ]
  go_wp2_with fail
  refine HI1.out.mono ?_
  rintro e w1 ⟨rfl, hex, hu⟩
  obtain ⟨S1, hr1, hp1, hs1⟩ := hex
  have HR1 : Hid (RowAt w1 g (S1 ++ X2)) := aside (by simpa using hr1)
  have HP1 := aside hp1
  have HS1 := aside hs1
  have HU1 := aside hu
  have HN1 : Hid (S1.length = 20) := aside (by rw [hp1.length_eq]; exact HK.out.1)
  clear hr1 hp1 hs1 hu HI1
  go_wp2
  rw [rounds_succ]
  go_wp2_with fail
  refine (HI2.out w1 S1 HU1.out HN1.out HR1.out).mono ?_
  rintro e w2 ⟨rfl, hex, hu⟩
  obtain ⟨S2, hr2, hp2, hs2⟩ := hex
  have HR2 : Hid (RowAt w2 g (S1 ++ S2)) := aside (by simpa using hr2)
  have HP2 := aside hp2
  have HS2 := aside hs2
  have HU2 := aside (HU1.out.trans hu)
  clear hr2 hp2 hs2 hu HI2 HR1
  by_cases h21 : len = 20
  ·have HX : Hid ((S1 ++ S2).Perm (X1 ++ X2) ∧ (S1 ++ S2).Pairwise (LtG gf)) := aside (by
    refine ⟨HP1.out.append HP2.out, ?_⟩
    have h0 : S2.length = 0 := by rw [HP2.out.length_eq]; have := HK.out.2; omega
    rw [List.eq_nil_of_length_eq_zero h0, List.append_nil]
    exact HS1.out)
   subst h21
   go_wp2
   refine wp_loop_rounds 1 ?_
   rw [rounds_succ]
   go_wp2
   go_end0
   exact ⟨rfl, ⟨_, HR2.out, HX.out.1, HX.out.2⟩, HU2.out⟩
  ·have i2 : (20 : Int) < (len : Int) := by omega
   have HC := aside (HI3.out w2 S1 S2 HU2.out HP1.out HP2.out HS1.out HS2.out (by have := HK.out.2; omega) HR2.out)
   clear h21
   go_wp2
   refine wp_loop_rounds 2 ?_
   rw [rounds_succ]
   go_wp2
   refine wp_loop_rounds 1 ?_
   rw [rounds_succ]
   go_wp2_with fail
   refine HC.out.mono ?_
   rintro e w3 ⟨rfl, hex, hu⟩
   have HE := aside hex
   have HU3 := aside (HU2.out.trans hu)
   clear hex hu HC
   go_wp2
   rw [rounds_succ]
   go_wp2
   go_end0
   refine ⟨rfl, ?_, HU3.out⟩
   obtain ⟨S, hr, hp, hs⟩ := HE.out
   exact ⟨S, by simpa using hr, hp.trans (HP1.out.append HP2.out), hs⟩
set_option maxHeartbeats 4000000 in
set_option maxRecDepth 100000 in
theorem sortS_any (X : List Int) (gf : Int → Int) (Ok : Int → Prop) (hX : Rise X) (hOk : ∀ x ∈ X, Ok x) (g nb len c : Nat) (hlen : X.length = len) (hl : len ≤ 30) (W : World) (hc : CmpC g W nb gf Ok) (h : RowAt W g X) :
  Calls Tryz.prog 65 #[.slice (some ⟨g, 0, none⟩) len c, cmpV nb] W (fun e w' => e = .returned (.tuple #[]) ∧ (∃ S, RowAt w' g S ∧ S.Perm X ∧ S.Pairwise (LtG gf)) ∧ Upon g W w') := by
 have HC := aside (stable_any X gf Ok hX hOk g nb len c hlen hl W hc h)
 clear hc h hX hOk hlen
 go_enter Tryz.func65, Tryz.ntmps65
 go_wp2_with fail
 refine HC.out.mono ?_
 rintro e w1 ⟨rfl, hex, hu⟩
 go_wp2
 go_end0
 exact ⟨rfl, hex, hu⟩
/-- Of none nothing turns. -/
theorem sortS_none (A : Option Addr) (c : Nat) (cv : Value) (W : World) : Calls Tryz.prog 65 #[.slice A 0 c, cv] W (fun e w' => e = .returned (.tuple #[]) ∧ w' = W) := by
 have H1 : Hid (∀ W, Calls Tryz.prog 126 #[.slice A 0 c, .int .i64 0, .int .i64 0, cv] W (fun e w' => e = .returned (.tuple #[]) ∧ w' = W)) := aside (fun W => by
  go_enter Tryz.func126, Tryz.ntmps126
  go_wp2
  refine wp_loop_rounds 1 ?_
  rw [rounds_succ]
  go_wp2
  go_end0
  exact ⟨rfl, rfl⟩)
 have H2 : Hid (∀ W, Calls Tryz.prog 104 #[.slice A 0 c, .int .i64 0, cv] W (fun e w' => e = .returned (.tuple #[]) ∧ w' = W)) := aside (fun W => by
  go_enter Tryz.func104, Tryz.ntmps104
  go_wp2
  refine wp_loop_rounds 1 ?_
  rw [rounds_succ]
  go_wp2_with fail
  refine (H1.out W).mono ?_
  rintro e w1 ⟨rfl, rfl⟩
  go_wp2
  refine wp_loop_rounds 1 ?_
  rw [rounds_succ]
  go_wp2
  go_end0
  exact ⟨rfl, rfl⟩)
 go_enter Tryz.func65, Tryz.ntmps65
 go_wp2_with fail
 refine (H2.out W).mono ?_
 rintro e w1 ⟨rfl, rfl⟩
 go_wp2
 go_end0
 exact ⟨rfl, rfl⟩
end Go.Proofs.YtbpabjhcjffkmaaGreatDoor.Pk

/- Comparing, money, whether there is enough: cmp.Compare, the closure of Great, money.Check, money.Sum, pick.Check. Conditions: named in each theorem. -/
namespace Go.Proofs.YtbpabjhcjffkmaaGreatDoor.Pk
open Go.RowKit Go.ChangeShapes Go.WideShapes Go.ChangeAt

theorem cnan_any (x : Int) (w : World) : Calls Tryz.prog 105 #[.int .i64 x] w (fun e w' => e = .returned (.bool false) ∧ w' = w) := by
 go_enter Tryz.func105, Tryz.ntmps105
 go_wp2
 go_ret
 exact ⟨by simp, rfl⟩
theorem cmp_any (x y : Int) (w : World) : Calls Tryz.prog 67 #[.int .i64 x, .int .i64 y] w (fun e w' => e = .returned (.int .i64 (cmpI x y)) ∧ w' = w) := by
 unfold cmpI
 by_cases h1 : x < y
 ·rw [if_pos h1]
  go_enter Tryz.func67, Tryz.ntmps67
  go_wp2_with (go_at_call 105; refine (cnan_any _ _).mono ?_; rintro e w' ⟨rfl, rfl⟩)
  go_ret
  exact ⟨rfl, rfl⟩
 ·rw [if_neg h1]
  by_cases h2 : y < x
  ·rw [if_pos h2]
   go_enter Tryz.func67, Tryz.ntmps67
   go_wp2_with (go_at_call 105; refine (cnan_any _ _).mono ?_; rintro e w' ⟨rfl, rfl⟩)
   go_ret
   exact ⟨rfl, rfl⟩
  ·rw [if_neg h2]
   go_enter Tryz.func67, Tryz.ntmps67
   go_wp2_with (go_at_call 105; refine (cnan_any _ _).mono ?_; rintro e w' ⟨rfl, rfl⟩)
   go_ret
   exact ⟨rfl, rfl⟩
def errP (k : Int) : Value := if k = 0 then .nilIface else .iface 33 (.int .i64 k)
theorem errP_no {k : Int} (h : k ≠ 0) : errP k = .iface 33 (.int .i64 k) := by unfold errP; rw [if_neg h]
def moneyE (a : Int) : Int := if a < 0 ∨ 1125899906842624 < a then 2 else 0
theorem moneyE_zero {a : Int} : moneyE a = 0 ↔ 0 ≤ a ∧ a ≤ 1125899906842624 := by unfold moneyE; split <;> omega
theorem money_any (a : Int) (w : World) : Calls Tryz.prog 57 #[.int .i64 a] w (fun e w' => e = .returned (errP (moneyE a)) ∧ w' = w) := by
 by_cases e1 : a < 0
 ·have h : moneyE a = 2 := by unfold moneyE; rw [if_pos (.inl e1)]
  rw [h]
  clear h
  go_enter Tryz.func57, Tryz.ntmps57
  go_wp2
  go_ret
  exact ⟨rfl, rfl⟩
 ·have e3 : (a < 0) = False := eq_false e1
  by_cases e2 : (1125899906842624 : Int) < a
  ·have h : moneyE a = 2 := by unfold moneyE; rw [if_pos (.inr e2)]
   rw [h]
   clear h e1
   go_enter Tryz.func57, Tryz.ntmps57
   go_wp2
   go_ret
   exact ⟨rfl, rfl⟩
  ·have h : moneyE a = 0 := by unfold moneyE; rw [if_neg (by omega)]
   have e4 : ((1125899906842624 : Int) < a) = False := eq_false e2
   rw [h]
   clear h e1 e2
   go_enter Tryz.func57, Tryz.ntmps57
   go_wp2
   go_ret
   exact ⟨rfl, rfl⟩


/-- What is wrong with amounts of which so much is wanted. -/
def totZ (ns : List Int) : Int := ns.sum
def pickQ (ns : List Int) (want : Int) : Int :=
 if 30 < ns.length then 4 else if ∃ x ∈ ns, moneyE x ≠ 0 then 2 else if moneyE want ≠ 0 then 2 else if 1125899906842624 < totZ ns then 4 else if totZ ns < want then 9 else 0
theorem sum_take {ns : List Int} (h : ∀ x ∈ ns, 0 ≤ x) (k : Nat) : 0 ≤ (ns.take k).sum ∧ (ns.take k).sum ≤ ns.sum := by
 have e : ns.sum = (ns.take k).sum + (ns.drop k).sum := by rw [← List.sum_append, List.take_append_drop]
 have h1 : ∀ (l : List Int), (∀ x ∈ l, 0 ≤ x) → 0 ≤ l.sum := by
  intro l
  induction l with
  | nil => intro _; exact Int.le_refl _
  | cons x r ih =>
   intro hl
   rw [List.sum_cons]
   have := hl x (by simp)
   have := ih fun y hy => hl y (by simp [hy])
   omega
 have := h1 (ns.take k) fun x hx => h x (List.mem_of_mem_take hx)
 have := h1 (ns.drop k) fun x hx => h x (List.mem_of_mem_drop hx)
 omega
theorem sum_next {ns : List Int} {k : Nat} (h : k < ns.length) : (ns.take (k + 1)).sum = (ns.take k).sum + nth ns k := by
 rw [List.take_add_one, List.getElem?_eq_getElem h, List.sum_append, nth_get h]
 simp
theorem isl_below {w w' : World} {B n : Nat} {A : Option Addr} {zs : List Int} (h : ISl w B A n zs) (hb : Below B w w') : ISl w' B A n zs := Sl.below h hb
theorem isl_more {w : World} {B B' n : Nat} {A : Option Addr} {zs : List Int} (h : ISl w B A n zs) (hB : B ≤ B') : ISl w B' A n zs := Sl.more h hB
set_option maxHeartbeats 2000000 in
set_option maxRecDepth 100000 in
theorem sumM_any (ns : List Int) (A : Option Addr) (n c : Nat) (w : World) (h : ISl w w.heap.size A n ns) (hn : n ≤ 1000) (hg : ∀ x ∈ ns, moneyE x = 0) :
  Calls Tryz.prog 101 #[.slice A n c] w (fun e w' => e = .returned (if 1125899906842624 < totZ ns then .tuple #[.int .i64 0, .iface 33 (.int .i64 4)] else .tuple #[.int .i64 (totZ ns), .nilIface]) ∧ w' = w) := by
 have hlen := ISl.len h
 have h0 : ∀ x ∈ ns, 0 ≤ x := fun x hx => (moneyE_zero.1 (hg x hx)).1
 obtain ⟨V, hV⟩ : ∃ V, V = (if 1125899906842624 < totZ ns then Value.tuple #[.int .i64 0, .iface 33 (.int .i64 4)] else .tuple #[.int .i64 (totZ ns), .nilIface]) := ⟨_, rfl⟩
 rw [← hV]
 have HV := aside hV
 have HG := aside hg
 have HL := aside hlen
 have H0 := aside h0
 have H := aside h
 clear hV hg hlen h0 h
 go_enter Tryz.func101, Tryz.ntmps101
 go_wp2
 go_loopw [4, 10] (fun v4 v10 wr => ∃ i : Nat, i ≤ n ∧ v4 = .int .i64 (ns.take i).sum ∧ v10 = .int .i64 i ∧ wr = w ∧ Hid ((ns.take i).sum ≤ 1125899906842624)) (fun _ v10 _ => n - (Go.RowKit.intOf v10).toNat)
 case atStart => exact ⟨0, Nat.zero_le _, rfl, rfl, rfl, aside (by rw [List.take_zero]; decide)⟩
 case round =>
  obtain ⟨i, hi, rfl, rfl, hw, HB⟩ := hrel
  try subst hw
  have hb := HB.out
  have hst := sum_take H0.out i
  by_cases hin : i < n
  ·obtain ⟨b, o, hAe, hbl, hc⟩ := ISl.at_ H.out hin
   have hx : nth ns i ∈ ns := nth_mem (by have := HL.out; omega)
   have hnx := sum_next (ns := ns) (k := i) (by have := HL.out; omega)
   have hm := moneyE_zero.1 (HG.out _ hx)
   have HMx := aside (HG.out _ hx)
   have HS1 := aside (sum_take H0.out (i + 1)).2
   have HNX := aside hnx
   obtain ⟨S, hS⟩ : ∃ S, S = (ns.take i).sum := ⟨_, rfl⟩
   rw [← hS] at hb hst HNX ⊢
   generalize nth ns i = x at hc hm HMx HNX
   subst hAe
   have i0 : (i : Int) < (n : Int) := by omega
   have hw1 : IntKind.i64.wrap (S + x) = S + x := by rw [IntKind.wrap_i64]; omega
   have HC := aside (money_any x)
   rw [HMx.out, show errP 0 = Value.nilIface from rfl] at HC
   by_cases hbig : 1125899906842624 < S + x
   ·have HVe : Hid (V = .tuple #[.int .i64 0, .iface 33 (.int .i64 4)]) := aside (by rw [HV.out, if_pos (by have := HS1.out; have := HNX.out; unfold totZ; omega)])
    clear hS hb hst hm hx hnx hbl
    go_wp2_with (first | (go_at_call 57; refine (HC.out _).mono ?_; rintro e w' ⟨rfl, rfl⟩) | fail)
    (try simp only [Exit.inBlock, Exit.then])
    refine bodyPost_ret (v := .tuple #[.int .i64 0, .iface 33 (.int .i64 4)]) (by simp only [results, Tryz.results101]; go_simp) rfl ?_
    exact ⟨by rw [HVe.out] <;> rfl, rfl⟩
   ·have hbg : (1125899906842624 < S + x) = False := eq_false hbig
    have HB2 : Hid ((ns.take (i + 1)).sum ≤ 1125899906842624) := aside (by rw [HNX.out]; omega)
    clear hS hb hst hm hx hnx hbl hbig
    go_wp2_with (first | (go_at_call 57; refine (HC.out _).mono ?_; rintro e w' ⟨rfl, rfl⟩) | fail)
    exact ⟨⟨i + 1, by omega, by rw [HNX.out], by go_num, by trivial, HB2⟩, by simp [Go.RowKit.intOf]; omega⟩
  ·obtain rfl : n = i := by omega
   have HVe : Hid (V = .tuple #[.int .i64 (totZ ns), .nilIface]) := aside (by
    rw [HV.out, if_neg]
    unfold totZ
    have := HB.out
    rw [← HL.out, List.take_length] at this
    omega)
   have hT : Hid ((ns.take n).sum = totZ ns) := aside (by rw [← HL.out, List.take_length]; rfl)
   have i0 : ((n : Int) < (n : Int)) = False := by simp
   clear hb hst
   go_wp2
   (try simp only [Exit.inBlock, Exit.then])
   refine bodyPost_ret (v := .tuple #[.int .i64 (ns.take n).sum, .nilIface]) (by simp only [results, Tryz.results101]; go_simp) rfl ?_
   exact ⟨by rw [HVe.out, ← hT.out] <;> rfl, rfl⟩
theorem errP_two : errP 2 = .iface 33 (.int .i64 2) := rfl
set_option maxHeartbeats 2000000 in
set_option maxRecDepth 100000 in
theorem pickC_any (ns : List Int) (A : Option Addr) (n c : Nat) (want : Int) (w : World) (h : ISl w w.heap.size A n ns) :
  Calls Tryz.prog 63 #[.slice A n c, .int .i64 want] w (fun e w' => e = .returned (errP (pickQ ns want)) ∧ w' = w) := by
 have hlen := ISl.len h
 obtain ⟨Q, hQ⟩ : ∃ Q, Q = pickQ ns want := ⟨_, rfl⟩
 rw [← hQ]
 unfold pickQ at hQ
 rw [hlen] at hQ
 have HQ := aside hQ
 have HL := aside hlen
 have H := aside h
 clear hQ hlen h
 by_cases hbig : 30 < n
 ·have hz : (30 : Int) < (n : Int) := by omega
  have HQq : Hid (Q = 4) := aside (HQ.out.trans (if_pos hbig))
  clear hbig
  go_enter Tryz.func63, Tryz.ntmps63
  go_wp2
  go_ret
  exact ⟨by rw [HQq.out] <;> rfl, rfl⟩
 ·have hz : ((30 : Int) < (n : Int)) = False := by simp only [eq_iff_iff, iff_false]; omega
  have hn30 : n ≤ 30 := by omega
  have HQ1 := aside (HQ.out.trans (if_neg hbig))
  clear hbig HQ
  go_enter Tryz.func63, Tryz.ntmps63
  go_wp2
  clear hz
  go_loopw [17] (fun v17 wr => ∃ i : Nat, i ≤ n ∧ v17 = .int .i64 i ∧ wr = w ∧ Hid (∀ k, k < i → moneyE (nth ns k) = 0)) (fun v17 _ => n - (Go.RowKit.intOf v17).toNat)
  case atStart => exact ⟨0, Nat.zero_le _, rfl, rfl, aside (fun k hk => absurd hk (Nat.not_lt_zero k))⟩
  case round =>
   obtain ⟨i, hi, rfl, hw, HB⟩ := hrel
   try subst hw
   by_cases hin : i < n
   ·obtain ⟨b, o, hAe, hbl, hc⟩ := ISl.at_ H.out hin
    have hx : nth ns i ∈ ns := nth_mem (by have := HL.out; omega)
    have HX := aside hx
    obtain ⟨x, hxe⟩ : ∃ x, x = nth ns i := ⟨_, rfl⟩
    rw [← hxe] at hc
    have HXE := aside hxe
    subst hAe
    have i0 : (i : Int) < (n : Int) := by omega
    by_cases hm : moneyE x = 0
    ·have HC := aside (money_any x)
     rw [hm, show errP 0 = Value.nilIface from rfl] at HC
     have HB2 : Hid (∀ k, k < i + 1 → moneyE (nth ns k) = 0) := aside (fun k hk => by
      rcases Nat.lt_succ_iff_lt_or_eq.1 hk with h | rfl
      ·exact HB.out k h
      ·rw [← HXE.out]; exact hm)
     clear hx hxe hbl hm
     go_wp2_with (first | (go_at_call 57; refine (HC.out _).mono ?_; rintro e w' ⟨rfl, rfl⟩) | fail)
     exact ⟨⟨i + 1, by omega, by go_num, by trivial, HB2⟩, by simp [Go.RowKit.intOf]; omega⟩
    ·have hm2 : moneyE x = 2 := by
      unfold moneyE at hm ⊢
      split
      ·rfl
      ·rename_i h1
       rw [if_neg h1] at hm
       exact absurd rfl hm
     have HC := aside (money_any x)
     rw [hm2, errP_two] at HC
     have HQq : Hid (Q = 2) := aside (HQ1.out.trans (if_pos ⟨x, by rw [HXE.out]; exact HX.out, hm⟩))
     clear hx hxe hbl hm hm2
     go_wp2_with (first | (go_at_call 57; refine (HC.out _).mono ?_; rintro e w' ⟨rfl, rfl⟩) | fail)
     go_ret
     exact ⟨by rw [HQq.out] <;> rfl, rfl⟩
   ·obtain rfl : n = i := by omega
    have hall : ∀ x ∈ ns, moneyE x = 0 := fun x hx => by
     obtain ⟨k, hk, rfl⟩ := List.getElem_of_mem hx
     have := HB.out k (by have := HL.out; omega)
     rwa [nth_get hk] at this
    have HAll := aside hall
    have HQ2 := aside (HQ1.out.trans (if_neg (fun h => by obtain ⟨x, hx, hn⟩ := h; exact hn (hall x hx))))
    have i0 : ((n : Int) < (n : Int)) = False := by simp
    clear hall HQ1 HB
    by_cases hm : moneyE want = 0
    ·have HQ3 := aside (HQ2.out.trans (if_neg (by simpa using hm)))
     have HC := aside (money_any want)
     rw [hm, show errP 0 = Value.nilIface from rfl] at HC
     have HS := sumM_any ns A n c _ H.out (by omega) HAll.out
     clear hm
     by_cases ht : 1125899906842624 < totZ ns
     ·rw [if_pos ht] at HS
      have HSm := aside HS
      have HQq : Hid (Q = 4) := aside (HQ3.out.trans (if_pos ht))
      clear HS ht
      go_wp2_with (first
       | (go_at_call 57; refine (HC.out _).mono ?_; rintro e w' ⟨rfl, rfl⟩)
       | (go_at_call 101; refine HSm.out.mono ?_; rintro e w' ⟨rfl, rfl⟩)
       | fail)
      go_ret
      exact ⟨by rw [HQq.out] <;> rfl, rfl⟩
     ·rw [if_neg ht] at HS
      have HSm := aside HS
      have HQ4 := aside (HQ3.out.trans (if_neg ht))
      clear HS ht
      generalize totZ ns = T at HSm HQ4
      by_cases hl : T < want
      ·have HQq : Hid (Q = 9) := aside (HQ4.out.trans (if_pos hl))
       go_wp2_with (first
        | (go_at_call 57; refine (HC.out _).mono ?_; rintro e w' ⟨rfl, rfl⟩)
        | (go_at_call 101; refine HSm.out.mono ?_; rintro e w' ⟨rfl, rfl⟩)
        | fail)
       go_ret
       exact ⟨by rw [HQq.out] <;> rfl, rfl⟩
      ·have HQq : Hid (Q = 0) := aside (HQ4.out.trans (if_neg hl))
       have hl' : (T < want) = False := eq_false hl
       clear hl
       go_wp2_with (first
        | (go_at_call 57; refine (HC.out _).mono ?_; rintro e w' ⟨rfl, rfl⟩)
        | (go_at_call 101; refine HSm.out.mono ?_; rintro e w' ⟨rfl, rfl⟩)
        | fail)
       go_ret
       exact ⟨by rw [HQq.out] <;> rfl, rfl⟩
    ·have hm2 : moneyE want = 2 := by
      unfold moneyE at hm ⊢
      split
      ·rfl
      ·rename_i h1
       rw [if_neg h1] at hm
       exact absurd rfl hm
     have HC := aside (money_any want)
     rw [hm2, errP_two] at HC
     have HQq : Hid (Q = 2) := aside (HQ2.out.trans (if_pos hm))
     clear hm hm2
     go_wp2_with (first | (go_at_call 57; refine (HC.out _).mono ?_; rintro e w' ⟨rfl, rfl⟩) | fail)
     go_ret
     exact ⟨by rw [HQq.out] <;> rfl, rfl⟩
/-- Where nothing is wrong. -/
theorem pickQ_zero {ns : List Int} {want : Int} (h : pickQ ns want = 0) : ns.length ≤ 30 ∧ (∀ x ∈ ns, 0 ≤ x ∧ x ≤ 1125899906842624) ∧ 0 ≤ want ∧ want ≤ 1125899906842624 ∧ totZ ns ≤ 1125899906842624 ∧ want ≤ totZ ns := by
 unfold pickQ at h
 by_cases h1 : 30 < ns.length
 ·rw [if_pos h1] at h; cases h
 rw [if_neg h1] at h
 by_cases h2 : ∃ x ∈ ns, moneyE x ≠ 0
 ·rw [if_pos h2] at h; cases h
 rw [if_neg h2] at h
 by_cases h3 : moneyE want ≠ 0
 ·rw [if_pos h3] at h; cases h
 rw [if_neg h3] at h
 by_cases h4 : 1125899906842624 < totZ ns
 ·rw [if_pos h4] at h; cases h
 rw [if_neg h4] at h
 by_cases h5 : totZ ns < want
 ·rw [if_pos h5] at h; cases h
 have hw := moneyE_zero.1 (Classical.not_not.1 h3)
 exact ⟨by omega, fun x hx => moneyE_zero.1 (Classical.not_not.1 (fun hn => h2 ⟨x, hx, hn⟩)), hw.1, hw.2, by omega, by omega⟩
end Go.Proofs.YtbpabjhcjffkmaaGreatDoor.Pk

/- The comparison of pick.Great, and the places of all amounts. Conditions: named in each theorem. -/
namespace Go.Proofs.YtbpabjhcjffkmaaGreatDoor.Pk
open Go.RowKit Go.ChangeShapes Go.WideShapes Go.ChangeAt

/-- What lies at a place. -/
def atZ (ns : List Int) (x : Int) : Int := nth ns x.toNat
def OkZ (n : Nat) (x : Int) : Prop := 0 ≤ x ∧ x < n
set_option maxHeartbeats 4000000 in
set_option maxRecDepth 100000 in
theorem great1_any (ns : List Int) (A : Option Addr) (n c nb : Nat) (_hn : n ≤ 1000) (i j : Nat) (hi : i < n) (hj : j < n) (B : Nat) (W : World) (hB : B ≤ W.heap.size) (hnb : nb < W.heap.size) (hc : W.cell? ⟨nb, 0, none⟩ = some (.slice A n c)) (h : ISl W B A n ns) :
  Calls Tryz.prog 66 #[.int .i64 (i : Int), .int .i64 (j : Int), .pointer (some ⟨nb, 0, none⟩)] W (fun e w' => e = .returned (.int .i64 (cmpI (nth ns j) (nth ns i))) ∧ Below W.heap.size W w') := by
 obtain ⟨b, o, hAe, hbl, c1⟩ := ISl.at_ h hi
 obtain ⟨b', o', e, -, c2⟩ := ISl.at_ h hj
 rw [hAe] at e
 injection e with e
 injection e with e1 e2
 subst e1 e2
 generalize nth ns i = x at c1
 generalize nth ns j = y at c2
 have hbl2 : b < W.heap.size := Nat.lt_of_lt_of_le hbl hB
 subst hAe
 have hS : Hid (∀ X, Below W.heap.size W X → X.cell? ⟨nb, 0, none⟩ = some (.slice (some ⟨b, o, none⟩) n c) ∧ X.cell? ⟨b, o + i, none⟩ = some (.int .i64 x) ∧ X.cell? ⟨b, o + j, none⟩ = some (.int .i64 y)) := aside (fun X hX => ⟨(hX.cell (p := ⟨nb, 0, none⟩) hnb).trans hc, (hX.cell (p := ⟨b, o + i, none⟩) hbl2).trans c1, (hX.cell (p := ⟨b, o + j, none⟩) hbl2).trans c2⟩)
 have HD : Below W.heap.size W W.drew := ⟨rfl, rfl, rfl, Nat.le_refl _, fun _ _ => rfl⟩
 have HS0 := hS.out _ HD
 have HDD := aside HD
 have hiz : (i : Int) < (n : Int) := by omega
 have hjz : (j : Int) < (n : Int) := by omega
 have HC := aside (cmp_any y x)
 generalize cmpI y x = r at HC ⊢
 clear h hc c1 c2 hbl hbl2 hnb hB HD
 go_enter Tryz.func66, Tryz.ntmps66
 go_wp2_with fail
 go_region_held3 (fun X => X.cell? ⟨nb, 0, none⟩ = some (.slice (some ⟨b, o, none⟩) n c) ∧ X.cell? ⟨b, o + i, none⟩ = some (.int .i64 x) ∧ X.cell? ⟨b, o + j, none⟩ = some (.int .i64 y))
  (with_reducible exact HS0)
  (first | (go_at_call 67; refine (HC.out _).mono ?_; rintro e w1 ⟨rfl, rfl⟩))
 go_wp2
 go_ret
 exact ⟨rfl, HDD.out⟩
/-- The comparison, wherever the sort may stand. -/
theorem cmpC_of (ns : List Int) (A : Option Addr) (n c nb g : Nat) (hn : n ≤ 1000) (B : Nat) (W : World) (hB : B ≤ W.heap.size) (hBg : B ≤ g) (hnb : nb < W.heap.size) (hng : nb ≠ g) (hc : W.cell? ⟨nb, 0, none⟩ = some (.slice A n c)) (h : ISl W B A n ns) : CmpC g W nb (atZ ns) (OkZ n) := by
 intro W' x y hu hx hy
 obtain ⟨i, rfl⟩ : ∃ i : Nat, x = (i : Int) := ⟨x.toNat, by have := hx.1; omega⟩
 obtain ⟨j, rfl⟩ : ∃ j : Nat, y = (j : Int) := ⟨y.toNat, by have := hy.1; omega⟩
 unfold OkZ at hx hy
 have h' : ISl W' B A n ns := Sl.keep h fun p hp => hu.cell (by omega) (by omega)
 have := great1_any ns A n c nb hn i j (by omega) (by omega) B W' (Nat.le_trans hB hu.size) (Nat.lt_of_lt_of_le hnb hu.size) ((hu.cell (p := ⟨nb, 0, none⟩) hnb hng).trans hc) h'
 unfold atZ
 rwa [Int.toNat_natCast, Int.toNat_natCast]
theorem infoZ : (Tryz.prog.info? 3).map (fun i => (i.zero, i.size, i.bytes)) = some (some (.int .i64 0), 1, 8) := by kernel_rfl
abbrev OwnZ (w : World) (base : Nat) (v : Value) (n : Nat) (xs : List Int) : Prop := w.ownsRow base 3 1 v n (xs.map (Value.int .i64))
theorem ownZ_nil (w : World) (base : Nat) : OwnZ w base (.slice none 0 0) 0 [] := ⟨by simp, .inl ⟨rfl, rfl⟩⟩
theorem ownZ_row {w : World} {base n c : Nat} {A : Option Addr} {xs : List Int} (h : OwnZ w base (.slice A n c) n xs) (hn : 0 < n) : ∃ g, A = some ⟨g, 0, none⟩ ∧ base ≤ g ∧ RowAt w g xs := by
 obtain ⟨g, cur, e, hb, hg, hnc, hcm, hl, ht⟩ := own_open h (.inl hn)
 refine ⟨g, e, hb, cur.drop (n * 1), ?_⟩
 rw [hg, ← ht, List.take_append_drop]
theorem ownZ_isl {w : World} {base n c : Nat} {A : Option Addr} {xs : List Int} (h : OwnZ w base (.slice A n c) n xs) : ISl w w.heap.size A n xs := Sl.own h
theorem row_isl {w : World} {g n : Nat} {xs : List Int} (h : RowAt w g xs) (hn : xs.length = n) : ISl w w.heap.size (some ⟨g, 0, none⟩) n xs := by
 refine ⟨by simpa using hn, fun _ => ⟨g, 0, rfl, h.lt, fun j v hv => ?_⟩⟩
 rw [List.getElem?_map] at hv
 obtain ⟨x, hx, rfl⟩ := Option.map_eq_some_iff.1 hv
 have hj := (List.getElem?_eq_some_iff.1 hx).1
 have hc := (h.cell hj).1
 rw [nth_get hj] at hc
 rw [Nat.zero_add, hc, ← (List.getElem?_eq_some_iff.1 hx).2]
/-- All places of so many. -/
def rangeZ (n : Nat) : List Int := (List.range n).map Int.ofNat
theorem rangeZ_len (n : Nat) : (rangeZ n).length = n := by unfold rangeZ; simp
theorem rangeZ_succ (n : Nat) : rangeZ (n + 1) = rangeZ n ++ [(n : Int)] := by
 unfold rangeZ
 rw [List.range_succ, List.map_append]
 rfl
theorem rangeZ_mem {n : Nat} {x : Int} : x ∈ rangeZ n ↔ OkZ n x := by
 unfold rangeZ OkZ
 rw [List.mem_map]
 constructor
 ·rintro ⟨k, hk, rfl⟩
  have := List.mem_range.1 hk
  simp only [Int.ofNat_eq_natCast]
  omega
 ·rintro ⟨h1, h2⟩
  exact ⟨x.toNat, List.mem_range.2 (by omega), by simp only [Int.ofNat_eq_natCast]; omega⟩
theorem rangeZ_rise (n : Nat) : Rise (rangeZ n) := by
 induction n with
 | zero => exact List.Pairwise.nil
 | succ n ih =>
  rw [rangeZ_succ]
  unfold Rise at ih ⊢
  rw [List.pairwise_append]
  refine ⟨ih, by simp, fun x hx y hy => ?_⟩
  have := (rangeZ_mem.1 hx).2
  simp at hy
  omega
set_option maxHeartbeats 4000000 in
set_option maxRecDepth 100000 in
theorem places_any (A : Option Addr) (n c : Nat) (hn : n ≤ 1000) (w : World) :
  Calls Tryz.prog 64 #[.slice A n c] w (fun e w' => ∃ A' c', e = .returned (.slice A' n c') ∧ OwnZ w' w.heap.size (.slice A' n c') n (rangeZ n) ∧ Below w.heap.size w w') := by
 have HO : Hid (OwnZ w w.heap.size (.slice none 0 0) 0 (rangeZ 0)) := aside (ownZ_nil _ _)
 have HB := aside (Below.refl w.heap.size w)
 go_enter Tryz.func64, Tryz.ntmps64
 go_wp2
 go_loopw [3, 7] (fun v3 v7 wr => ∃ (i : Nat) (A1 : Option Addr) (c1 : Nat), i ≤ n ∧ v7 = .int .i64 i ∧ v3 = .slice A1 i c1 ∧ Hid (OwnZ wr w.heap.size (.slice A1 i c1) i (rangeZ i)) ∧ Hid (Below w.heap.size w wr)) (fun _ v7 _ => n - (Go.RowKit.intOf v7).toNat)
 case atStart => exact ⟨0, none, 0, Nat.zero_le _, rfl, rfl, HO, HB⟩
 case round =>
  clear HO HB
  obtain ⟨i, A1, c1, hi, rfl, rfl, HO, HB⟩ := hrel
  by_cases hin : i < n
  ·have i0 : (i : Int) < (n : Int) := by omega
   have hbz := HB.out.size
   go_wp2_with (first
    | (at_builtin; refine wpList_push rfl (.tmp 10) (.tmp 12) 50 rfl w.heap.size _ 1 8 Tryz.underlying50 infoZ rfl (by decide) (.slice A1 i c1) i _ rfl rfl rfl rfl HO.out (by omega) (by unfold maxLen; omega) hbz ?_; intro A3 c3 w3 hc3 hc3' hown3 hb3 hz3' hg3)
    | fail)
   have HO3 : Hid (OwnZ w3 w.heap.size (.slice A3 (i + 1) c3) (i + 1) (rangeZ (i + 1))) := aside (by rw [rangeZ_succ]; show w3.ownsRow _ _ _ _ _ _; rw [List.map_append]; exact hown3)
   have H3 := aside (HB.out.trans hb3)
   clear hown3 hb3 hg3
   exact ⟨⟨i + 1, A3, c3, by omega, by go_num, rfl, HO3, H3⟩, by simp [Go.RowKit.intOf]; omega⟩
  ·obtain rfl : n = i := by omega
   have i0 : ((n : Int) < (n : Int)) = False := by simp
   go_wp2
   go_ret
   exact ⟨A1, c1, rfl, HO.out, HB.out⟩
end Go.Proofs.YtbpabjhcjffkmaaGreatDoor.Pk
