/- slices.SortStableFunc of at most thirty places, the greatest first. Conditions: named in each theorem. -/
import Derived.Test.YtgickjghfndaaaaDoorSrtD
namespace Go.Proofs.YtgickjghfndaaaaDoor
open Go.RowKit Go.ChangeShapes Go.WideShapes Go.ChangeAt

theorem sym_all (gf : Int → Int) (Ok : Int → Prop) (g nb len c : Nat) (hl : len ≤ 1000) : ∀ N, SymOk gf Ok g nb len c N
  | 0 => fun A L R B a m b W h => absurd h (Nat.not_lt_zero _)
  | N + 1 => by
    intro A L R B a m b W hN h1 h2 sL sR hO hOk hlen ha hm hb hc hr
    have ih := sym_all gf Ok g nb len c hl N
    by_cases e1 : L.length = 1
    · match L, e1 with
      | [x], _ => exact sym_oneL A x R B gf Ok sR (fun y hy => hO x (by simp) y hy) h2 hOk g nb len c hlen hl a m b ha hm hb W hc hr
    · by_cases e2 : R.length = 1
      · match R, e2 with
        | [y], _ => exact sym_oneR A L y B gf Ok sL (fun x hx => hO x hx y (by simp)) (by omega) hOk g nb len c hlen hl a m b ha hm hb W hc hr
      · exact sym_gen A L R B gf Ok sL sR hO hOk (by omega) (by omega) g nb len c hlen hl a m b ha hm hb W hc hr (fun A' L' R' B' a' m' b' W' h' => ih A' L' R' B' a' m' b' W' (by omega))
set_option maxHeartbeats 4000000 in
set_option maxRecDepth 100000 in
theorem stable_any (X : List Int) (gf : Int → Int) (Ok : Int → Prop) (hX : Rise X) (hOk : ∀ x ∈ X, Ok x) (g nb len c : Nat) (hlen : X.length = len) (hl : len ≤ 30) (W : World) (hc : CmpC g W nb gf Ok) (h : RowAt W g X) :
    Calls Tryd.prog 32 #[.slice (some ⟨g, 0, none⟩) len c, .int .i64 len, cmpV nb] W (fun e w' => e = .returned (.tuple #[]) ∧ (∃ S, RowAt w' g S ∧ S.Perm X ∧ S.Pairwise (LtG gf)) ∧ Upon g W w') := by
  by_cases h20 : len < 20
  · have hI := ins_any [] X [] gf Ok hX hOk g nb len c (by simpa using hlen) (by omega) 0 len rfl (by simp [hlen]) W hc (by simpa using h)
    have HI := aside hI
    have i0 : (len : Int) < 20 := by omega
    clear hI hc h hX hOk hlen
    go_enter Tryd.func32, Tryd.ntmps32
    go_wp2
    refine wp_loop_rounds 1 ?_
    rw [rounds_succ]
    go_wp2_with fail
    refine HI.out.mono ?_
    rintro e w1 ⟨rfl, hex, hu⟩
    have HE := aside hex
    have HU := aside hu
    clear hex hu HI
    go_wp2
    refine wp_loop_rounds 1 ?_
    rw [rounds_succ]
    go_wp2
    go_end0
    refine ⟨rfl, ?_, HU.out⟩
    obtain ⟨S, hr, hp, hs⟩ := HE.out
    exact ⟨S, by simpa using hr, hp, hs⟩
  · obtain ⟨X1, hX1⟩ : ∃ Y, Y = X.take 20 := ⟨_, rfl⟩
    obtain ⟨X2, hX2⟩ : ∃ Y, Y = X.drop 20 := ⟨_, rfl⟩
    have hXe : X = X1 ++ X2 := by rw [hX1, hX2, List.take_append_drop]
    have k1 : X1.length = 20 := by rw [hX1, List.length_take]; omega
    have k2 : X2.length = len - 20 := by rw [hX2, List.length_drop]; omega
    clear hX1 hX2
    subst hXe
    have hR := hX
    unfold Rise at hR
    rw [List.pairwise_append] at hR
    have HI1 := aside (ins_any [] X1 X2 gf Ok hR.1 (fun x hx => hOk x (by simp [hx])) g nb len c (by simpa using hlen) (by omega) 0 20 rfl (by simp [k1]) W hc (by simpa using h))
    have HI2 : Hid (∀ W' (S1 : List Int), Upon g W W' → S1.length = 20 → RowAt W' g (S1 ++ X2) → Calls Tryd.prog 41 #[.slice (some ⟨g, 0, none⟩) len c, .int .i64 20, .int .i64 len, cmpV nb] W' (fun e w' => e = .returned (.tuple #[]) ∧ (∃ S, RowAt w' g (S1 ++ (S ++ [])) ∧ S.Perm X2 ∧ S.Pairwise (LtG gf)) ∧ Upon g W' w')) := aside (fun W' S1 hu hs hr =>
      ins_any S1 X2 [] gf Ok hR.2.1 (fun x hx => hOk x (by simp [hx])) g nb len c (by simp only [List.append_nil, List.length_append]; omega) (by omega) 20 len (by omega) (by omega) W' (hc.step hu) (by simpa using hr))
    have HI3 : Hid (∀ W' (S1 S2 : List Int), Upon g W W' → S1.Perm X1 → S2.Perm X2 → S1.Pairwise (LtG gf) → S2.Pairwise (LtG gf) → 0 < X2.length → RowAt W' g (S1 ++ S2) → Calls Tryd.prog 42 #[.slice (some ⟨g, 0, none⟩) len c, .int .i64 0, .int .i64 20, .int .i64 len, cmpV nb] W' (MergeD gf g [] (S1 ++ S2) [] W')) := aside (fun W' S1 S2 hu p1 p2 s1 s2 hx hr =>
      sym_all gf Ok g nb len c (by omega) (S1.length + S2.length + 1) [] S1 S2 [] 0 20 len W' (by omega) (by rw [p1.length_eq]; omega) (by rw [p2.length_eq]; exact hx) s1 s2 (fun x hx y hy => hR.2.2 x (p1.mem_iff.1 hx) y (p2.mem_iff.1 hy)) (fun x hx => hOk x (by
        rcases List.mem_append.1 hx with h | h
        · exact List.mem_append.2 (.inl (p1.mem_iff.1 h))
        · exact List.mem_append.2 (.inr (p2.mem_iff.1 h)))) (by simp only [List.nil_append, List.append_nil, List.length_append]; rw [p1.length_eq, p2.length_eq]; omega) rfl (by rw [p1.length_eq, k1]; rfl) (by rw [p1.length_eq, p2.length_eq, k1, k2]; simp; omega) (hc.step hu) (by simpa using hr))
    have HK := aside (And.intro k1 k2)
    have i0 : (20 : Int) ≤ (len : Int) := by omega
    have i1 : (len : Int) < 40 := by omega
    clear hc h hX hOk hlen hR k1 k2
    go_enter Tryd.func32, Tryd.ntmps32
    go_wp2
    refine wp_loop_rounds 2 ?_
    rw [rounds_succ]
    go_wp2_with fail
    refine HI1.out.mono ?_
    rintro e w1 ⟨rfl, hex, hu⟩
    obtain ⟨S1, hr1, hp1, hs1⟩ := hex
    have HR1 : Hid (RowAt w1 g (S1 ++ X2)) := aside (by simpa using hr1)
    have HP1 := aside hp1
    have HS1 := aside hs1
    have HU1 := aside hu
    have HN1 : Hid (S1.length = 20) := aside (by rw [hp1.length_eq]; exact HK.out.1)
    clear hr1 hp1 hs1 hu HI1
    go_wp2
    rw [rounds_succ]
    go_wp2_with fail
    refine (HI2.out w1 S1 HU1.out HN1.out HR1.out).mono ?_
    rintro e w2 ⟨rfl, hex, hu⟩
    obtain ⟨S2, hr2, hp2, hs2⟩ := hex
    have HR2 : Hid (RowAt w2 g (S1 ++ S2)) := aside (by simpa using hr2)
    have HP2 := aside hp2
    have HS2 := aside hs2
    have HU2 := aside (HU1.out.trans hu)
    clear hr2 hp2 hs2 hu HI2 HR1
    by_cases h21 : len = 20
    · have HX : Hid ((S1 ++ S2).Perm (X1 ++ X2) ∧ (S1 ++ S2).Pairwise (LtG gf)) := aside (by
        refine ⟨HP1.out.append HP2.out, ?_⟩
        have h0 : S2.length = 0 := by rw [HP2.out.length_eq]; have := HK.out.2; omega
        rw [List.eq_nil_of_length_eq_zero h0, List.append_nil]
        exact HS1.out)
      subst h21
      go_wp2
      refine wp_loop_rounds 1 ?_
      rw [rounds_succ]
      go_wp2
      go_end0
      exact ⟨rfl, ⟨_, HR2.out, HX.out.1, HX.out.2⟩, HU2.out⟩
    · have i2 : (20 : Int) < (len : Int) := by omega
      have HC := aside (HI3.out w2 S1 S2 HU2.out HP1.out HP2.out HS1.out HS2.out (by have := HK.out.2; omega) HR2.out)
      clear h21
      go_wp2
      refine wp_loop_rounds 2 ?_
      rw [rounds_succ]
      go_wp2
      refine wp_loop_rounds 1 ?_
      rw [rounds_succ]
      go_wp2_with fail
      refine HC.out.mono ?_
      rintro e w3 ⟨rfl, hex, hu⟩
      have HE := aside hex
      have HU3 := aside (HU2.out.trans hu)
      clear hex hu HC
      go_wp2
      rw [rounds_succ]
      go_wp2
      go_end0
      refine ⟨rfl, ?_, HU3.out⟩
      obtain ⟨S, hr, hp, hs⟩ := HE.out
      exact ⟨S, by simpa using hr, hp.trans (HP1.out.append HP2.out), hs⟩
set_option maxHeartbeats 4000000 in
set_option maxRecDepth 100000 in
theorem sortS_any (X : List Int) (gf : Int → Int) (Ok : Int → Prop) (hX : Rise X) (hOk : ∀ x ∈ X, Ok x) (g nb len c : Nat) (hlen : X.length = len) (hl : len ≤ 30) (W : World) (hc : CmpC g W nb gf Ok) (h : RowAt W g X) :
    Calls Tryd.prog 23 #[.slice (some ⟨g, 0, none⟩) len c, cmpV nb] W (fun e w' => e = .returned (.tuple #[]) ∧ (∃ S, RowAt w' g S ∧ S.Perm X ∧ S.Pairwise (LtG gf)) ∧ Upon g W w') := by
  have HC := aside (stable_any X gf Ok hX hOk g nb len c hlen hl W hc h)
  clear hc h hX hOk hlen
  go_enter Tryd.func23, Tryd.ntmps23
  go_wp2_with fail
  refine HC.out.mono ?_
  rintro e w1 ⟨rfl, hex, hu⟩
  go_wp2
  go_end0
  exact ⟨rfl, hex, hu⟩
/-- Of none nothing turns. -/
theorem sortS_none (A : Option Addr) (c : Nat) (cv : Value) (W : World) : Calls Tryd.prog 23 #[.slice A 0 c, cv] W (fun e w' => e = .returned (.tuple #[]) ∧ w' = W) := by
  have H1 : Hid (∀ W, Calls Tryd.prog 41 #[.slice A 0 c, .int .i64 0, .int .i64 0, cv] W (fun e w' => e = .returned (.tuple #[]) ∧ w' = W)) := aside (fun W => by
    go_enter Tryd.func41, Tryd.ntmps41
    go_wp2
    refine wp_loop_rounds 1 ?_
    rw [rounds_succ]
    go_wp2
    go_end0
    exact ⟨rfl, rfl⟩)
  have H2 : Hid (∀ W, Calls Tryd.prog 32 #[.slice A 0 c, .int .i64 0, cv] W (fun e w' => e = .returned (.tuple #[]) ∧ w' = W)) := aside (fun W => by
    go_enter Tryd.func32, Tryd.ntmps32
    go_wp2
    refine wp_loop_rounds 1 ?_
    rw [rounds_succ]
    go_wp2_with fail
    refine (H1.out W).mono ?_
    rintro e w1 ⟨rfl, rfl⟩
    go_wp2
    refine wp_loop_rounds 1 ?_
    rw [rounds_succ]
    go_wp2
    go_end0
    exact ⟨rfl, rfl⟩)
  go_enter Tryd.func23, Tryd.ntmps23
  go_wp2_with fail
  refine (H2.out W).mono ?_
  rintro e w1 ⟨rfl, rfl⟩
  go_wp2
  go_end0
  exact ⟨rfl, rfl⟩
end Go.Proofs.YtgickjghfndaaaaDoor
