/- slices.insertionSortCmpFunc over places, the greatest first. Conditions: named in each theorem. -/
import Derived.Test.YtgickjghfndaaaaDoorSrtA
import Derived.Deep.RegionHeld3
namespace Go.Proofs.YtgickjghfndaaaaDoor
open Go.RowKit Go.ChangeShapes Go.WideShapes Go.ChangeAt

/-- What cmp.Compare tells. -/
def cmpI (x y : Int) : Int := if x < y then -1 else if y < x then 1 else 0
theorem cmpI_neg {x y : Int} : cmpI x y < 0 ↔ x < y := by
  unfold cmpI
  split
  · omega
  · split <;> omega
/-- The comparison that is handed in: at places that are there it compares what lies at them, the greater one first. -/
def CmpC (g : Nat) (W : World) (nb : Nat) (gf : Int → Int) (Ok : Int → Prop) : Prop := ∀ W' x y, Upon g W W' → Ok x → Ok y →
  Calls Tryd.prog 24 #[.int .i64 x, .int .i64 y, .pointer (some ⟨nb, 0, none⟩)] W' (fun e w' => e = .returned (.int .i64 (cmpI (gf y) (gf x))) ∧ Below W'.heap.size W' w')
abbrev cmpV (nb : Nat) : Value := .func (.func 24) #[] #[.pointer (some ⟨nb, 0, none⟩)]
theorem CmpC.step {g nb : Nat} {W W' : World} {gf : Int → Int} {Ok : Int → Prop} (h : CmpC g W nb gf Ok) (hu : Upon g W W') : CmpC g W' nb gf Ok := fun W2 x y h2 hx hy => h W2 x y (hu.trans h2) hx hy
theorem InsJ.mem {gf : Int → Int} {A X B xs : List Int} {i j : Nat} (h : InsJ gf A X B i j xs) {k : Nat} (h1 : A.length ≤ k) (h2 : k ≤ i) : nth xs k ∈ X := by
  have hl := h.len
  obtain ⟨S1, S2, y, T, rfl, hj, hi, hp, hT, -, -⟩ := h
  have hk : k < (A ++ (S1 ++ y :: (S2 ++ (T ++ B)))).length := by omega
  rw [nth_app2 h1]
  have e : S1 ++ y :: (S2 ++ (T ++ B)) = (S1 ++ y :: S2) ++ (T ++ B) := by simp
  have hlt : k - A.length < (S1 ++ y :: S2).length := by simp only [List.length_append, List.length_cons]; omega
  rw [e, nth_app1 hlt]
  have hm := nth_mem hlt
  have hy : y ∈ X := by
    have : y ∈ X.drop (S1 ++ S2).length := by rw [← hT]; simp
    exact List.mem_of_mem_drop this
  rcases List.mem_append.1 hm with hm | hm
  · exact List.mem_of_mem_take (hp.mem_iff.1 (List.mem_append.2 (.inl hm)))
  · rcases List.mem_cons.1 hm with hm | hm
    · rw [hm]; exact hy
    · exact List.mem_of_mem_take (hp.mem_iff.1 (List.mem_append.2 (.inr hm)))
set_option maxHeartbeats 16000000 in
set_option maxRecDepth 100000 in
theorem ins_any (A X B : List Int) (gf : Int → Int) (Ok : Int → Prop) (hX : Rise X) (hOk : ∀ x ∈ X, Ok x) (g nb len c : Nat) (hlen : (A ++ (X ++ B)).length = len) (hl : len ≤ 1000) (a b : Nat) (ha : a = A.length) (hb : b = A.length + X.length) (W : World) (hc : CmpC g W nb gf Ok) (h : RowAt W g (A ++ (X ++ B))) :
    Calls Tryd.prog 41 #[.slice (some ⟨g, 0, none⟩) len c, .int .i64 a, .int .i64 b, cmpV nb] W (fun e w' => e = .returned (.tuple #[]) ∧ (∃ S, RowAt w' g (A ++ (S ++ B)) ∧ S.Perm X ∧ S.Pairwise (LtG gf)) ∧ Upon g W w') := by
  have hlb : b ≤ len ∧ a ≤ b := by
    simp only [List.length_append] at hlen
    omega
  have hwa : IntKind.i64.wrap ((a : Int) + 1) = ((a + 1 : Nat) : Int) := by rw [IntKind.wrap_i64]; omega
  by_cases h0 : X.length = 0
  · have hX0 : X = [] := List.eq_nil_of_length_eq_zero h0
    subst hX0
    have hab : ((a : Int) + 1 < (b : Int)) = False := by simp only [eq_iff_iff, iff_false, List.length_nil] at hb ⊢; omega
    have hab2 : (((a + 1 : Nat) : Int) < (b : Int)) = False := by simp only [eq_iff_iff, iff_false, List.length_nil] at hb ⊢; omega
    have HR := aside h
    clear h hX hOk hlen ha hb h0 hc
    go_enter Tryd.func41, Tryd.ntmps41
    go_wp2
    refine wp_loop_rounds 1 ?_
    rw [rounds_succ]
    go_wp2
    go_end0
    exact ⟨rfl, ⟨[], HR.out, List.Perm.refl _, List.Pairwise.nil⟩, Upon.refl g _⟩
  · have HS := aside (InsO.start (g := gf) (A := A) (B := B) (Nat.pos_of_ne_zero h0))
    have HR := aside h
    have HU := aside (Upon.refl g W)
    have HCC := aside hc
    have HX := aside hX
    have HOK := aside hOk
    have hla : (A ++ (X ++ B)).length = len := hlen
    have hab0 : a < b := by omega
    have HAB := aside (And.intro ha hb)
    rw [← ha] at HS
    generalize hxs : A ++ (X ++ B) = xs at HS HR hla
    clear hxs h hlen hX hOk hc ha hb h0
    go_enter Tryd.func41, Tryd.ntmps41
    go_wp2
    go_loopw [8] (fun v8 wr => ∃ (i : Nat) (ys : List Int), a + 1 ≤ i ∧ i ≤ b ∧ v8 = .int .i64 i ∧ Hid (InsO gf A X B i ys) ∧ Hid (RowAt wr g ys) ∧ Hid (Upon g W wr) ∧ ys.length = len) (fun v8 _ => b - (Go.RowKit.intOf v8).toNat)
    case atStart => exact ⟨a + 1, xs, Nat.le_refl _, hab0, by go_num, HS, HR, HU, hla⟩
    case round =>
      clear HS HR HU hla hwa
      obtain ⟨i, ys, hi1, hi2, rfl, HS, HR, HU, hly⟩ := hrel
      by_cases hin : i < b
      · have i0 : (i : Int) < (b : Int) := by omega
        have HJ := aside (HS.out.inner (by have := HAB.out.1; have := HAB.out.2; omega))
        clear HS
        go_wp2_with fail
        go_loopw [9] (fun v9 wq => ∃ (j : Nat) (zs : List Int), a ≤ j ∧ j ≤ i ∧ v9 = .int .i64 j ∧ Hid (InsJ gf A X B i j zs) ∧ Hid (RowAt wq g zs) ∧ Hid (Upon g W wq) ∧ zs.length = len) (fun v9 _ => (Go.RowKit.intOf v9).toNat)
        case atStart => exact ⟨i, ys, by omega, Nat.le_refl _, rfl, HJ, HR, HU, hly⟩
        case round =>
          clear HJ HR HU hly
          obtain ⟨j, zs, hj1, hj2, rfl, HJ, HR, HU, hly⟩ := hrel
          by_cases hja : a < j
          · obtain ⟨k, hjk⟩ : ∃ k, j = k + 1 := ⟨j - 1, by omega⟩
            obtain ⟨p1, f1⟩ := HR.out.cell (k := j) (by omega)
            obtain ⟨p2, f2⟩ := HR.out.cell (k := k) (by omega)
            have hA := HAB.out.1
            have m1 := HOK.out _ (HJ.out.mem (k := j) (by omega) (by omega))
            have m2 := HOK.out _ (HJ.out.mem (k := k) (by omega) (by omega))
            have hmv : gf (nth zs k) < gf (nth zs j) → InsJ gf A X B i k ((zs.set j (nth zs k)).set k (nth zs j)) := fun hl => by
              have hJ := HJ.out
              rw [hjk] at hJ hl ⊢
              exact hJ.move HX.out (by omega) hl
            have hst : ¬ gf (nth zs k) < gf (nth zs j) → InsO gf A X B (i + 1) zs := fun hl => HJ.out.stop HX.out (.inr (by rw [show j - 1 = k by omega]; exact hl))
            have HMV := aside hmv
            have HST := aside hst
            have hlz : ((zs.set j (nth zs k)).set k (nth zs j)).length = len := by simpa using hly
            have HLZ := aside hlz
            have HTW : Hid (∀ W', RowAt W' g zs → RowAt ((W'.setCell ⟨g, j, none⟩ (.int .i64 (nth zs k))).setCell ⟨g, k, none⟩ (.int .i64 (nth zs j))).drew g ((zs.set j (nth zs k)).set k (nth zs j)) ∧ Upon g W' ((W'.setCell ⟨g, j, none⟩ (.int .i64 (nth zs k))).setCell ⟨g, k, none⟩ (.int .i64 (nth zs j))).drew) := aside (fun W' h => h.two (by omega) (by omega) _ _)
            have HCL : Hid (∀ W', RowAt W' g zs → W'.cell? ⟨g, j, none⟩ = some (.int .i64 (nth zs j)) ∧ W'.cell? ⟨g, k, none⟩ = some (.int .i64 (nth zs k)) ∧ W'.frozen? ⟨g, j, none⟩ = false ∧ W'.frozen? ⟨g, k, none⟩ = false) := aside (fun W' h => ⟨(h.cell (by omega)).1, (h.cell (by omega)).1, (h.cell (by omega)).2, (h.cell (by omega)).2⟩)
            generalize nth zs j = y at p1 m1 HMV HST HLZ HTW HCL
            generalize nth zs k = z at p2 m2 HMV HST HLZ HTW HCL
            have HM1 := aside m1
            have HM2 := aside m2
            have HJK := aside hjk
            have j0 : (a : Int) < (j : Int) := by omega
            have hwk : IntKind.i64.wrap ((j : Int) - 1) = (k : Int) := by rw [IntKind.wrap_i64]; omega
            have jl : (j : Int) < (len : Int) := by omega
            have kl : (k : Int) < (len : Int) := by omega
            have jn : j < len := by omega
            have kn : k < len := by omega
            have ne1 : (j = k) = False := by simp only [eq_iff_iff, iff_false]; omega
            have ne2 : (k = j) = False := by simp only [eq_iff_iff, iff_false]; omega
            have hrd : RowAt wr.drew g zs := HR.out.same rfl
            have HRD := aside hrd
            have hs0 := HCL.out _ hrd
            have HS0 : wr.drew.cell? ⟨g, j, none⟩ = some (.int .i64 y) ∧ wr.drew.cell? ⟨g, k, none⟩ = some (.int .i64 z) := ⟨hs0.1, hs0.2.1⟩
            obtain ⟨r, hr⟩ : ∃ r, r = cmpI (gf z) (gf y) := ⟨_, rfl⟩
            have HRR := aside hr
            have HC2 : Hid (∀ W', Upon g W W' → Calls Tryd.prog 24 #[.int .i64 y, .int .i64 z, .pointer (some ⟨nb, 0, none⟩)] W' (fun e w' => e = .returned (.int .i64 r) ∧ Below W'.heap.size W' w')) := aside (fun W' hu => by rw [hr]; exact HCC.out W' y z hu HM1.out HM2.out)
            clear hmv hst hlz hjk hA m1 m2 hrd hs0 hr HJ f1 f2 p1 p2
            go_wp2_with fail
            go_region_held3 (fun X => X.cell? ⟨g, j, none⟩ = some (.int .i64 y) ∧ X.cell? ⟨g, k, none⟩ = some (.int .i64 z))
              (with_reducible (first | exact HS0 | exact HS1))
              (first | (go_at_call 24; refine ((HC2.out _ (HU.out.trans (Upon.drew _ g))).mono ?_); rintro e w4 ⟨rfl, hb⟩; have HR4 := aside (HRD.out.below hb); have HU4 := aside ((HU.out.trans (Upon.drew _ g)).trans (Upon.of_below hb g)); have hs4 := HCL.out _ HR4.out; have HS1 : w4.cell? ⟨g, j, none⟩ = some (.int .i64 y) ∧ w4.cell? ⟨g, k, none⟩ = some (.int .i64 z) := ⟨hs4.1, hs4.2.1⟩; clear hb))
            clear HS0 HS1
            obtain ⟨c1, c2, c3, c4⟩ := hs4
            by_cases hlt : r < 0
            · have hgl := cmpI_neg.1 (HRR.out ▸ hlt)
              have HN := aside (HMV.out hgl)
              have HT := aside (HTW.out w4 HR4.out)
              clear hgl HST HMV
              go_wp2_with fail
              go_region
              go_wp2
              exact ⟨⟨k, _, by have := HJK.out; omega, by have := HJK.out; omega, rfl, HN, aside HT.out.1, aside (HU4.out.trans HT.out.2), HLZ.out⟩, by have := HJK.out; simp [Go.RowKit.intOf]; omega⟩
            · have hge : ¬ gf z < gf y := fun h => by
                have h2 := cmpI_neg.2 h
                rw [← HRR.out] at h2
                omega
              have HN := aside (HST.out (by omega))
              clear hge
              have i2 : (i : Int) + 1 ≤ (b : Int) := by omega
              have hwi : IntKind.i64.wrap ((i : Int) + 1) = ((i + 1 : Nat) : Int) := by rw [IntKind.wrap_i64]; omega
              clear HST HMV c1 c2 c3 c4
              go_wp2
              exact ⟨⟨i + 1, zs, by omega, by omega, by go_num, HN, HR4, HU4, hly⟩, by simp [Go.RowKit.intOf]; omega⟩
          · obtain rfl : a = j := by omega
            have HN := aside (HJ.out.stop HX.out (.inl HAB.out.1))
            have j0 : ((a : Int) < (a : Int)) = False := by simp
            have hwi : IntKind.i64.wrap ((i : Int) + 1) = ((i + 1 : Nat) : Int) := by rw [IntKind.wrap_i64]; omega
            have HR4 : Hid (RowAt wr.drew g zs) := aside (HR.out.same rfl)
            have HU4 := aside (HU.out.trans (Upon.drew wr g))
            clear HJ
            go_wp2_with fail
            go_region
            go_wp2
            exact ⟨⟨i + 1, zs, by omega, by omega, by go_num, HN, HR4, HU4, hly⟩, by simp [Go.RowKit.intOf]; omega⟩
      · obtain rfl : b = i := by omega
        have i0 : ((b : Int) < (b : Int)) = False := by simp
        have hd : ∃ S, ys = A ++ (S ++ B) ∧ S.Perm X ∧ S.Pairwise (LtG gf) := by
          have h := HS.out
          rw [HAB.out.2] at h
          exact h.done
        obtain ⟨S, rfl, hp, hs⟩ := hd
        have HP := aside hp
        have HSo := aside hs
        clear HS hp hs hly
        go_wp2
        go_end0
        exact ⟨rfl, ⟨S, HR.out, HP.out, HSo.out⟩, HU.out⟩
end Go.Proofs.YtgickjghfndaaaaDoor
