/- VestRises: later one has no less; nothing ahead of the cliff, all at the end; and the steps of any times are none below 0, and together what one has at the last one. No condition. -/
import Derived.Test.YtcahhbpjpahbgaaVestSt
import Derived.Deep.RegionWith
import Derived.Deep.DeepCutAuto
import Derived.IntWalk
namespace Go.Proofs.Ytcahhbpjpahbgaa
open Go.RowKit Go.ChangeShapes Go.WideShapes Go.ChangeAt

theorem vested_mono {t s c l a b : Int} (h : GOk t s c l) (hab : a ≤ b) : vested t s c l a ≤ vested t s c l b := by
  have h0 := vested_bd t s c l b h
  obtain ⟨h1, h2, h3, h4, h5, h6, h7, h8, h9, h10⟩ := h
  by_cases ha : a - s < c
  · rw [vested_early ha]; exact h0.1
  · by_cases hal : l ≤ a - s
    · rw [vested_all (by omega) hal, vested_all (by omega) (by omega)]; exact Int.le_refl _
    · rw [vested_mid (by omega) (by omega)]
      by_cases hbl : l ≤ b - s
      · rw [vested_all (by omega) hbl]
        exact Int.ediv_le_of_le_mul (by omega) (Int.mul_le_mul_of_nonneg_left (by omega) h1)
      · rw [vested_mid (by omega) (by omega)]
        exact Int.ediv_le_ediv (by omega) (Int.mul_le_mul_of_nonneg_left (by omega) h1)

theorem stepAt_nonneg {t s c l : Int} {ts : List Int} {k : Nat} (h : GOk t s c l) (hf : FineTo ts (k + 1)) : 0 ≤ stepAt t s c l ts k := by
  unfold stepAt lastV
  split
  · have := vested_bd t s c l (nth ts k) h; omega
  · have := vested_mono h ((hf k (by omega)).2 (by omega))
    omega
theorem sum_succ (t s c l : Int) (ts : List Int) (k : Nat) : lastV t s c l ts k + stepAt t s c l ts k = lastV t s c l ts (k + 1) := by
  rw [lastV_succ]; unfold stepAt; omega
theorem nth_steps {t s c l : Int} {ts : List Int} {k n : Nat} (h : k < n) : nth (stepsTo t s c l ts n) k = stepAt t s c l ts k := by
  rw [nth_get (by rw [stepsTo_len]; exact h)]
  simp [stepsTo]

set_option maxHeartbeats 4000000 in
set_option maxRecDepth 100000 in
theorem rises_any (t s c l now later : Int) (ts : List Int) (A : Option Addr) (n cap : Nat) (w : World) (hcap : n ≤ cap) (hmax : cap ≤ maxLen) (hts : ISl w w.heap.size A n ts) :
    Calls Try.prog 5 #[.agg #[.int .i64 t, .int .i64 s, .int .i64 c, .int .i64 l], .int .i64 now, .int .i64 later, .slice A n cap] w (LawPost w) := by
  go_enter Try.func5, Try.ntmps5
  go_wp2_with fail
  refine (granted_any _).mono ?_
  rintro e w1 ⟨rfl, hb1⟩
  obtain ⟨hc1, hf1⟩ := bcell hb1
  have hz1 := hb1.size
  simp only [World.size_alloc] at hc1 hf1 hz1
  have hz1' : w.heap.size < w1.heap.size := hz1
  have hB1 : Below (w.heap.size + 1) (w.alloc (.cells #[.int .i64 t, .int .i64 s, .int .i64 c, .int .i64 l] 23)) w1 := hb1.mono (by simp)
  have hz0 : w.heap.size < w.heap.size + 1 := by omega
  go_wp2_with fail
  refine (at_any _ _ _ _ _ _).mono ?_
  rintro e w2 ⟨n2, v2, rfl, hr2, hb2⟩
  obtain ⟨hc2, hf2⟩ := bcell hb2
  have hz2 := hb2.size
  have hB2 := hB1.trans (hb2.mono hz1)
  have k3 : w.heap.size < w2.heap.size := by omega
  go_wp2_with fail
  refine (at_any _ _ _ _ _ _).mono ?_
  rintro e w3 ⟨n3, v3, rfl, hr3, hb3⟩
  have hz3 := hb3.size
  have hB3 := hB2.trans (hb3.mono (by omega))
  have hBw3 : Below w.heap.size w w3 := ((Below.refl _ _).alloc (Nat.le_refl _) _).trans (hB3.mono (by omega))
  clear hc1 hf1 hc2 hf2 hb1 hb2 hb3 hB1 hB2
  obtain ⟨hc3, hf3⟩ := bcell hB3
  have k4 : w.heap.size < w3.heap.size := by omega
  rcases hr2 with ⟨h2, rfl, hn2⟩ | ⟨h2, rfl, rfl⟩
  · rcases hr3 with ⟨h3, rfl, hn3⟩ | ⟨h3, rfl, rfl⟩
    · have hok := h2.1
      have hbd2 := vested_bd t s c l now hok
      rw [← hn2] at hbd2
      have ⟨b1, b2⟩ := hbd2
      have hbd3 := vested_bd t s c l later hok
      rw [← hn3] at hbd3
      have ⟨b3, b4⟩ := hbd3
      have ⟨g1, g2, g3, g4, g5, g6, g7, g8, _, g10⟩ := hok
      have g11 := h2.2.1
      have g12 := h2.2.2
      have H2 := aside hn2
      clear hn2
      have Hm : Hid (now ≤ later → n2 ≤ n3) := fun hle => by rw [H2.out, hn3]; exact vested_mono hok hle
      clear hbd2 hbd3 h3 hn3
      have Hw3 : Hid (w3 = w3) := rfl
      go_upto_region 8 with fail
      go_cut [86] (fun s86 wx => s86 = .bool false ∧ wx = w3)
      case first =>
        by_cases hle : now ≤ later
        · have hm := Hm.out hle
          clear Hm
          by_cases he : now - s < c
          · obtain rfl : n2 = 0 := H2.out.trans (vested_early he)
            have hl' : ¬ l ≤ now - s := by omega
            go_wp2_with fail
            go_meet
            exact ⟨by simp <;> omega, rfl⟩
          · by_cases hl' : l ≤ now - s
            · obtain rfl : n2 = t := H2.out.trans (vested_all (by omega) hl')
              go_wp2_with fail
              go_meet
              exact ⟨by simp <;> omega, rfl⟩
            · go_wp2_with fail
              go_meet
              exact ⟨by simp <;> omega, rfl⟩
        · clear Hm
          by_cases he : now - s < c
          · obtain rfl : n2 = 0 := H2.out.trans (vested_early he)
            have hl' : ¬ l ≤ now - s := by omega
            go_wp2_with fail
            go_meet
            exact ⟨by simp <;> omega, rfl⟩
          · by_cases hl' : l ≤ now - s
            · obtain rfl : n2 = t := H2.out.trans (vested_all (by omega) hl')
              go_wp2_with fail
              go_meet
              exact ⟨by simp <;> omega, rfl⟩
            · go_wp2_with fail
              go_meet
              exact ⟨by simp <;> omega, rfl⟩
      case rest =>
        obtain ⟨rfl, rfl⟩ := hcut
        obtain ⟨hc3, hf3⟩ := bcell hB3
        have htsc : ISl wc wc.heap.size A n ts := Sl.more (Sl.below hts hBw3) (by omega)
        go_wp2_with fail
        refine (steps_any t s c l ts A n cap _ hcap hmax htsc).mono ?_
        rintro e w4 ⟨A4, m4, c4, v4, rfl, hb4, ⟨_, hts1, hfine, rfl, hm4, hc41, hc42, hs4⟩ | ⟨k, _, rfl, rfl, rfl, rfl⟩⟩
        · by_cases hn0 : n = 0
          · have hn0' : ((n : Int) == 0) = true := by subst hn0; rfl
            clear hn0
            go_wp2
            go_ret
            exact ⟨by simp, hBw3.trans (hb4.mono (by omega))⟩
          · have hn0' : ((n : Int) == 0) = false := by simpa using hn0
            have hlen := hts.len
            have hpos : 0 < n := Nat.pos_of_ne_zero hn0
            clear hn0
            obtain rfl : m4 = n := by omega
            rw [hlen] at hs4 hfine
            have hm100 : m4 ≤ 100 := by omega
            have Hlen := aside hlen
            clear hlen hm4
            have hB4 : Below (w.heap.size + 1) (w.alloc (.cells #[.int .i64 t, .int .i64 s, .int .i64 c, .int .i64 l] 23)) w4 := hB3.trans (hb4.mono (by omega))
            have hz4 := hb4.size
            have k5 : w.heap.size < w4.heap.size := by omega
            clear hc3 hf3 hB3 htsc hb4
            go_wp2_with fail
            go_loop [16, 17] (fun v16 v17 => ∃ k : Nat, k ≤ m4 ∧ v17 = .int .i64 k ∧ v16 = .int .i64 (lastV t s c l ts k)) (fun _ v17 => m4 - (intOf v17).toNat)
            case atStart => exact ⟨0, Nat.zero_le _, rfl, rfl⟩
            case round =>
              obtain ⟨k, hk, rfl, rfl⟩ := hrel
              by_cases hlt : k < m4
              · obtain ⟨b, off, rfl, hbl, hcel⟩ := hs4.at_ hlt
                rw [nth_steps hlt] at hcel
                have q1 := lastV_bd t s c l ts k hok
                have q2 := lastV_bd t s c l ts (k + 1) hok
                have q3 := stepAt_nonneg (t := t) (s := s) (c := c) (l := l) (k := k) hok (fun j hj => hfine j (by omega))
                have q4 := sum_succ t s c l ts k
                obtain ⟨q11, q12⟩ := q1
                have q5 : stepAt t s c l ts k ≤ 1073741824 := by omega
                have Q4 := aside q4
                clear q4 q2
                go_wp2
                go_round
                case rel => exact ⟨k + 1, by omega, by go_num, ret_int Q4.out⟩
                case measure => simp [intOf]; omega
              · obtain rfl : k = m4 := by omega
                have hlast := lastV_succ t s c l ts (k - 1)
                rw [show k - 1 + 1 = k from by omega] at hlast
                obtain ⟨m, rfl⟩ : ∃ m, k = m + 1 := ⟨k - 1, by omega⟩
                obtain ⟨b, off, rfl, hbl, hcel⟩ := hts.at_ (k := m) (by omega)
                obtain ⟨hc4, hf4⟩ := bcell hB4
                have hcp : w4.cell? ⟨b, off + m, none⟩ = some (.int .i64 (nth ts m)) := by
                  rw [hc4 b _ (by omega), World.cell?_alloc_past _ _ _ hbl]; exact hcel
                have hg0 : w4.cell? ⟨w.heap.size, 0, none⟩ = some (.int .i64 t) := by rw [hc4 _ _ (by omega), World.cell?_alloc_at _ _ _ _ rfl]; rfl
                have hg1 : w4.cell? ⟨w.heap.size, 1, none⟩ = some (.int .i64 s) := by rw [hc4 _ _ (by omega), World.cell?_alloc_at _ _ _ _ rfl]; rfl
                have hg2 : w4.cell? ⟨w.heap.size, 2, none⟩ = some (.int .i64 c) := by rw [hc4 _ _ (by omega), World.cell?_alloc_at _ _ _ _ rfl]; rfl
                have hg3 : w4.cell? ⟨w.heap.size, 3, none⟩ = some (.int .i64 l) := by rw [hc4 _ _ (by omega), World.cell?_alloc_at _ _ _ _ rfl]; rfl
                clear hc4 hf4 hcel
                have Hlast : Hid (lastV t s c l ts (m + 1) = vested t s c l (nth ts m)) := lastV_succ t s c l ts m
                clear hlast
                have hi1 : (0 : Int) ≤ (m : Int) := by omega
                have hi2 : (m : Int) < (m : Int) + 1 := by omega
                have hw1 : IntKind.i64.wrap ((m : Int) + 1 - 1) = (m : Int) := by rw [show (m : Int) + 1 - 1 = (m : Int) from by omega]; exact IntWalk.i64_in _ (by omega)
                have hw2 : IntKind.i64.wrap (m : Int) = (m : Int) := IntWalk.i64_in _ (by omega)
                go_wp2_with fail
                go_region_with (go_at_call 7; refine (at_any _ _ _ _ _ _).mono ?_; rintro e w5 ⟨n5, v5, rfl, hr5, hb5⟩)
                all_goals
                  rcases hr5 with ⟨h5, rfl, rfl⟩ | ⟨h5, rfl, rfl⟩
                  · have hq : (lastV t s c l ts (m + 1) == vested t s c l (nth ts m)) = true := beq_iff_eq.2 Hlast.out
                    go_wp2
                    go_ret
                    exact ⟨by simp, (((Below.refl _ _).alloc (Nat.le_refl _) _).trans (hB4.mono (by omega))).drew.trans (hb5.mono (Nat.le_of_lt (show w.heap.size < w4.heap.size from k5)))⟩
                  · exact absurd ⟨hok, (hfine m (by omega)).1⟩ h5
        · go_wp2
          go_ret
          exact ⟨rfl, hBw3.trans (hb4.mono (by omega))⟩
    · clear h2 h3
      go_wp2
      go_ret
      exact ⟨rfl, hBw3⟩
  · clear h2 hr3
    go_wp2
    go_ret
    exact ⟨rfl, hBw3⟩

/-- What the law's arguments are. -/
theorem vestRises_walk {H : Type} {enc : TypeId × Value → H} (W : World) (args : Array Value) (ds : List (DataW H)) (ps : List MemPlace)
    (h : LawPre enc Try.prog Try.f5 W args ds ps) : Calls Try.prog 5 args W (LawPost W) := by
  obtain ⟨hA, ⟨base, hval⟩, hlt, _⟩ := h
  rw [Try.params5] at hA hval
  obtain ⟨v0, v1, v2, v3, d0, d1, d2, d3, p0, p1, p2, p3, rfl, rfl, rfl, h0, h1, h2, h3⟩ := trodAll_four hA
  obtain ⟨t, s, c, l, rfl⟩ := open_grant (hval 0 _ v0 rfl rfl) h0
  obtain ⟨now, rfl, rfl, rfl, _⟩ := open_int Try.underlying3 (hval 1 _ v1 rfl rfl) h1
  obtain ⟨later, rfl, rfl, rfl, _⟩ := open_int Try.underlying3 (hval 2 _ v2 rfl rfl) h2
  obtain ⟨A, n, c', zs, rfl, hc1, hc2, hs, _, _⟩ := open_intSlice (hval 3 _ v3 rfl rfl) h3 (fun x hx => hlt x (by simp [hx]))
  exact rises_any t s c l now later zs A n c' W hc1 hc2 hs

set_option maxRecDepth 100000 in
theorem vestRises_lifted (os : Os) (started : os.Started) (H : Type) (enc : TypeId × Value → H) :
    ReturnsInHanded {} Try.checked os 5 .any (Rows.vestRisesSpec.pre6 enc Try.prog Try.f5 Rows.vestRisesRow.domain false) (Rows.vestRisesSpec.post enc Try.prog Try.f5 false true false false) :=
  law_lifted (C := Try.checked) (B := 4) (n := 4) Try.own started (by kernel_rfl) Try.func5
      (ChangeSpec.witness6 (enc := enc) (C := Try.checked) false ⟨#[], #[.agg #[.int .i64 0, .int .i64 0, .int .i64 0, .int .i64 0], .int .i64 0, .int .i64 0, .slice none 0 0], []⟩ 8 (by kernel_rfl) (by kernel_rfl) (by kernel_rfl) (by kernel_rfl))
      rfl Try.underlying4 (by kernel_rfl) Try.laidOut (by kernel_rfl) (by kernel_rfl) (fun ds h => by match ds, h with | [a, b, c, d], _ => rfl) vestRises_walk

/-- The statement. -/
theorem VestRises_holds : Rows.VestRisesSaid :=
  OpenClaim.holds_of_wide 5 Try.f5 rfl rfl rfl rfl rfl rfl rfl ⟨rfl, rfl, rfl, rfl, rfl⟩ rfl rfl rfl rfl rfl (by kernel_rfl) Try.func5 (by kernel_rfl)
    (of_decide_eq_true (by kernel_rfl)) (by unfold Func.isWrapper; first | (rw [if_pos (by decide +kernel)]; kernel_rfl) | (rw [if_neg (by decide +kernel)]; exact ⟨rfl, rfl⟩))
    (fun os started H enc _ => vestRises_lifted os started H enc)
#print axioms VestRises_holds
end Go.Proofs.Ytcahhbpjpahbgaa
