/- VestSplits: of two grants of one time one has, together, at each time, what one has of one of both, or one less. No condition: every grant, every amount, every time. -/
import Derived.Test.YtcahhbpjpahbgaaVest
namespace Go.Proofs.Ytcahhbpjpahbgaa
open Go.RowKit Go.ChangeShapes Go.WideShapes Go.ChangeAt

theorem ediv_split (a b l : Int) (hl : 0 < l) : (a + b) / l = a / l + b / l ∨ (a + b) / l = a / l + b / l + 1 := by
  have h1 := Int.mul_ediv_add_emod a l
  have h2 := Int.mul_ediv_add_emod b l
  have h3 := Int.emod_nonneg a (Int.ne_of_gt hl)
  have h4 := Int.emod_lt_of_pos a hl
  have h5 := Int.emod_nonneg b (Int.ne_of_gt hl)
  have h6 := Int.emod_lt_of_pos b hl
  have e : a + b = (a % l + b % l) + l * (a / l + b / l) := by rw [Int.mul_add]; omega
  have h7 : (a + b) / l = (a % l + b % l) / l + (a / l + b / l) := by rw [e, Int.add_mul_ediv_left _ _ (Int.ne_of_gt hl)]
  by_cases h : a % l + b % l < l
  · left
    rw [h7, Int.ediv_eq_zero_of_lt (by omega) h]; omega
  · right
    have h8 : (a % l + b % l) / l = 1 := by
      have : a % l + b % l = (a % l + b % l - l) + l * 1 := by omega
      rw [this, Int.add_mul_ediv_left _ _ (Int.ne_of_gt hl), Int.ediv_eq_zero_of_lt (by omega) (by omega)]; rfl
    rw [h7, h8]; omega

theorem vested_split (t o s c l now : Int) (hl : 0 < l) : vested t s c l now + vested o s c l now = vested (t + o) s c l now ∨ vested t s c l now + vested o s c l now = vested (t + o) s c l now - 1 := by
  unfold vested
  by_cases h : now - s < c
  · simp [h]
  · by_cases h' : l ≤ now - s
    · simp [h, h']
    · simp only [h, h', if_false]
      rw [Int.add_mul]
      rcases ediv_split (t * (now - s)) (o * (now - s)) l hl with e | e
      · left; omega
      · right; omega

/-- The end of the law, where all three have an answer. -/
theorem split_end {t s c l o now : Int} (h1 : AtOk t s c l now) (h2 : AtOk o s c l now) (h3 : AtOk (wrap64 (t + o)) s c l now) :
    (0 ≤ vested t s c l now ∧ vested t s c l now ≤ 1073741824 ∧ 0 ≤ vested o s c l now ∧ vested o s c l now ≤ 1073741824 ∧ 0 ≤ vested (wrap64 (t + o)) s c l now ∧ vested (wrap64 (t + o)) s c l now ≤ 1073741824) ∧
    ((vested t s c l now + vested o s c l now == vested (wrap64 (t + o)) s c l now) = true ∨
    ((vested t s c l now + vested o s c l now == vested (wrap64 (t + o)) s c l now) = false ∧ (vested t s c l now + vested o s c l now == vested (wrap64 (t + o)) s c l now - 1) = true)) := by
  have b1 := vested_bd t s c l now h1.1
  have b2 := vested_bd o s c l now h2.1
  have b3 := vested_bd _ s c l now h3.1
  obtain ⟨⟨a1, a2, _, _, _, _, a7, _, a9, _⟩, _⟩ := h1
  obtain ⟨⟨a3, a4, _⟩, _⟩ := h2
  obtain ⟨⟨a5, a6, _⟩, _⟩ := h3
  have e : wrap64 (t + o) = t + o := by unfold wrap64; omega
  refine ⟨⟨b1.1, by omega, b2.1, by omega, b3.1, by omega⟩, ?_⟩
  rw [e]
  rcases vested_split t o s c l now (by omega) with h | h
  · exact .inl (beq_iff_eq.2 h)
  · exact .inr ⟨beq_eq_false_iff_ne.2 (by omega), beq_iff_eq.2 h⟩

set_option maxHeartbeats 2000000 in
theorem splits_any (t s c l o now : Int) (w : World) : Calls Try.prog 3 #[.agg #[.int .i64 t, .int .i64 s, .int .i64 c, .int .i64 l], .int .i64 o, .int .i64 now] w (LawPost w) := by
  go_enter Try.func3, Try.ntmps3
  go_wp2_with fail
  refine (granted_any _).mono ?_
  rintro e w1 ⟨rfl, hb1⟩
  obtain ⟨hc1, hf1⟩ := bcell hb1
  have hz1 := hb1.size
  simp only [World.size_alloc] at hc1 hf1 hz1
  have hz1' : w.heap.size < w1.heap.size := hz1
  have hB1 : Below w.heap.size w w1 := ((Below.refl _ _).alloc (Nat.le_refl _) _).trans (hb1.mono (by simp))
  go_wp2_with fail
  refine (at_any _ _ _ _ _ _).mono ?_
  rintro e w2 ⟨n2, v2, rfl, hr2, hb2⟩
  obtain ⟨hc2, hf2⟩ := bcell hb2
  have hz2 := hb2.size
  simp only [World.size_alloc] at hc2 hf2 hz2
  have hB2 : Below w.heap.size w w2 := (hB1.alloc (Nat.le_of_lt hz1') _).alloc (by simp; omega) _ |>.trans (hb2.mono (by simp; omega))
  have k1 : w1.heap.size < w2.heap.size := by omega
  have k2 : w1.heap.size + 1 < w2.heap.size := by omega
  have k3 : w.heap.size < w2.heap.size := by omega
  have k4 : w.heap.size < w1.heap.size + 1 := by omega
  have k5 : w.heap.size < w1.heap.size + 1 + 1 := by omega
  go_wp2_with fail
  refine (at_any _ _ _ _ _ _).mono ?_
  rintro e w3 ⟨n3, v3, rfl, hr3, hb3⟩
  obtain ⟨hc3, hf3⟩ := bcell hb3
  have hz3 := hb3.size
  have hB3 : Below w.heap.size w w3 := hB2.trans (hb3.mono (by omega))
  have k6 : w1.heap.size < w3.heap.size := by omega
  have k7 : w1.heap.size + 1 < w3.heap.size := by omega
  have k8 : w.heap.size < w3.heap.size := by omega
  go_wp2_with fail
  refine (at_any _ _ _ _ _ _).mono ?_
  rintro e w4 ⟨n4, v4, rfl, hr4, hb4⟩
  have hB4 : Below w.heap.size w w4 := hB3.trans (hb4.mono (by omega))
  clear hc1 hf1 hc2 hf2 hc3 hf3 hz1 hz1' hz2 hz3 k1 k2 k3 k4 k5 k6 k7 k8 hb1 hb2 hb3 hb4 hB1 hB2 hB3
  rcases hr2 with ⟨h2, rfl, rfl⟩ | ⟨h2, rfl, rfl⟩
  · rcases hr3 with ⟨h3, rfl, rfl⟩ | ⟨h3, rfl, rfl⟩
    · rcases hr4 with ⟨h4, rfl, rfl⟩ | ⟨h4, rfl, rfl⟩
      · have he := split_end h2 h3 h4
        generalize vested t s c l now = a at he ⊢
        generalize vested o s c l now = b at he ⊢
        generalize vested (wrap64 (t + o)) s c l now = d at he ⊢
        obtain ⟨⟨a1, a2, a3, a4, a5, a6⟩, he⟩ := he
        rcases he with he | ⟨he, he'⟩
        · go_wp2
          go_ret
          exact ⟨rfl, hB4⟩
        · go_wp2
          go_ret
          exact ⟨by simp, hB4⟩
      · clear h2 h3 h4
        go_wp2
        go_ret
        exact ⟨rfl, hB4⟩
    · clear h2 h3 hr4
      go_wp2
      go_ret
      exact ⟨rfl, hB4⟩
  · clear h2 hr3 hr4
    go_wp2
    go_ret
    exact ⟨rfl, hB4⟩

/-- What the law's arguments are. -/
theorem vestSplits_walk {H : Type} {enc : TypeId × Value → H} (W : World) (args : Array Value) (ds : List (DataW H)) (ps : List MemPlace)
    (h : LawPre enc Try.prog Try.f3 W args ds ps) : Calls Try.prog 3 args W (LawPost W) := by
  obtain ⟨hA, ⟨base, hval⟩, _, _⟩ := h
  rw [Try.params3] at hA hval
  obtain ⟨v0, v1, v2, d0, d1, d2, p0, p1, p2, rfl, rfl, rfl, h0, h1, h2⟩ := trodAll_three hA
  obtain ⟨t, s, c, l, rfl⟩ := open_grant (hval 0 _ v0 rfl rfl) h0
  obtain ⟨o, rfl, rfl, rfl, _⟩ := open_int Try.underlying3 (hval 1 _ v1 rfl rfl) h1
  obtain ⟨now, rfl, rfl, rfl, _⟩ := open_int Try.underlying3 (hval 2 _ v2 rfl rfl) h2
  exact splits_any t s c l o now W

set_option maxRecDepth 100000 in
theorem vestSplits_lifted (os : Os) (started : os.Started) (H : Type) (enc : TypeId × Value → H) :
    ReturnsInHanded {} Try.checked os 3 .any (Rows.vestSplitsSpec.pre6 enc Try.prog Try.f3 Rows.vestSplitsRow.domain false) (Rows.vestSplitsSpec.post enc Try.prog Try.f3 false true false false) :=
  law_lifted (C := Try.checked) (B := 4) (n := 3) Try.own started (by kernel_rfl) Try.func3
      (ChangeSpec.witness6 (enc := enc) (C := Try.checked) false ⟨#[], #[.agg #[.int .i64 0, .int .i64 0, .int .i64 0, .int .i64 0], .int .i64 0, .int .i64 0], []⟩ 8 (by kernel_rfl) (by kernel_rfl) (by kernel_rfl) (by kernel_rfl))
      rfl Try.underlying4 (by kernel_rfl) Try.laidOut (by kernel_rfl) (by kernel_rfl) (fun ds h => by match ds, h with | [a, b, c], _ => rfl) vestSplits_walk

/-- The statement. -/
theorem VestSplits_holds : Rows.VestSplitsSaid :=
  OpenClaim.holds_of_wide 3 Try.f3 rfl rfl rfl rfl rfl rfl rfl ⟨rfl, rfl, rfl, rfl, rfl⟩ rfl rfl rfl rfl rfl (by kernel_rfl) Try.func3 (by kernel_rfl)
    (of_decide_eq_true (by kernel_rfl)) (by unfold Func.isWrapper; first | (rw [if_pos (by decide +kernel)]; kernel_rfl) | (rw [if_neg (by decide +kernel)]; exact ⟨rfl, rfl⟩))
    (fun os started H enc _ => vestSplits_lifted os started H enc)
#print axioms VestSplits_holds
end Go.Proofs.Ytcahhbpjpahbgaa
