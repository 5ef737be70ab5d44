/- VestLate: a grant that starts so much later is at each time, as much later, what it was. No condition: every grant, every time, every number. -/
import Derived.Test.YtcahhbpjpahbgaaVest
namespace Go.Proofs.Ytcahhbpjpahbgaa
open Go.RowKit Go.ChangeShapes Go.WideShapes Go.ChangeAt

theorem late_end {t s c l now n : Int} (hn0 : 0 ≤ n) (hn1 : n ≤ 1073741824) (h1 : AtOk t s c l now) (_h2 : AtOk t (wrap64 (s + n)) c l (wrap64 (now + n))) :
    (vested t s c l now == vested t (wrap64 (s + n)) c l (wrap64 (now + n))) = true := by
  obtain ⟨⟨a1, a2, a3, a4, a5, a6, a7, a8, a9, _⟩, a10, a11⟩ := h1
  have e1 : wrap64 (s + n) = s + n := by unfold wrap64; omega
  have e2 : wrap64 (now + n) = now + n := by unfold wrap64; omega
  rw [e1, e2]
  have e3 : now + n - (s + n) = now - s := by omega
  simp only [vested, e3, beq_self_eq_true]

set_option maxHeartbeats 2000000 in
theorem late_any (t s c l now n : Int) (w : World) : Calls Try.prog 4 #[.agg #[.int .i64 t, .int .i64 s, .int .i64 c, .int .i64 l], .int .i64 now, .int .i64 n] w (LawPost w) := by
  by_cases hn : 0 ≤ n ∧ n ≤ 1073741824
  · obtain ⟨hn0, hn1⟩ := hn
    have Hd : Hid (wrap64 (s + n) = wrap64 (s + n)) := rfl
    go_enter Try.func4, Try.ntmps4
    go_wp2_with fail
    refine (granted_any _).mono ?_
    rintro e w1 ⟨rfl, hb1⟩
    obtain ⟨hc1, hf1⟩ := bcell hb1
    have hz1 := hb1.size
    simp only [World.size_alloc] at hc1 hf1 hz1
    have hz1' : w.heap.size < w1.heap.size := hz1
    have hB1 : Below w.heap.size w w1 := ((Below.refl _ _).alloc (Nat.le_refl _) _).trans (hb1.mono (by simp))
    go_wp2_with fail
    refine (at_any _ _ _ _ _ _).mono ?_
    rintro e w2 ⟨n2, v2, rfl, hr2, hb2⟩
    obtain ⟨hc2, hf2⟩ := bcell hb2
    have hz2 := hb2.size
    simp only [World.size_alloc] at hc2 hf2 hz2
    have hB2 : Below w.heap.size w w2 := (hB1.alloc (Nat.le_of_lt hz1') _).trans (hb2.mono (by simp; omega))
    have k1 : w1.heap.size < w2.heap.size := by omega
    have k3 : w.heap.size < w2.heap.size := by omega
    have k4 : w.heap.size < w1.heap.size + 1 := by omega
    go_wp2_with fail
    refine (at_any _ _ _ _ _ _).mono ?_
    rintro e w3 ⟨n3, v3, rfl, hr3, hb3⟩
    have hB3 : Below w.heap.size w w3 := hB2.trans (hb3.mono (by omega))
    clear hc1 hf1 hc2 hf2 hz1 hz1' hz2 k1 k3 k4 hb1 hb2 hb3 hB1 hB2
    rcases hr2 with ⟨h2, rfl, rfl⟩ | ⟨h2, rfl, rfl⟩
    · rcases hr3 with ⟨h3, rfl, rfl⟩ | ⟨h3, rfl, rfl⟩
      · have he := late_end hn0 hn1 h2 h3
        generalize vested t s c l now = a at he ⊢
        generalize vested t (wrap64 (s + n)) c l (wrap64 (now + n)) = b at he ⊢
        trace_state
        clear h2 h3
        go_wp2
        go_ret
        exact ⟨rfl, hB3⟩
      · clear h2 h3
        go_wp2
        go_ret
        exact ⟨rfl, hB3⟩
    · clear h2 hr3
      go_wp2
      go_ret
      exact ⟨rfl, hB3⟩
  · have hn' : n < 0 ∨ 1073741824 < n := by omega
    clear hn
    rcases hn' with hn' | hn'
    all_goals
      go_enter Try.func4, Try.ntmps4
      go_wp2_with fail
      refine (granted_any _).mono ?_
      rintro e w1 ⟨rfl, hb1⟩
      go_wp2
      go_ret
      exact ⟨rfl, ((Below.refl _ _).alloc (Nat.le_refl _) _).trans (hb1.mono (by simp))⟩

/-- What the law's arguments are. -/
theorem vestLate_walk {H : Type} {enc : TypeId × Value → H} (W : World) (args : Array Value) (ds : List (DataW H)) (ps : List MemPlace)
    (h : LawPre enc Try.prog Try.f4 W args ds ps) : Calls Try.prog 4 args W (LawPost W) := by
  obtain ⟨hA, ⟨base, hval⟩, _, _⟩ := h
  rw [Try.params4] at hA hval
  obtain ⟨v0, v1, v2, d0, d1, d2, p0, p1, p2, rfl, rfl, rfl, h0, h1, h2⟩ := trodAll_three hA
  obtain ⟨t, s, c, l, rfl⟩ := open_grant (hval 0 _ v0 rfl rfl) h0
  obtain ⟨o, rfl, rfl, rfl, _⟩ := open_int Try.underlying3 (hval 1 _ v1 rfl rfl) h1
  obtain ⟨now, rfl, rfl, rfl, _⟩ := open_int Try.underlying3 (hval 2 _ v2 rfl rfl) h2
  exact late_any t s c l o now W

set_option maxRecDepth 100000 in
theorem vestLate_lifted (os : Os) (started : os.Started) (H : Type) (enc : TypeId × Value → H) :
    ReturnsInHanded {} Try.checked os 4 .any (Rows.vestLateSpec.pre6 enc Try.prog Try.f4 Rows.vestLateRow.domain false) (Rows.vestLateSpec.post enc Try.prog Try.f4 false true false false) :=
  law_lifted (C := Try.checked) (B := 4) (n := 3) Try.own started (by kernel_rfl) Try.func4
      (ChangeSpec.witness6 (enc := enc) (C := Try.checked) false ⟨#[], #[.agg #[.int .i64 0, .int .i64 0, .int .i64 0, .int .i64 0], .int .i64 0, .int .i64 0], []⟩ 8 (by kernel_rfl) (by kernel_rfl) (by kernel_rfl) (by kernel_rfl))
      rfl Try.underlying4 (by kernel_rfl) Try.laidOut (by kernel_rfl) (by kernel_rfl) (fun ds h => by match ds, h with | [a, b, c], _ => rfl) vestLate_walk

/-- The statement. -/
theorem VestLate_holds : Rows.VestLateSaid :=
  OpenClaim.holds_of_wide 4 Try.f4 rfl rfl rfl rfl rfl rfl rfl ⟨rfl, rfl, rfl, rfl, rfl⟩ rfl rfl rfl rfl rfl (by kernel_rfl) Try.func4 (by kernel_rfl)
    (of_decide_eq_true (by kernel_rfl)) (by unfold Func.isWrapper; first | (rw [if_pos (by decide +kernel)]; kernel_rfl) | (rw [if_neg (by decide +kernel)]; exact ⟨rfl, rfl⟩))
    (fun os started H enc _ => vestLate_lifted os started H enc)
#print axioms VestLate_holds
end Go.Proofs.Ytcahhbpjpahbgaa
