/- BookTrial: all accounts together are 0. No condition. -/
import Derived.Test.YtjoplhpaefngkaaBookK
namespace Go.Proofs.Ytjoplhpaefngkaa
open Go.RowKit Go.ChangeShapes Go.WideShapes Go.ChangeAt

/-- A slice of slices of lines. -/
def ESl (w : World) (B : Nat) (A : Option Addr) (n : Nat) : Prop :=
  ∀ k, k < n → ∃ b off Ai ni ci li, A = some ⟨b, off, none⟩ ∧ b < B ∧ w.cell? ⟨b, off + k, none⟩ = some (.slice Ai ni ci) ∧ LSl w B Ai ni li

theorem LSl.drewN {w : World} {B n : Nat} {A : Option Addr} {ls : List Ln} (h : LSl w B A n ls) (q : Nat) : LSl (w.drewN q) B A n ls := Sl.drewN h q

theorem BookAt.key_len {w : World} {bb : Nat} {D : DataW Unit} {f : List UInt8 → Int} {cnt : Int} (h : BookAt w bb D f cnt) : ∀ x ∈ keysOf D, x.length ≤ maxLen := by
  obtain ⟨-, ⟨mb, -, h3⟩, -⟩ := h
  exact fun x hx => strKeys_le h3 Try.underlying9 x ((keysOf_perm D).mem_iff.1 hx)
theorem BookAt.keys_lt {w : World} {bb : Nat} {D : DataW Unit} {f : List UInt8 → Int} {cnt : Int} (h : BookAt w bb D f cnt) : (keysOf D).Pairwise (fun x y => x < y) := by
  obtain ⟨-, ⟨mb, -, h3⟩, -⟩ := h
  exact keysOf_lt (keys_facts h3).1
theorem below_drawn {B : Nat} {a w : World} (h : Below B a w) (n : Nat) : Below B a (w.drewN n) := ⟨h.os, h.tape, h.output, h.size, h.block⟩
theorem before_yes (y x : List UInt8) (w : World) (hs : y.length ≤ maxLen) (h : decide (y < x) = true) :
    Calls Try.prog 12 #[.string ⟨y.toArray⟩, .string ⟨x.toArray⟩] w (fun e w' => e = .returned (.bool true) ∧ ∃ q, w' = w.drewN q) :=
  (before_any ⟨y.toArray⟩ ⟨x.toArray⟩ w (by show y.toArray.size ≤ maxLen; simpa using hs)).mono fun e w' ⟨h1, h2⟩ => ⟨by rw [h1]; simp only [h], h2⟩
theorem quiet_add {P : Program} {f : FuncId} {args : Array Value} {w : World} {a n : Nat} {v : Value}
    (h : Calls P f args (w.drewN (a + n)) fun e w' => e = .returned v ∧ ∃ m, w' = (w.drewN (a + n)).drewN m) :
    Calls P f args (w.drewN (a + n)) fun e w'' => e = .returned v ∧ ∃ m, w'' = w.drewN (a + m) :=
  h.mono fun _ _ ⟨he, m, hm⟩ => ⟨he, n + m, by rw [hm, World.drewN_drewN, Nat.add_assoc]⟩
theorem quiet_add_same {P : Program} {f : FuncId} {args : Array Value} {w : World} {a n : Nat} {v : Value}
    (h : Calls P f args (w.drewN (a + n)) fun e w' => e = .returned v ∧ w' = w.drewN (a + n)) :
    Calls P f args (w.drewN (a + n)) fun e w'' => e = .returned v ∧ ∃ m, w'' = w.drewN (a + m) :=
  h.mono fun _ _ ⟨he, hm⟩ => ⟨he, n, hm⟩

set_option maxHeartbeats 8000000 in
set_option maxRecDepth 100000 in
theorem trials_any (A1 : Option Addr) (n1 p1 : Nat) (w : World) (he : ESl w w.heap.size A1 n1) :
    Calls Try.prog 4 #[.slice A1 n1 p1] w (LawPost w) := by
  go_enter Try.func4, Try.ntmps4
  go_wp2_with fail
  refine (posted_any _).mono ?_
  rintro e w1 ⟨rfl, hb1⟩
  have hz1 := hb1.size
  go_wp2_with fail
  refine (new_any _).mono ?_
  rintro e w2 ⟨bb, rfl, hbb, hb2, hB⟩
  have HB := aside hB
  have H2 := aside (hb1.trans (hb2.mono hz1))
  have hbw : w.heap.size ≤ bb := by omega
  clear hb1 hb2 hB hbb hz1
  by_cases h40 : 40 < n1
  · have h40' : (40 : Int) < (n1 : Int) := by omega
    go_wp2
    go_ret
    exact ⟨rfl, H2.out⟩
  have h40' : ((40 : Int) < (n1 : Int)) = False := by simp only [eq_iff_iff, iff_false]; omega
  go_wp2_with fail
  go_loopw [5] (fun v5 wr => ∃ (k : Nat) (D : DataW Unit) (f : List UInt8 → Int) (cnt : Int), k ≤ n1 ∧ v5 = .int .i64 k ∧ 0 ≤ cnt ∧ cnt ≤ k ∧ Hid (BookAt wr bb D f cnt) ∧ Hid (Even D f) ∧ Below w.heap.size w wr) (fun v5 _ => n1 - (intOf v5).toNat)
  case atStart => exact ⟨0, _, _, 0, Nat.zero_le _, rfl, by omega, by omega, HB, aside even_empty, H2.out⟩
  case round =>
    obtain ⟨k, D, f, cnt, hk, rfl, hc0, hc1, HB, HE, hb⟩ := hrel
    have hbz := hb.size
    by_cases k1 : k < n1
    · obtain ⟨b, off, Ai, ni, ci, li, rfl, hlt, c0, hli⟩ := he k k1
      have d0 := (hb.cell (p := ⟨b, off + k, none⟩) hlt).trans c0
      have l0 : b < wr.heap.size := by omega
      have i1 : (k : Int) < (n1 : Int) := by omega
      have i4 : (0 : Int) ≤ (k : Int) := by omega
      have HLi := aside ((Sl.below hli hb).more hbz)
      clear c0 hli
      go_wp2_with fail
      refine (post_book li Ai ni ci w.heap.size bb cnt D f _ HLi.out hbw HB.out (by omega)).mono ?_
      rintro e w3 ⟨hb3, hp⟩
      have hp2 : ∃ D' f' cnt' v, e = .returned v ∧ BookAt w3 bb D' f' cnt' ∧ Even D' f' ∧ 0 ≤ cnt' ∧ cnt' ≤ cnt + 1 := by
        rcases hp with ⟨h1, rfl, hB3⟩ | ⟨-, ⟨q, rfl⟩, hB3⟩
        · exact ⟨_, _, _, _, rfl, hB3, HE.out.post HB.out.fine h1, by omega, by omega⟩
        · exact ⟨_, _, _, _, rfl, hB3, HE.out, by omega, by omega⟩
      obtain ⟨D2, f2, cnt2, v, rfl, hB3, hE3, hc2, hc3⟩ := hp2
      have HB3 := aside hB3
      have HE3 := aside hE3
      have H3 := aside (hb.trans hb3)
      clear hb3 hB3 hb d0 hp hE3
      go_wp2_with fail
      refine (trial_any bb cnt2 D2 f2 _ HB3.out).mono ?_
      rintro e w4 ⟨At, ct, rfl, hlt4, hb4⟩
      have HL4 := aside hlt4
      have HB4 := aside (HB3.out.to hb4)
      have H4 := aside (H3.out.trans (hb4.mono H3.out.size))
      have ht60 := trial_len HB4.out.fine
      clear hlt4 hb4
      generalize hn4 : (trialOf D2 f2).length = n4 at *
      have HN4 := aside hn4
      clear hn4
      go_wp2_with fail
      go_loopw [7, 8] (fun v7 v8 wq => ∃ (j q : Nat), j ≤ n4 ∧ v8 = .int .i64 j ∧ v7 = .int .i64 (total ((trialOf D2 f2).take j)) ∧ wq = w4.drewN q) (fun _ v8 _ => n4 - (intOf v8).toNat)
      case atStart => exact ⟨0, 0, Nat.zero_le _, rfl, rfl, rfl⟩
      case round =>
        obtain ⟨j, q, hj, rfl, rfl, rfl⟩ := hrel
        have HBq := aside (HB4.out.drewN q)
        have HTB : Hid (-((j : Int) * 1125899906842624) ≤ total ((trialOf D2 f2).take j) ∧ total ((trialOf D2 f2).take j) ≤ (j : Int) * 1125899906842624) := aside (by
          have h := total_within (xs := (trialOf D2 f2).take j) fun l hl => trial_within HB4.out.fine l (List.mem_of_mem_take hl)
          have hl : ((trialOf D2 f2).take j).length = j := by rw [List.length_take, HN4.out]; omega
          rw [hl] at h
          exact h)
        by_cases j1 : j < n4
        · have hjk : j < (keysOf D2).length := by have h := HN4.out; simp only [trialOf, List.length_map] at h; omega
          obtain ⟨b4, o4, rfl, hl4, c0, c1⟩ := LSl.at_ HL4.out j1
          have HPr : Hid (∀ m, j = m + 1 → ∃ y : List UInt8, y.length ≤ maxLen ∧ y < (keysOf D2)[j] ∧ w4.cell? ⟨b4, o4 + m * 2, none⟩ = some (.string ⟨y.toArray⟩)) := aside (by
            intro m hm
            have hmk : m < (keysOf D2).length := by omega
            obtain ⟨b5, o5, e5, -, x0, -⟩ := LSl.at_ HL4.out (k := m) (by omega)
            injection e5 with e5
            injection e5 with e5 e6
            subst e5 e6
            rw [trial_get D2 f2 hmk] at x0
            exact ⟨(keysOf D2)[m], HB4.out.key_len _ (List.getElem_mem hmk), List.pairwise_iff_getElem.1 HB4.out.keys_lt m j hmk hjk (by omega), x0⟩)
          have hxl : ((keysOf D2)[j]).length ≤ maxLen := HB4.out.key_len _ (List.getElem_mem hjk)
          have HT : Hid ((trialOf D2 f2).take (j + 1) = (trialOf D2 f2).take j ++ [((keysOf D2)[j], f2 (keysOf D2)[j])]) := aside (by rw [take_next (by rw [HN4.out]; omega), trial_get D2 f2 hjk])
          rw [trial_get D2 f2 hjk] at c0 c1
          generalize (keysOf D2)[j] = x at c0 c1 HPr hxl HT
          have hW := HB4.out.fine.all x
          simp only [strV] at c0 c1
          have i1 : (j : Int) < (n4 : Int) := by omega
          have i4 : (0 : Int) ≤ (j : Int) := by omega
          have HW1 : Hid (wrap64 (total ((trialOf D2 f2).take j) + f2 x) = total ((trialOf D2 f2).take j) + f2 x) := aside (by have := HTB.out; unfold Within at hW; unfold wrap64; omega)
          have HXL := aside hxl
          have hne : (f2 x != f2 x) = false := by simp
          clear hxl hW
          by_cases j0 : j = 0
          · have g0 : ((0 : Int) < (j : Int)) = False := by simp only [eq_iff_iff, iff_false]; omega
            have g1 : (0 < j) = False := by simp only [eq_iff_iff, iff_false]; omega
            clear HPr j0
            have hw1 := HW1.out
            go_wp2_with fail
            go_quiet ((go_at_call 9; exact quiet_add_same (balance_any ⟨x.toArray⟩ HXL.out bb cnt2 D2 f2 _ (HB4.out.drewN _))))
            go_wp2
            clear hw1
            exact ⟨⟨j + 1, _, by omega, by go_num, by rw [HT.out, total_app, HW1.out], rfl⟩, by simp [intOf]; omega⟩
          · have g0 : (0 : Int) < (j : Int) := by omega
            have g1 : 0 < j := by omega
            obtain ⟨m, hm⟩ : ∃ m, j = m + 1 := ⟨j - 1, by omega⟩
            obtain ⟨y, hyl, hyx, z0⟩ := HPr.out m hm
            have HM1 : Hid (IntKind.i64.wrap ((j : Int) - 1) = (m : Int)) := aside (by rw [IntKind.wrap_i64]; omega)
            have hm2 : (m : Int) < (n4 : Int) := by omega
            have hm3 : (0 : Int) ≤ (m : Int) := by omega
            have HM := aside hm
            have HYL := aside hyl
            have HLt : Hid (decide (y < x) = true) := aside (by simpa using hyx)
            clear HPr j0 hm hyl hyx
            have hw1 := HW1.out
            have hm1 := HM1.out
            go_wp2_with fail
            go_quiet (first
              | (go_at_call 9; exact quiet_add_same (balance_any ⟨x.toArray⟩ HXL.out bb cnt2 D2 f2 _ (HB4.out.drewN _)))
              | (go_at_call 12; exact quiet_add (before_yes y x _ HYL.out HLt.out)))
            go_wp2
            clear hw1
            exact ⟨⟨j + 1, _, by omega, by go_num, by rw [HT.out, total_app, HW1.out], rfl⟩, by simp [intOf]; omega⟩
        · have i1 : ((j : Int) < (n4 : Int)) = False := by simp only [eq_iff_iff, iff_false]; omega
          obtain rfl : j = n4 := by omega
          have HZ : Hid (total ((trialOf D2 f2).take j) = 0) := aside (by
            rw [List.take_of_length_le (by rw [HN4.out]; omega)]
            obtain ⟨-, ⟨mb, -, h3⟩, -⟩ := HB4.out
            exact trial_total h3 HE3.out)
          have hz0 := HZ.out
          rw [hz0]
          clear hz0
          go_wp2
          exact ⟨⟨k + 1, D2, f2, cnt2, by omega, rfl, by omega, by omega, HBq, HE3, below_drawn H4.out _⟩, by simp [intOf]; omega⟩
    · have i1 : ((k : Int) < (n1 : Int)) = False := by simp only [eq_iff_iff, iff_false]; omega
      have H3 := aside hb
      clear he hb
      go_wp2
      go_ret
      exact ⟨rfl, H3.out⟩
end Go.Proofs.Ytjoplhpaefngkaa
