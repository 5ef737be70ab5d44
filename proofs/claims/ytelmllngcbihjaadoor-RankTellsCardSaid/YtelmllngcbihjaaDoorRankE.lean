/- RankTells: any numbers, any place, any part: the program tells what the reference tells. Condition: errors.errorType reads as the program's text lays it (the card ties it). -/
import Derived.Test.YtelmllngcbihjaaDoorRankO
import Derived.Deep.QuietTactic
import Derived.BigQuiet
namespace Go.Proofs.YtelmllngcbihjaaDoor
open Go.RowKit Go.ChangeShapes Go.WideShapes Go.ChangeAt

theorem below_drawn {B : Nat} {a w : World} (h : Below B a w) (n : Nat) : Below B a (w.drewN n) := ⟨h.os, h.tape, h.output, h.size, h.block⟩

set_option maxHeartbeats 4000000 in
theorem ref_any (ns : List Int) (k : Nat) (A : Option Addr) (n cap : Nat) (w : World) (hs : ISl w w.heap.size A n ns) (hreach : n * 8 ≤ 140737488351232) (hk : k < n) :
    Calls Tryd.prog 8 #[.slice A n cap, .int .i64 (k : Int)] w (PostAtK ns k w) := by
  have Hlen := aside hs.len
  go_enter Tryd.func8, Tryd.ntmps8
  go_wp2_with fail
  go_loopw [5] (fun v5 wr => ∃ (i q : Nat), i ≤ n ∧ v5 = .int .i64 i ∧ wr = w.drewN q ∧ (∀ j, j < i → ¬ IsRank ns k (nth ns j))) (fun v5 _ => n - (intOf v5).toNat)
  case atStart => exact ⟨0, 0, Nat.zero_le _, rfl, rfl, fun j hj => absurd hj (by omega)⟩
  case round =>
    obtain ⟨i, q, hi, rfl, rfl, hno⟩ := hrel
    have Hno := aside hno
    clear hno
    by_cases hil : i < n
    · obtain ⟨bi, oi, rfl, hbi, hci⟩ := hs.at_ hil
      go_wp2_with fail
      go_loopw [6, 7, 8] (fun v6 v7 v8 w3 => ∃ (j q' : Nat), j ≤ n ∧ v8 = .int .i64 j ∧ v6 = .int .i64 (less (ns.take j) (nth ns i)) ∧ v7 = .int .i64 (cnt (ns.take j) (nth ns i)) ∧ w3 = w.drewN q') (fun _ _ v8 _ => n - (intOf v8).toNat)
      case atStart => exact ⟨0, q, Nat.zero_le _, rfl, rfl, rfl, rfl⟩
      case round =>
        obtain ⟨j, q', hj, rfl, rfl, rfl, rfl⟩ := hrel
        by_cases hjl : j < n
        · obtain ⟨b2, o2, hA2, hb2, hcj⟩ := hs.at_ hjl
          simp only [Option.some.injEq, Addr.mk.injEq, and_true] at hA2
          obtain ⟨rfl, rfl⟩ := hA2
          have tn := take_nth (zs := ns) (k := j) (by have := Hlen.out; omega)
          have cl1 : less (ns.take j) (nth ns i) ≤ j := Nat.le_trans List.countP_le_length (List.length_take_le _ _)
          have cn1 : cnt (ns.take j) (nth ns i) ≤ j := Nat.le_trans (cnt_le _ _) (List.length_take_le _ _)
          have sl : less (ns.take (j + 1)) (nth ns i) = if nth ns j < nth ns i then less (ns.take j) (nth ns i) + 1 else less (ns.take j) (nth ns i) := by rw [tn, less_snoc]
          have sn : cnt (ns.take (j + 1)) (nth ns i) = if nth ns j = nth ns i then cnt (ns.take j) (nth ns i) + 1 else cnt (ns.take j) (nth ns i) := by rw [tn, cnt_snoc]
          have Sl := aside sl
          have Sn := aside sn
          clear tn sl sn
          generalize less (ns.take j) (nth ns i) = cl at *
          generalize cnt (ns.take j) (nth ns i) = cn at *
          have hi1 : (j : Int) < (n : Int) := by omega
          have hi2 : (i : Int) < (n : Int) := by omega
          have hi3 : (0 : Int) ≤ (i : Int) := by omega
          have hi4 : (0 : Int) ≤ (j : Int) := by omega
          rcases Int.lt_trichotomy (nth ns j) (nth ns i) with e | e | e
          · have e1 : (nth ns j == nth ns i) = false := beq_eq_false_iff_ne.2 (by omega)
            go_wp2_with fail
            go_quiet (fail)
            go_wp2_with fail
            go_quiet (fail)
            go_wp2
            refine ⟨⟨j + 1, _, by omega, by go_num, ?_, ?_, rfl⟩, by simp [intOf]; omega⟩
            · rw [Sl.out, if_pos e]; go_num
            · rw [Sn.out, if_neg (by omega)]
          · have e1 : (nth ns j == nth ns i) = true := beq_iff_eq.2 e
            have e2 : nth ns i ≤ nth ns j := by omega
            have E := aside e
            clear e
            go_wp2_with fail
            go_quiet (fail)
            go_wp2_with fail
            go_quiet (fail)
            go_wp2
            refine ⟨⟨j + 1, _, by omega, by go_num, ?_, ?_, rfl⟩, by simp [intOf]; omega⟩
            · rw [Sl.out, if_neg (by have := E.out; omega)]
            · rw [Sn.out, if_pos E.out]; go_num
          · have e1 : (nth ns j == nth ns i) = false := beq_eq_false_iff_ne.2 (by omega)
            have e2 : nth ns i ≤ nth ns j := by omega
            go_wp2_with fail
            go_quiet (fail)
            go_wp2_with fail
            go_quiet (fail)
            go_wp2
            refine ⟨⟨j + 1, _, by omega, by go_num, ?_, ?_, rfl⟩, by simp [intOf]; omega⟩
            · rw [Sl.out, if_neg (by omega)]
            · rw [Sn.out, if_neg (by omega)]
        · obtain rfl : j = n := by omega
          have hl := Hlen.out
          rw [List.take_of_length_le (by omega)]
          have hu := upTo_cnt ns (nth ns i)
          have hll : less ns (nth ns i) ≤ ns.length := List.countP_le_length
          have hcl := cnt_le ns (nth ns i)
          have hun : upTo ns (nth ns i) ≤ ns.length := List.countP_le_length
          have hmem : nth ns i ∈ ns := nth_mem (by omega)
          rw [hl] at hll hcl hun
          by_cases hit : less ns (nth ns i) ≤ k ∧ k < less ns (nth ns i) + cnt ns (nth ns i)
          · have hR : IsRank ns k (nth ns i) := ⟨hit.1, by rw [hu]; exact hit.2, hmem⟩
            obtain ⟨h1, h2⟩ := hit
            clear hu hmem hl
            generalize less ns (nth ns i) = cl at *
            generalize cnt ns (nth ns i) = cn at *
            have hi2 : (i : Int) < (j : Int) := by omega
            go_wp2
            go_ret
            exact ⟨_, rfl, hR, below_drawn (Below.refl _ _) _⟩
          · have hR : ¬ IsRank ns k (nth ns i) := fun h => hit ⟨h.1, by have := h.2.1; omega⟩
            have hno : k < less ns (nth ns i) ∨ less ns (nth ns i) + cnt ns (nth ns i) ≤ k := by omega
            clear hit hu hmem hl
            generalize less ns (nth ns i) = cl at *
            generalize cnt ns (nth ns i) = cn at *
            rcases hno with hno | hno
            all_goals
              go_wp2
              refine ⟨⟨i + 1, q', by omega, by go_num, rfl, fun j' hj' => ?_⟩, by simp [intOf]; omega⟩
              rcases Nat.lt_or_ge j' i with h | h
              · exact Hno.out j' h
              · obtain rfl : j' = i := by omega
                exact hR
    · exfalso
      obtain rfl : i = n := by omega
      have hl := Hlen.out
      obtain ⟨r, hr⟩ := rank_exists ns.length ns k (Nat.le_refl _) (by omega)
      obtain ⟨m, hm, rfl⟩ := List.getElem_of_mem hr.2.2
      exact Hno.out m (by omega) (by rw [nth_get hm]; exact hr)

def PostMid (ns : List Int) (w : World) (e : Ending) (w' : World) : Prop := PostPart ns 50 w e w'
theorem middle_any (ns : List Int) (A : Option Addr) (n cap : Nat) (w : World) (hs : ISl w w.heap.size A n ns) (hreach : n * 8 ≤ 140737488355328) :
    Calls Tryd.prog 11 #[.slice A n cap] w (PostMid ns w) := by
  go_enter Tryd.func11, Tryd.ntmps11
  go_wp2_with fail
  refine (part_any ns 50 A n cap w hs hreach).mono ?_
  rintro e w1 ⟨r, v, rfl, hb, h⟩
  go_wp2
  go_ret2
  exact ⟨r, v, rfl, hb, h⟩

theorem PostPart.err {ns : List Int} {p : Int} {w w' : World} {e : Ending} (h : PostPart ns p w e w') :
    ∃ r q, e = .returned (.tuple #[.int .i64 r, errOf q]) ∧ Below w.heap.size w w' ∧
      ((0 ≤ p ∧ p ≤ 100 ∧ ns ≠ [] ∧ q = 0 ∧ IsRank ns (idx ns.length p.toNat) r) ∨ (ns = [] ∧ r = 0 ∧ q = 5) ∨ (ns ≠ [] ∧ (p < 0 ∨ 100 < p) ∧ r = 0 ∧ q = 2)) := by
  obtain ⟨r, v, rfl, hb, ⟨h1, h2, h3, rfl, h4⟩ | ⟨h1, rfl, rfl⟩ | ⟨h1, h2, rfl, rfl⟩⟩ := h
  · exact ⟨r, 0, rfl, hb, .inl ⟨h1, h2, h3, rfl, h4⟩⟩
  · exact ⟨0, 5, rfl, hb, .inr (.inl ⟨h1, rfl, rfl⟩)⟩
  · exact ⟨0, 2, rfl, hb, .inr (.inr ⟨h1, h2, rfl, rfl⟩)⟩
end Go.Proofs.YtelmllngcbihjaaDoor
