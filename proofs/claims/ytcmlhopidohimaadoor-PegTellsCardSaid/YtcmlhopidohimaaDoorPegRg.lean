/- Two pegs that read alike are told alike. Conditions: named in each theorem. -/
import Derived.Test.YtcmlhopidohimaaDoorPegRc
import Derived.Deep.QuietTactic
import Derived.BigQuiet
namespace Go.Proofs.YtcmlhopidohimaaDoor
open Go.RowKit Go.ChangeShapes Go.WideShapes Go.ChangeAt

set_option maxHeartbeats 4000000 in
theorem ints_same (zs : List Int) (A A' : Option Addr) (n c c' : Nat) (w : World) (h : FSl encI 1 w w.heap.size A n zs) (h' : FSl encI 1 w w.heap.size A' n zs) (hn : n ≤ 1000) :
    Calls Tryd.prog 35 #[.slice A n c, .slice A' n c'] w fun e w' => e = .returned (.bool true) ∧ Below w.heap.size w w' := by
  have hnn : ((n : Int) != n) = false := by simp
  go_enter Tryd.func35, Tryd.ntmps35
  go_wp2_with fail
  go_loopw [5] (fun v5 wr => ∃ (k q : Nat), k ≤ n ∧ v5 = .int .i64 k ∧ wr = w.drewN q) (fun v5 _ => n - (Go.RowKit.intOf v5).toNat)
  case atStart => exact ⟨0, 0, Nat.zero_le _, rfl, rfl⟩
  case round =>
    obtain ⟨k, q, hk, rfl, rfl⟩ := hrel
    by_cases hlt : k < n
    · obtain ⟨b, o, rfl, hb, hc⟩ := FSl.at_ encI_len (by decide) 0 h hlt
      obtain ⟨b', o', rfl, hb', hc'⟩ := FSl.at_ encI_len (by decide) 0 h' hlt
      have hi1 : (k : Int) < (n : Int) := by omega
      have hi2 : (0 : Int) ≤ (k : Int) := by omega
      generalize zs.getD k 0 = y at hc hc'
      have c0 := hc 0 (.int .i64 y) rfl
      have d0 := hc' 0 (.int .i64 y) rfl
      rw [Nat.mul_one, Nat.add_zero] at c0 d0
      have hq : (y != y) = false := by simp
      clear hc hc'
      go_wp2_with fail
      go_quiet (fail)
      go_wp2
      exact ⟨⟨k + 1, _, by omega, by go_num, rfl⟩, by simp [Go.RowKit.intOf]; omega⟩
    · obtain rfl : n = k := by omega
      go_wp2
      go_ret
      exact ⟨rfl, below_drawn (Below.refl _ _) _⟩
set_option maxHeartbeats 40000000 in
set_option maxRecDepth 100000 in
theorem pegs_same (s : PegS) (v v' : Value) (w : World) (h : ReadAt w v s) (h' : ReadAt w v' s) (hn : s.2.1.length ≤ 1000 ∧ s.2.2.1.length ≤ 1000 ∧ s.2.2.2.length ≤ 1000) :
    Calls Tryd.prog 12 #[v, v'] w fun e w' => e = .returned (.bool true) ∧ Below w.heap.size w w' := by
  obtain ⟨l, A1, n1, c1, A2, n2, c2, A3, n3, c3, rfl, hl, hl1, hl2, hl3, h1, h2, h3⟩ := h
  obtain ⟨l', B1, n1', d1, B2, n2', d2, B3, n3', d3, rfl, hl', hl1', hl2', hl3', k1, k2, k3⟩ := h'
  obtain rfl : l = l' := hl.trans hl'.symm
  obtain rfl : n1 = n1' := hl1.trans hl1'.symm
  obtain rfl : n2 = n2' := hl2.trans hl2'.symm
  obtain rfl : n3 = n3' := hl3.trans hl3'.symm
  have hb1 : n1 ≤ 1000 := by omega
  have hb2 : n2 ≤ 1000 := by omega
  have hb3 : n3 ≤ 1000 := by omega
  obtain ⟨q1, q2, q3, q4⟩ := two_new w #[.int .i64 l, .slice A1 n1 c1, .slice A2 n2 c2, .slice A3 n3 c3] #[.int .i64 l, .slice B1 n1 d1, .slice B2 n2 d2, .slice B3 n3 d3] 26 26
  have HQ1 := aside q1
  have HQ2 := aside q2
  have HQ3 := aside q3
  have HQ4 := aside q4
  have H1 := aside h1
  have H2 := aside h2
  have H3 := aside h3
  have K1 := aside k1
  have K2 := aside k2
  have K3 := aside k3
  clear hn hl hl' hl1 hl1' hl2 hl2' hl3 hl3' h1 h2 h3 k1 k2 k3 q1 q2 q3 q4
  have hnn1 : ((n1 : Int) != n1) = false := by simp
  have hnn3 : ((n3 : Int) != n3) = false := by simp
  have hll : (l != l) = false := by simp
  go_enter Tryd.func12, Tryd.ntmps12
  go_wp2_with (first
    | (go_at_call 35; refine (ints_same s.2.2.1 A2 B2 n2 c2 d2 _ (Sl.more (Sl.below H2.out HQ3.out) HQ3.out.size) (Sl.more (Sl.below K2.out HQ3.out) HQ3.out.size) hb2).mono ?_; rintro e w1 ⟨rfl, hb⟩; have HB1 := aside (HQ3.out.trans (hb.mono HQ3.out.size)); have x1 := box_cells ((hb.block _ (by rw [HQ4.out]; omega)).trans HQ1.out); have x2 := box_cells ((hb.block _ (by rw [HQ4.out]; omega)).trans HQ2.out); obtain ⟨⟨u0, u1, u2, u3⟩, -⟩ := x1; obtain ⟨⟨t0, t1, t2, t3⟩, -⟩ := x2; clear hb)
    | fail)
  have HA1 := aside (FSl.below H1.out HB1.out)
  have HB1' := aside (FSl.below K1.out HB1.out)
  have HA3 := aside (FSl.below H3.out HB1.out)
  have HB3' := aside (FSl.below K3.out HB1.out)
  go_loopw [6] (fun v6 wr => ∃ (k q : Nat), k ≤ n1 ∧ v6 = .int .i64 k ∧ wr = w1.drewN q) (fun v6 _ => n1 - (Go.RowKit.intOf v6).toNat)
  case atStart => exact ⟨0, 0, Nat.zero_le _, rfl, rfl⟩
  case round =>
    obtain ⟨k, q, hk, rfl, rfl⟩ := hrel
    by_cases hlt : k < n1
    · obtain ⟨b, o, hXe, hb, hc⟩ := FSl.at_ encP_len (by decide) (0, 0) HA1.out hlt
      obtain ⟨b', o', hYe, hb', hc'⟩ := FSl.at_ encP_len (by decide) (0, 0) HB1'.out hlt
      have hi1 : (k : Int) < (n1 : Int) := by omega
      have hi2 : (0 : Int) ≤ (k : Int) := by omega
      have hw1 : IntKind.i64.wrap ((k : Int) + 1) = (k : Int) + 1 := by rw [IntKind.wrap_i64]; omega
      obtain ⟨⟨y, m⟩, hy⟩ : ∃ y, y = s.2.1.getD k (0, 0) := ⟨_, rfl⟩
      rw [← hy] at hc hc'
      have c0' := hc 0 (.int .i64 y) rfl
      have e0' := hc' 0 (.int .i64 y) rfl
      have c1' := hc 1 (.int .i64 m) rfl
      have e1' := hc' 1 (.int .i64 m) rfl
      rw [Nat.add_zero] at c0' e0'
      subst hXe hYe
      clear hc hc' hy
      go_wp2_with fail
      go_quiet (fail)
      go_wp2
      exact ⟨⟨k + 1, _, by omega, by go_num, rfl⟩, by
        show n1 - ((k : Int) + 1).toNat < n1 - (k : Int).toNat
        omega⟩
    · obtain rfl : n1 = k := by omega
      have i0 : ((n1 : Int) < (n1 : Int)) = False := by simp
      clear hk hlt i0
      go_wp2_with fail
      go_loopw [7] (fun v7 wr => ∃ (k q : Nat), k ≤ n3 ∧ v7 = .int .i64 k ∧ wr = w1.drewN q) (fun v7 _ => n3 - (Go.RowKit.intOf v7).toNat)
      case atStart => exact ⟨0, q, Nat.zero_le _, rfl, rfl⟩
      case round =>
        obtain ⟨k, q, hk, rfl, rfl⟩ := hrel
        by_cases hlt : k < n3
        · obtain ⟨b, o, hXe, hb, hc⟩ := FSl.at_ encR_len (by decide) (0, 0, false) HA3.out hlt
          obtain ⟨b', o', hYe, hb', hc'⟩ := FSl.at_ encR_len (by decide) (0, 0, false) HB3'.out hlt
          have hi1 : (k : Int) < (n3 : Int) := by omega
          have hi2 : (0 : Int) ≤ (k : Int) := by omega
          have hw1 : IntKind.i64.wrap ((k : Int) + 1) = (k : Int) + 1 := by rw [IntKind.wrap_i64]; omega
          obtain ⟨⟨y, m, pd⟩, hy⟩ : ∃ y, y = s.2.2.2.getD k (0, 0, false) := ⟨_, rfl⟩
          rw [← hy] at hc hc'
          have c0' := hc 0 (.int .i64 y) rfl
          have e0' := hc' 0 (.int .i64 y) rfl
          have c1' := hc 1 (.int .i64 m) rfl
          have e1' := hc' 1 (.int .i64 m) rfl
          have c2' := hc 2 (.bool pd) rfl
          have e2' := hc' 2 (.bool pd) rfl
          rw [Nat.add_zero] at c0' e0'
          subst hXe hYe
          clear hc hc' hy
          go_wp2_with fail
          go_quiet (fail)
          go_wp2
          exact ⟨⟨k + 1, _, by omega, by go_num, rfl⟩, by
            show n3 - ((k : Int) + 1).toNat < n3 - (k : Int).toNat
            omega⟩
        · obtain rfl : n3 = k := by omega
          have i0 : ((n3 : Int) < (n3 : Int)) = False := by simp
          go_wp2
          go_ret
          exact ⟨rfl, HB1.out.trans (below_drawn (Below.refl _ _) _)⟩
end Go.Proofs.YtcmlhopidohimaaDoor
