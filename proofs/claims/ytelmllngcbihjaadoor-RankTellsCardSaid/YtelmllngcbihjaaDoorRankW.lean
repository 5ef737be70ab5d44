/- The walks of rank.parted, rank.at, rank.Rank and rank.Part: what each returns for every list of ints. Condition: a slice that came in takes no more than 2^47 - 4096 bytes (the form's own reach). -/
import Derived.Test.YtelmllngcbihjaaDoorRankP
namespace Go.Proofs.YtelmllngcbihjaaDoor
open Go.RowKit Go.ChangeShapes Go.WideShapes Go.ChangeAt

theorem take_nth {zs : List Int} {k : Nat} (h : k < zs.length) : zs.take (k + 1) = zs.take k ++ [nth zs k] := by
  rw [nth_get h, List.take_succ_eq_append_getElem h]
theorem lows_snoc (l : List Int) (x b : Int) : lows (l ++ [x]) b = if x < b then lows l b ++ [x] else lows l b := by
  unfold lows; by_cases h : x < b <;> simp [List.filter_append, h]
theorem sames_snoc (l : List Int) (x b : Int) : sames (l ++ [x]) b = if x = b then sames l b ++ [x] else sames l b := by
  unfold sames; by_cases h : x = b <;> simp [List.filter_append, h]
theorem highs_snoc (l : List Int) (x b : Int) : highs (l ++ [x]) b = if b < x then highs l b ++ [x] else highs l b := by
  unfold highs; by_cases h : b < x <;> simp [List.filter_append, h]

/-- A row of ints of the call's own. -/
def IRow (w : World) (base : Nat) (v : Value) (zs : List Int) : Prop := w.ownsRow base 3 1 v zs.length (zs.map (Value.int .i64))
theorem IRow.push {w' : World} {base : Nat} {v : Value} {zs : List Int} {x : Int} {n : Nat} (hn : n = zs.length + 1) (h : w'.ownsRow base 3 1 v n (zs.map (Value.int .i64) ++ #[Value.int .i64 x].toList)) : IRow w' base v (zs ++ [x]) := by
  subst hn
  unfold IRow
  simpa using h

def PostParted (ns : List Int) (b : Int) (w : World) (e : Ending) (w' : World) : Prop :=
  ∃ A1 n1 c1 A2 n2 c2 A3 n3 c3, e = .returned (.tuple #[.slice A1 n1 c1, .slice A2 n2 c2, .slice A3 n3 c3]) ∧ Below w.heap.size w w' ∧
    (ISl w' w'.heap.size A1 n1 (lows ns b) ∧ n1 ≤ c1 ∧ c1 ≤ maxLen) ∧ (ISl w' w'.heap.size A2 n2 (sames ns b) ∧ n2 ≤ c2 ∧ c2 ≤ maxLen) ∧ (ISl w' w'.heap.size A3 n3 (highs ns b) ∧ n3 ≤ c3 ∧ c3 ≤ maxLen)

theorem IRow.out {w : World} {base : Nat} {v : Value} {zs : List Int} (h : IRow w base v zs) : ∃ A n c, v = .slice A n c ∧ ISl w w.heap.size A n zs ∧ n ≤ c ∧ c ≤ maxLen := by
  obtain ⟨A, c, rfl, h1, h2⟩ := own_slice h
  exact ⟨A, _, c, rfl, Sl.own h, h1, h2⟩

set_option maxHeartbeats 2000000 in
theorem parted_any (ns : List Int) (b : Int) (A : Option Addr) (n cap : Nat) (w : World) (hs : ISl w w.heap.size A n ns) (hreach : n * 8 ≤ 140737488355328) :
    Calls Tryd.prog 15 #[.slice A n cap, .int .i64 b] w (PostParted ns b w) := by
  go_enter Tryd.func15, Tryd.ntmps15
  go_wp2_with fail
  go_loopw [4, 5, 6, 11] (fun v4 v5 v6 v11 wr => ∃ k : Nat, k ≤ n ∧ v11 = .int .i64 k ∧ Below w.heap.size w wr ∧ IRow wr w.heap.size v4 (lows (ns.take k) b) ∧ IRow wr w.heap.size v5 (sames (ns.take k) b) ∧ IRow wr w.heap.size v6 (highs (ns.take k) b) ∧
      Apart v4 v5 ∧ Apart v4 v6 ∧ Apart v5 v6) (fun _ _ _ v11 _ => n - (intOf v11).toNat)
  case atStart => exact ⟨0, Nat.zero_le _, rfl, Below.refl _ _, World.ownsRow_nil _ _ _ _, World.ownsRow_nil _ _ _ _, World.ownsRow_nil _ _ _ _, apart_nil _ _ _, apart_nil _ _ _, apart_nil _ _ _⟩
  case round =>
    obtain ⟨k, hk, rfl, hb, h4, h5, h6, a45, a46, a56⟩ := hrel
    have hlen := hs.len
    by_cases hlt : k < n
    · obtain ⟨bl, off, rfl, hbl, hc⟩ := hs.at_ hlt
      have hcr : wr.cell? ⟨bl, off + k, none⟩ = some (.int .i64 (nth ns k)) := by rw [hb.cell (by exact hbl)]; exact hc
      have hz := hb.size
      have ht := take_nth (zs := ns) (k := k) (by omega)
      have hll : (lows (ns.take k) b).length ≤ k := Nat.le_trans (List.length_filter_le _ _) (List.length_take_le _ _)
      have hsl : (sames (ns.take k) b).length ≤ k := Nat.le_trans (List.length_filter_le _ _) (List.length_take_le _ _)
      have hhl : (highs (ns.take k) b).length ≤ k := Nat.le_trans (List.length_filter_le _ _) (List.length_take_le _ _)
      have Ht := aside ht
      have Hlen := aside hlen
      clear ht hlen hc
      rcases Int.lt_trichotomy (nth ns k) b with hlo | heq | hhi
      · have e1 : lows (ns.take (k + 1)) b = lows (ns.take k) b ++ [nth ns k] := by rw [Ht.out, lows_snoc, if_pos hlo]
        have e2 : sames (ns.take (k + 1)) b = sames (ns.take k) b := by rw [Ht.out, sames_snoc, if_neg (by omega)]
        have e3 : highs (ns.take (k + 1)) b = highs (ns.take k) b := by rw [Ht.out, highs_snoc, if_neg (by omega)]
        have E := aside (And.intro e1 (And.intro e2 e3))
        clear e1 e2 e3
        go_wp2_with (at_builtin; refine wpList_push rfl (.tmp 23) (.tmp 25) 22 rfl w.heap.size _ 1 8 Tryd.underlying22 intInfo rfl (by decide) _ _ _ rfl rfl rfl rfl h4 (by omega) (by unfold maxLen; omega) (by omega) ?_)
        intro A3 c3 w3 _ _ hown3 hb3 hz3 hg3
        obtain ⟨o5, p5⟩ := hg3.other h5 a45
        obtain ⟨o6, p6⟩ := hg3.other h6 a46
        go_wp2
        refine ⟨⟨k + 1, by omega, by go_num, hb.trans hb3, ?_, ?_, ?_, p5, p6, a56⟩, by simp [intOf]; omega⟩
        · rw [E.out.1]; exact IRow.push rfl hown3
        · rw [E.out.2.1]; exact o5
        · rw [E.out.2.2]; exact o6
      · have e1 : lows (ns.take (k + 1)) b = lows (ns.take k) b := by rw [Ht.out, lows_snoc, if_neg (by omega)]
        have e2 : sames (ns.take (k + 1)) b = sames (ns.take k) b ++ [nth ns k] := by rw [Ht.out, sames_snoc, if_pos heq]
        have e3 : highs (ns.take (k + 1)) b = highs (ns.take k) b := by rw [Ht.out, highs_snoc, if_neg (by omega)]
        have E := aside (And.intro e1 (And.intro e2 e3))
        have q1 : nth ns k ≤ b := by omega
        have q2 : b ≤ nth ns k := by omega
        clear e1 e2 e3 heq
        go_wp2_with (at_builtin; refine wpList_push rfl (.tmp 15) (.tmp 17) 22 rfl w.heap.size _ 1 8 Tryd.underlying22 intInfo rfl (by decide) _ _ _ rfl rfl rfl rfl h5 (by omega) (by unfold maxLen; omega) (by omega) ?_)
        intro A3 c3 w3 _ _ hown3 hb3 hz3 hg3
        obtain ⟨o4, p4⟩ := hg3.other h4 a45.symm
        obtain ⟨o6, p6⟩ := hg3.other h6 a56
        go_wp2
        refine ⟨⟨k + 1, by omega, by go_num, hb.trans hb3, ?_, ?_, ?_, p4.symm, a46, p6⟩, by simp [intOf]; omega⟩
        · rw [E.out.1]; exact o4
        · rw [E.out.2.1]; exact IRow.push rfl hown3
        · rw [E.out.2.2]; exact o6
      · have e1 : lows (ns.take (k + 1)) b = lows (ns.take k) b := by rw [Ht.out, lows_snoc, if_neg (by omega)]
        have e2 : sames (ns.take (k + 1)) b = sames (ns.take k) b := by rw [Ht.out, sames_snoc, if_neg (by omega)]
        have e3 : highs (ns.take (k + 1)) b = highs (ns.take k) b ++ [nth ns k] := by rw [Ht.out, highs_snoc, if_pos hhi]
        have E := aside (And.intro e1 (And.intro e2 e3))
        clear e1 e2 e3
        go_wp2_with (at_builtin; refine wpList_push rfl (.tmp 31) (.tmp 33) 22 rfl w.heap.size _ 1 8 Tryd.underlying22 intInfo rfl (by decide) _ _ _ rfl rfl rfl rfl h6 (by omega) (by unfold maxLen; omega) (by omega) ?_)
        intro A3 c3 w3 _ _ hown3 hb3 hz3 hg3
        obtain ⟨o4, p4⟩ := hg3.other h4 a46.symm
        obtain ⟨o5, p5⟩ := hg3.other h5 a56.symm
        go_wp2
        refine ⟨⟨k + 1, by omega, by go_num, hb.trans hb3, ?_, ?_, ?_, a45, p4.symm, p5.symm⟩, by simp [intOf]; omega⟩
        · rw [E.out.1]; exact o4
        · rw [E.out.2.1]; exact o5
        · rw [E.out.2.2]; exact IRow.push rfl hown3
    · obtain rfl : k = n := by omega
      rw [List.take_of_length_le (by omega)] at h4 h5 h6
      obtain ⟨A1, n1, c1, rfl, i1, j1, l1⟩ := h4.out
      obtain ⟨A2, n2, c2, rfl, i2, j2, l2⟩ := h5.out
      obtain ⟨A3, n3, c3, rfl, i3, j3, l3⟩ := h6.out
      go_wp2
      go_ret3
      exact ⟨_, _, _, _, _, _, _, _, _, rfl, hb, ⟨i1, j1, l1⟩, ⟨i2, j2, l2⟩, ⟨i3, j3, l3⟩⟩

theorem ret_int {k : IntKind} {a b : Int} (h : a = b) : Value.int k a = .int k b := by rw [h]

def lenOf : Value → Nat
  | .slice _ n _ => n
  | _ => 0

def PostAtK (ns : List Int) (k : Nat) (w : World) (e : Ending) (w' : World) : Prop := ∃ r, e = .returned (.int .i64 r) ∧ IsRank ns k r ∧ Below w.heap.size w w'

set_option maxHeartbeats 2000000 in
theorem at_any (ns : List Int) (k0 : Nat) (A : Option Addr) (n cap : Nat) (w : World) (hs : ISl w w.heap.size A n ns) (hreach : n * 8 ≤ 140737488355328) (hk0 : k0 < n) :
    Calls Tryd.prog 12 #[.slice A n cap, .int .i64 (k0 : Int)] w (PostAtK ns k0 w) := by
  go_enter Tryd.func12, Tryd.ntmps12
  go_wp2_with fail
  go_loopw [0, 1] (fun v0 v1 wr => ∃ (A' : Option Addr) (m c' : Nat) (zs : List Int) (k : Nat), v0 = .slice A' m c' ∧ v1 = .int .i64 (k : Int) ∧ ISl wr wr.heap.size A' m zs ∧ k < m ∧ m ≤ n ∧ Below w.heap.size w wr ∧ (∀ r, IsRank zs k r → IsRank ns k0 r))
    (fun v0 _ _ => lenOf v0)
  case atStart => exact ⟨A, n, cap, ns, k0, rfl, rfl, hs, hk0, Nat.le_refl _, Below.refl _ _, fun r h => h⟩
  case round =>
    obtain ⟨A', m, c', zs, k, rfl, rfl, hz, hk, hm, hb, hr⟩ := hrel
    obtain ⟨bl, off, rfl, hbl, hc⟩ := hz.at_ (k := m / 2) (by omega)
    have hlen := hz.len
    have hmem := nth_mem (zs := zs) (k := m / 2) (by omega)
    have Hlen := aside hlen
    clear hlen
    go_wp2_with fail
    refine (parted_any zs (nth zs (m / 2)) _ m c' wr hz (by omega)).mono ?_
    generalize nth zs (m / 2) = piv at hmem ⊢
    rintro e w1 ⟨A1, n1, c1, A2, n2, c2, A3, n3, c3, rfl, hb1, ⟨i1, j1, l1⟩, ⟨i2, j2, l2⟩, ⟨i3, j3, l3⟩⟩
    have hp := parts_len zs piv
    have hsp := sames_pos hmem
    have hl1 := i1.len
    have hl2 := i2.len
    have hl3 := i3.len
    have hl := Hlen.out
    have hsum : n1 + n2 + n3 = m := by omega
    have hpos : 0 < n2 := by omega
    have hbw : Below w.heap.size w w1 := hb.trans (hb1.mono hb.size)
    have L1 := aside hl1
    have L2 := aside hl2
    have L3 := aside hl3
    have S := aside hsum
    have hs1 : n1 + n2 + n3 ≤ m := by omega
    clear hl1 hl2 hl3 hl hsum hp hc
    by_cases hk1 : k < n1
    · go_wp2
      refine ⟨⟨A1, n1, c1, lows zs piv, k, rfl, rfl, i1, hk1, by omega, hbw, fun r h => hr r (rank_low h)⟩, ?_⟩
      show n1 < m
      omega
    · by_cases hk2 : k < n1 + n2
      · obtain ⟨b2, o2, rfl, hbl2, hc2⟩ := i2.at_ (k := 0) (by omega)
        have hv : nth (sames zs piv) 0 = piv := sames_all (nth_mem (by have := L2.out; omega))
        rw [hv, Nat.add_zero] at hc2
        clear hv
        go_wp2
        go_ret
        exact ⟨piv, rfl, hr piv (rank_same hmem (by have := L1.out; omega) (by have := L1.out; have := L2.out; omega)), hbw⟩
      · go_wp2
        refine ⟨⟨A3, n3, c3, highs zs piv, k - (n1 + n2), rfl, ?_, i3, by have := S.out; omega, by omega, hbw, fun r h => hr r ?_⟩, ?_⟩
        · refine ret_int ?_
          omega
        · have := rank_high h
          rw [L1.out, L2.out, Nat.sub_add_cancel (by omega)] at this
          exact this
        · show n3 < m
          omega

def PostClone (ns : List Int) (n : Nat) (w : World) (e : Ending) (w' : World) : Prop := ∃ A c, e = .returned (.slice A n c) ∧ n ≤ c ∧ c ≤ maxLen ∧ ISl w' w'.heap.size A n ns ∧ Below w.heap.size w w'

theorem clone_any (ns : List Int) (A : Option Addr) (n cap : Nat) (w : World) (hs : ISl w w.heap.size A n ns) (hreach : n * 8 ≤ 140737488355328) :
    Calls Tryd.prog 13 #[.slice A n cap] w (PostClone ns n w) := by
  cases A with
  | none =>
    have hn : n = 0 := by
      rcases Nat.eq_zero_or_pos n with h0 | h0
      · exact h0
      · obtain ⟨_, _, hh, _⟩ := Sl.cells hs h0
        cases hh
    subst hn
    have hq := fun W => Lib.run_eql_slice_nil (P := Tryd.prog) W 22 3 none 0 cap 0 0 Tryd.underlying22
    go_enter Tryd.func13, Tryd.ntmps13
    go_wp2
    go_ret
    exact ⟨none, 0, rfl, Nat.le_refl _, Nat.zero_le _, hs, Below.refl _ _⟩
  | some ad =>
    have hq := fun W => Lib.run_eql_slice_nil (P := Tryd.prog) W 22 3 (some ad) n cap 0 0 Tryd.underlying22
    go_enter Tryd.func13, Tryd.ntmps13
    go_wp2_with (at_builtin; refine wpList_concat rfl (.tmp 5) (.tmp 6) 22 rfl w.heap.size _ 1 8 Tryd.underlying22 intInfo rfl (by decide) _ 0 [] rfl (World.ownsRow_lit _ #[] 0 (Nat.le_refl _) (Nat.zero_le _) rfl) w.heap.size _ n cap _ rfl (Sl.alloc hs (Nat.le_refl _) _) ?_ (by omega) (by unfold maxLen; omega) (by simp) ?_)
    · intro u hu
      obtain ⟨z, _, rfl⟩ := List.mem_map.1 hu
      rfl
    · intro A' c' w' h1 h2 h3 h4 _
      go_wp2
      go_ret
      exact ⟨A', c', rfl, h1, h2, Sl.own h3, ((Below.refl _ _).alloc (Nat.le_refl _) _).trans h4⟩

def PostRank (ns : List Int) (k : Int) (w : World) (e : Ending) (w' : World) : Prop :=
  ∃ r v, e = .returned (.tuple #[.int .i64 r, v]) ∧ Below w.heap.size w w' ∧
    ((0 ≤ k ∧ k < ns.length ∧ v = .nilIface ∧ IsRank ns k.toNat r) ∨ (ns = [] ∧ r = 0 ∧ v = .iface 30 (.int .i64 5)) ∨ (ns ≠ [] ∧ (k < 0 ∨ (ns.length : Int) ≤ k) ∧ r = 0 ∧ v = .iface 30 (.int .i64 2)))

theorem nil_of_len {α : Type} {l : List α} (h : l.length = 0) : l = [] := List.eq_nil_of_length_eq_zero h
theorem ne_nil_of_len {α : Type} {l : List α} (h : 0 < l.length) : l ≠ [] := fun e => by subst e; simp at h

set_option maxHeartbeats 1000000 in
theorem rank_any (ns : List Int) (k : Int) (A : Option Addr) (n cap : Nat) (w : World) (hs : ISl w w.heap.size A n ns) (hreach : n * 8 ≤ 140737488355328) :
    Calls Tryd.prog 6 #[.slice A n cap, .int .i64 k] w (PostRank ns k w) := by
  have hlen := hs.len
  rcases Nat.eq_zero_or_pos n with h0 | hpos
  · subst h0
    have hn := nil_of_len hlen
    clear hlen
    go_enter Tryd.func6, Tryd.ntmps6
    go_wp2
    go_ret2
    exact ⟨_, _, rfl, Below.refl _ _, .inr (.inl ⟨hn, rfl, rfl⟩)⟩
  · have hne := ne_nil_of_len (l := ns) (by omega)
    have hn0 : ((n : Int) == 0) = false := by simp; omega
    have Hlen := aside hlen
    clear hlen
    by_cases hk : 0 ≤ k ∧ k < n
    · obtain ⟨hk0, hk1⟩ := hk
      obtain ⟨j, rfl⟩ := Int.eq_ofNat_of_zero_le hk0
      clear hk0
      go_enter Tryd.func6, Tryd.ntmps6
      go_wp2_with fail
      refine (clone_any ns A n cap w hs hreach).mono ?_
      rintro e w1 ⟨A1, c1, rfl, h11, h12, h13, hb1⟩
      go_wp2_with fail
      refine (at_any ns j A1 n c1 w1 h13 hreach (by omega)).mono ?_
      rintro e w2 ⟨r, rfl, hr, hb2⟩
      go_wp2
      go_ret2
      exact ⟨_, _, rfl, hb1.trans (hb2.mono hb1.size), .inl ⟨by omega, by have := Hlen.out; omega, rfl, by simpa using hr⟩⟩
    · have hk' : k < 0 ∨ (n : Int) ≤ k := by omega
      clear hk
      rcases hk' with hk' | hk'
      all_goals
        go_enter Tryd.func6, Tryd.ntmps6
        go_wp2
        go_ret2
        exact ⟨_, _, rfl, Below.refl _ _, .inr (.inr ⟨hne, by have := Hlen.out; omega, rfl, rfl⟩)⟩

/-- The place of a part of all. -/
def idx (n p : Nat) : Nat := (n - 1) * p / 100
theorem idx_lt {n p : Nat} (hn : 0 < n) (hp : p ≤ 100) : idx n p < n := by
  unfold idx
  have : (n - 1) * p ≤ (n - 1) * 100 := Nat.mul_le_mul_left _ hp
  omega
theorem idx_mono {n p q : Nat} (h : p ≤ q) : idx n p ≤ idx n q := by
  unfold idx
  exact Nat.div_le_div_right (Nat.mul_le_mul_left _ h)

def PostPart (ns : List Int) (p : Int) (w : World) (e : Ending) (w' : World) : Prop :=
  ∃ r v, e = .returned (.tuple #[.int .i64 r, v]) ∧ Below w.heap.size w w' ∧
    ((0 ≤ p ∧ p ≤ 100 ∧ ns ≠ [] ∧ v = .nilIface ∧ IsRank ns (idx ns.length p.toNat) r) ∨ (ns = [] ∧ r = 0 ∧ v = .iface 30 (.int .i64 5)) ∨ (ns ≠ [] ∧ (p < 0 ∨ 100 < p) ∧ r = 0 ∧ v = .iface 30 (.int .i64 2)))

set_option maxHeartbeats 1000000 in
theorem part_any (ns : List Int) (p : Int) (A : Option Addr) (n cap : Nat) (w : World) (hs : ISl w w.heap.size A n ns) (hreach : n * 8 ≤ 140737488355328) :
    Calls Tryd.prog 10 #[.slice A n cap, .int .i64 p] w (PostPart ns p w) := by
  have hlen := hs.len
  rcases Nat.eq_zero_or_pos n with h0 | hpos
  · subst h0
    have hn := nil_of_len hlen
    clear hlen
    go_enter Tryd.func10, Tryd.ntmps10
    go_wp2
    go_ret2
    exact ⟨_, _, rfl, Below.refl _ _, .inr (.inl ⟨hn, rfl, rfl⟩)⟩
  · obtain ⟨m, rfl⟩ : ∃ m, n = m + 1 := ⟨n - 1, by omega⟩
    have hne := ne_nil_of_len (l := ns) (by omega)
    have hn0 : (((m : Int) + 1) == 0) = false := by simp; omega
    have Hlen := aside hlen
    clear hlen
    by_cases hk : 0 ≤ p ∧ p ≤ 100
    · obtain ⟨hk0, hk1⟩ := hk
      obtain ⟨q, rfl⟩ := Int.eq_ofNat_of_zero_le hk0
      clear hk0
      have hq : q ≤ 100 := by omega
      have hi := idx_lt (n := m + 1) (p := q) (by omega) hq
      have hmul : m * q ≤ m * 100 := Nat.mul_le_mul_left _ hq
      have hm0 : (0 : Int) ≤ (m : Int) * (q : Int) := by rw [← Int.natCast_mul]; omega
      have hm1 : (m : Int) * (q : Int) ≤ 1759218604441600 := by rw [← Int.natCast_mul]; omega
      have hcast : (m : Int) * (q : Int) / 100 = ((idx (m + 1) q : Nat) : Int) := by unfold idx; rw [Nat.add_sub_cancel, Int.natCast_ediv, Int.natCast_mul]; rfl
      have Hc := aside hcast
      clear hmul hcast
      go_enter Tryd.func10, Tryd.ntmps10
      go_wp2_with fail
      refine (clone_any ns A (m + 1) cap w hs hreach).mono ?_
      rintro e w1 ⟨A1, c1, rfl, h11, h12, h13, hb1⟩
      go_wp2_with fail
      rw [Hc.out]
      refine (at_any ns (idx (m + 1) q) A1 (m + 1) c1 w1 h13 hreach hi).mono ?_
      rintro e w2 ⟨r, rfl, hr, hb2⟩
      go_wp2
      go_ret2
      exact ⟨_, _, rfl, hb1.trans (hb2.mono hb1.size), .inl ⟨by omega, by omega, hne, rfl, by rw [Hlen.out, Int.toNat_natCast]; exact hr⟩⟩
    · have hk' : p < 0 ∨ 100 < p := by omega
      clear hk
      rcases hk' with hk' | hk'
      all_goals
        go_enter Tryd.func10, Tryd.ntmps10
        go_wp2
        go_ret2
        exact ⟨_, _, rfl, Below.refl _ _, .inr (.inr ⟨hne, by omega, rfl, rfl⟩)⟩

theorem ranked_any (w : World) : Calls Tryd.prog 5 #[] w fun e w' => e = .returned (.bool true) ∧ Below w.heap.size w w' := by
  have hs : ISl (w.alloc (.cells #[.int .i64 7, .int .i64 3, .int .i64 5] 3)) (w.heap.size + 1) (some ⟨w.heap.size, 0, none⟩) 3 [7, 3, 5] :=
    ⟨rfl, fun _ => ⟨w.heap.size, 0, rfl, by omega, fun j u hu => by
      rw [Nat.zero_add, World.cell?_alloc_at _ _ _ _ rfl]
      simpa using hu⟩⟩
  go_enter Tryd.func5, Tryd.ntmps5
  go_wp2_with fail
  refine (rank_any [7, 3, 5] 1 _ 3 3 _ (by simpa using hs) (by omega)).mono ?_
  rintro e w1 ⟨r, v, rfl, hb, ⟨h1, h2, rfl, hr⟩ | ⟨h1, h2, rfl⟩ | ⟨h1, h2, h3, rfl⟩⟩
  · have h5 : IsRank [7, 3, 5] 1 5 := ⟨by decide, by decide, by decide⟩
    obtain rfl : r = 5 := hr.uniq h5
    go_wp2
    go_ret
    exact ⟨rfl, ((Below.refl _ _).alloc (Nat.le_refl _) _).trans (hb.mono (by simp))⟩
  · cases h1
  · simp at h2
end Go.Proofs.YtelmllngcbihjaaDoor
