/- Bytes behind bytes: slices.Grow and slices.Concat: the walks. Conditions: named in each theorem. -/
import Derived.Test.YtkpbhbafapdboaaDoorShaG
import Derived.Lib.AppendZeros
import Derived.Deep.Cut
namespace Go.Proofs.YtkpbhbafapdboaaDoor
open Go.RowKit Go.ChangeShapes Go.WideShapes Go.ChangeAt

theorem zeroCells_size (z : Array Value) (n : Nat) (hz : z.size = 1) : (Builtin.zeroCells z n).size = n := by
  simp [Builtin.zeroCells, hz]
set_option maxRecDepth 100000 in
theorem grow_any (n : Nat) (h1 : 1 ≤ n) (hn : n ≤ 1000000) (w : World) : Calls Tryd.prog 46 #[.slice none 0 0, .int .i64 n] w (fun e w' => ∃ G c, e = .returned (.slice G 0 c) ∧ Hid (YRow w' w.heap.size (.slice G 0 c) 0 []) ∧ Below w.heap.size w w') := by
  have e1 : ((n : Int) < 0) = False := by simp only [eq_iff_iff, iff_false]; omega
  have e2 : (0 : Int) < (n : Int) := by omega
  obtain ⟨i0, hI, hIz, hIs, hIb⟩ := info_parts byteInfo
  have hrz : ∀ ty, (Builtin.append_ #[59, 3] ty #[.slice none 0 0, .int .i64 (n : Int)]).run Tryd.prog w = .ok (.slice (some ⟨w.heap.size, 0, none⟩) n (grownCap w n 0 5)) (w.drew.alloc (.cells (Builtin.zeroCells (Value.int .u8 0).cells n ++ Builtin.zeroCells (Value.int .u8 0).cells (grownCap w n 0 5 - n)) 5)) := fun ty => Go.Lib.run_append_nil_zeros w 59 3 ty 5 i0 (.int .u8 0) .i64 .i64 Tryd.underlying59 Tryd.underlying3 hI hIz n (by omega) (by omega) (by omega) (by rw [hIb]; omega)
  have hcap := grownCap_ge w n 0 5
  have hmax := grownCap_le_maxLen w n 0 5 (by unfold maxLen; omega)
  generalize grownCap w n 0 5 = C at hrz hcap hmax
  have hsz : (Builtin.zeroCells (Value.int .u8 0).cells n ++ Builtin.zeroCells (Value.int .u8 0).cells (C - n)).size = C * 1 := by rw [Array.size_append, zeroCells_size _ _ rfl, zeroCells_size _ _ rfl]; omega
  generalize Builtin.zeroCells (Value.int .u8 0).cells n ++ Builtin.zeroCells (Value.int .u8 0).cells (C - n) = cs at hrz hsz
  have HO : Hid ((w.drew.alloc (.cells cs 5)).ownsRow w.heap.size 5 1 (.slice (some ⟨w.heap.size, 0, none⟩) 0 C) 0 []) := aside (World.ownsRow_made (base := w.heap.size) w.drew cs C (Nat.le_refl _) hmax hsz)
  have HR := aside hrz
  have hz : (0 : Int) ≤ (C : Int) := by omega
  have HB : Hid (Below w.heap.size w (w.drew.alloc (.cells cs 5))) := aside (((below_drawn (Below.refl _ w) 1)).alloc (Nat.le_refl _) _)
  clear hI hIz hIs hIb hrz hsz
  go_enter Tryd.func46, Tryd.ntmps46
  go_wp2_with (first | (at_builtin; refine Go.Lib.wpList_append_run _ rfl _ _ _ _ rfl _ _ rfl rfl _ _ (HR.out _) ?_) | fail)
  go_ret
  exact ⟨_, _, rfl, HO, HB.out⟩

/-- A part of what stands behind one another. -/
structure Part where
  A : Option Addr
  n : Nat
  c : Nat
  bs : List Nat
/-- All parts' bytes. -/
def allP (ps : List Part) : List Nat := ps.flatMap (·.bs)
def Part.none_ : Part := ⟨none, 0, 0, []⟩
/-- The parts' slices lie in a row; each reads as its bytes. -/
def PartsAt (w : World) (vb : Nat) (ps : List Part) : Prop :=
  ∀ j, j < ps.length → w.cell? ⟨vb, j, none⟩ = some (.slice (ps.getD j Part.none_).A (ps.getD j Part.none_).n (ps.getD j Part.none_).c) ∧ YSl w w.heap.size (ps.getD j Part.none_).A (ps.getD j Part.none_).n (ps.getD j Part.none_).bs
theorem allP_take {ps : List Part} {k : Nat} (h : k < ps.length) : allP (ps.take (k + 1)) = allP (ps.take k) ++ (ps.getD k Part.none_).bs := by
  unfold allP
  rw [take_next Part.none_ h, List.flatMap_append]
  simp
theorem allP_le (ps : List Part) (k : Nat) : (allP (ps.take k)).length ≤ (allP ps).length := by
  unfold allP
  conv => rhs; rw [← List.take_append_drop k ps]
  rw [List.flatMap_append, List.length_append]
  omega
theorem byV_one {bs : List Nat} : ∀ u ∈ bs.flatMap byV, u.oneCell' = true := by
  intro u hu
  obtain ⟨x, -, hx⟩ := List.mem_flatMap.1 hu
  simp only [byV, List.mem_singleton] at hx
  rw [hx]; rfl

set_option maxHeartbeats 2000000 in
set_option maxRecDepth 100000 in
theorem concat_any (ps : List Part) (m vb : Nat) (hm : ps.length = m) (w : World) (hvb : vb < w.heap.size) (h : PartsAt w vb ps) (h1 : 1 ≤ (allP ps).length) (hn : (allP ps).length ≤ 1000000) (hm6 : m ≤ 100) :
    Calls Tryd.prog 32 #[.slice (some ⟨vb, 0, none⟩) m m] w (fun e w' => ∃ G n c, e = .returned (.slice G n c) ∧ YSl w' w'.heap.size G n (allP ps) ∧ Below w.heap.size w w') := by
  have H := aside h
  have Hm := aside hm
  clear h
  go_enter Tryd.func32, Tryd.ntmps32
  go_upto_region 3 with fail
  go_loopw [3, 5, 11] (fun x3 _ x11 wr => ∃ (k : Nat), k ≤ m ∧ x3 = .int .i64 ((allP (ps.take k)).length : Nat) ∧ x11 = .int .i64 k ∧ wr = w) (fun _ _ x11 _ => m - (Go.RowKit.intOf x11).toNat)
  case atStart => exact ⟨0, by omega, rfl, rfl, rfl⟩
  case round =>
    obtain ⟨k, hk, rfl, rfl, rfl⟩ := hrel
    by_cases k1 : k < m
    · obtain ⟨hc, hy⟩ := H.out k (by omega)
      have hl := YSl.len1 hy
      have ha := allP_take (ps := ps) (k := k) (by omega)
      have hle := allP_le ps (k + 1)
      rw [ha, List.length_append, hl] at hle
      have k1' : (k : Int) < (m : Int) := by omega
      have HA : Hid ((allP (ps.take (k + 1))).length = (allP (ps.take k)).length + (ps.getD k Part.none_).n) := aside (by rw [ha, List.length_append, hl])
      generalize (ps.getD k Part.none_).A = A1 at hc
      generalize (ps.getD k Part.none_).n = n1 at hc HA hle
      generalize (ps.getD k Part.none_).c = c1 at hc
      generalize (allP (ps.take k)).length = q at HA hle
      clear hl hy ha
      go_wp2_with fail
      exact ⟨⟨k + 1, by omega, by rw [HA.out]; rfl, by go_num, trivial⟩, by simp [Go.RowKit.intOf]; omega⟩
    · obtain rfl : k = m := by omega
      have k1' : ((k : Int) < (k : Int)) = False := by simp
      have ha : (allP (ps.take k)).length = (allP ps).length := by rw [← hm, List.take_length]
      rw [ha]
      generalize hN : (allP ps).length = N at h1 hn
      have HN := aside hN
      clear hN ha hm hk k1
      go_wp2_with (first
        | (go_at_call 46; refine (grow_any N h1 hn _).mono ?_; rintro e w1 ⟨G1, c1, rfl, HO1, hb1⟩; have HB1 := aside hb1; clear hb1)
        | fail)
      obtain ⟨w0, hw0⟩ : ∃ w0, w0 = wr := ⟨_, rfl⟩
      subst hw0
      go_loopw [6, 8, 27] (fun x6 _ x27 wr => ∃ (j n : Nat) (A : Option Addr) (c : Nat), j ≤ k ∧ n = (allP (ps.take j)).length ∧ x6 = .slice A n c ∧ x27 = .int .i64 j ∧ Hid (YRow wr w0.heap.size (.slice A n c) n (allP (ps.take j))) ∧ Hid (Below w0.heap.size w0 wr)) (fun _ _ x27 _ => k - (Go.RowKit.intOf x27).toNat)
      case atStart => exact ⟨0, 0, G1, c1, by omega, rfl, rfl, rfl, HO1, HB1⟩
      case round =>
        clear HO1 HB1
        obtain ⟨j, n, A, c, hj, hn2, rfl, rfl, HO, HB⟩ := hrel
        by_cases j1 : j < k
        · obtain ⟨hc, hy⟩ := H.out j (by rw [Hm.out]; exact j1)
          have hl := YSl.len1 hy
          have ha := allP_take (ps := ps) (k := j) (by rw [Hm.out]; exact j1)
          have hle := allP_le ps (j + 1)
          rw [ha, List.length_append, hl, ← hn2, HN.out] at hle
          have j1' : (j : Int) < (k : Int) := by omega
          have HC : Hid (wr.cell? ⟨vb, j, none⟩ = some (.slice (ps.getD j Part.none_).A (ps.getD j Part.none_).n (ps.getD j Part.none_).c)) := aside ((HB.out.cell (p := ⟨vb, j, none⟩) hvb).trans hc)
          have HY : Hid (YSl wr w0.heap.size (ps.getD j Part.none_).A (ps.getD j Part.none_).n (ps.getD j Part.none_).bs) := aside (Sl.below hy HB.out)
          have HN2 : Hid (n + (ps.getD j Part.none_).n = (allP (ps.take (j + 1))).length) := aside (by rw [ha, List.length_append, hl, ← hn2])
          have HA := aside ha
          have hc := HC.out
          generalize (ps.getD j Part.none_).A = A2 at hc HY
          generalize (ps.getD j Part.none_).n = n2 at hc HY HN2 hle
          generalize (ps.getD j Part.none_).c = c2 at hc
          clear hl ha hy HC hn2
          go_wp2_with (first
            | (at_builtin; refine wpList_concat rfl (.tmp 31) (.tmp 32) 59 rfl w0.heap.size (.int .u8 0) 1 1 Tryd.underlying59 byteInfo rfl (by decide) _ n _ rfl HO.out w0.heap.size A2 n2 c2 _ rfl HY.out byV_one (by omega) (by unfold maxLen; omega) HB.out.size ?_; intro G3 c3 w3 hc3 hc3' hown hb3 hg3; have HO3 := aside hown; have HB3 := aside (HB.out.trans hb3); clear hown hb3 hg3)
            | fail)
          refine ⟨⟨j + 1, n + n2, G3, c3, by omega, HN2.out, rfl, by go_num, aside ?_, HB3⟩, by simp [Go.RowKit.intOf]; omega⟩
          unfold YRow
          rw [HA.out, List.flatMap_append]
          exact HO3.out
        · obtain rfl : j = k := by omega
          have j1' : ((j : Int) < (j : Int)) = False := by simp
          have HE : Hid (allP (ps.take j) = allP ps) := aside (by rw [← Hm.out, List.take_length])
          clear hn2 hj j1
          go_wp2_with fail
          go_ret
          refine ⟨A, n, c, rfl, ?_, HB.out⟩
          have h := HO.out
          rw [HE.out] at h
          exact Sl.own h
end Go.Proofs.YtkpbhbafapdboaaDoor
