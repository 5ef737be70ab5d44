/- The reference's digests: a block of 64 bytes: the walk. Conditions: named in each theorem. -/
import Derived.Test.YtbpabjhcjffkmaaGreatDoorRefB
import Derived.StillTailTactics
import Derived.BigQuiet
import Derived.Deep.RegionWith
namespace Go.Proofs.YtbpabjhcjffkmaaGreatDoor
open Go.RowKit Go.ChangeShapes Go.WideShapes Go.ChangeAt

/-- So many words stand there. -/
def wordsN (bs : List Nat) (t : Nat) : List Nat := if t ≤ 16 then firstW bs t else moreW bs (t - 16)
theorem wordsN_len (bs : List Nat) (t : Nat) : (wordsN bs t).length = 64 := by
 unfold wordsN
 split
 ·exact firstW_len _ _
 ·exact moreW_len _ _
theorem wordsN_small {bs : List Nat} (h : ∀ x ∈ bs, x < 256) (t : Nat) : Small (wordsN bs t) := by
 unfold wordsN
 split
 ·exact firstW_small h _
 ·exact moreW_small h _
theorem wordsN_first (bs : List Nat) {k : Nat} (h : k < 16) : wordsN bs (k + 1) = (wordsN bs k).set k (be4 (bs.getD (4 * k) 0) (bs.getD (4 * k + 1) 0) (bs.getD (4 * k + 2) 0) (bs.getD (4 * k + 3) 0)) := by
 unfold wordsN
 rw [if_pos (by omega), if_pos (by omega)]
 rfl
theorem wordsN_more (bs : List Nat) (k : Nat) : wordsN bs (k + 16) = moreW bs k := by
 unfold wordsN
 split
 ·obtain rfl : k = 0 := by omega
  rfl
 ·rw [show k + 16 - 16 = k by omega]
theorem wordsN_next (bs : List Nat) (k : Nat) : wordsN bs (k + 16 + 1) = (wordsN bs (k + 16)).set (k + 16) ((sig1 ((wordsN bs (k + 16)).getD (k + 14) 0) + (wordsN bs (k + 16)).getD (k + 9) 0 + sig0 ((wordsN bs (k + 16)).getD (k + 1) 0) + (wordsN bs (k + 16)).getD k 0) % 4294967296) := by
 rw [show k + 16 + 1 = (k + 1) + 16 by omega, wordsN_more, wordsN_more]
 rfl
theorem numN_four (bs : List Nat) (k : Nat) : numN ((bs.drop k).take 4) 4 = be4 (bs.getD k 0) (bs.getD (k + 1) 0) (bs.getD (k + 2) 0) (bs.getD (k + 3) 0) := by
 have g : ∀ j, j < 4 → ((bs.drop k).take 4).getD j 0 = bs.getD (k + j) 0 := by
  intro j hj
  rw [List.getD_eq_getElem?_getD, List.getD_eq_getElem?_getD, List.getElem?_take_of_lt hj, List.getElem?_drop]
 simp only [numN, g 0 (by decide), g 1 (by decide), g 2 (by decide), g 3 (by decide), be4, Nat.add_zero]
 omega
theorem madeI (n : Nat) : madeCells #[Value.int .i64 0] n = rowI (List.replicate n 0) := by
 apply Array.ext'
 apply List.ext_getElem?
 intro i
 simp [madeCells, rowI, IV, List.getElem?_replicate]
 by_cases h : i < n
 ·simp [h, Nat.mod_one]
 ·simp [h]
/-- A part of bytes. -/
theorem YSl.part {w : World} {B n b off : Nat} {bs : List Nat} (h : YSl w B (some ⟨b, off, none⟩) n bs) {k m : Nat} (hk : k + m ≤ n) (hm : 0 < m) : YSl w B (some ⟨b, off + k, none⟩) m ((bs.drop k).take m) := by
 have hl := YSl.len1 h
 obtain ⟨b', off', e, hb, hc⟩ := YSl.at1 h (by omega)
 injection e with e
 injection e with e1 e2
 subst e1 e2
 have e : ∀ l : List Nat, l.flatMap byV = l.map fun (x : Nat) => Value.int .u8 (x : Int) := by
  intro l
  induction l with
  | nil => rfl
  | cons a r ih => rw [List.flatMap_cons, ih]; rfl
 refine ⟨by rw [e]; simp; omega, fun _ => ⟨b, off + k, rfl, hb, fun j u hu => ?_⟩⟩
 rw [e] at hu
 have hj : j < m := by
  have := (List.getElem?_eq_some_iff.1 hu).1
  simp at this
  omega
 have h1 := hc (k + j) (by omega)
 rw [Nat.add_assoc, h1]
 have hkj : k + j < bs.length := by omega
 simp only [List.getElem?_map, List.getElem?_take_of_lt hj, List.getElem?_drop, List.getElem?_eq_getElem hkj, Option.map_some] at hu
 rw [← hu, List.getD_eq_getElem?_getD, List.getElem?_eq_getElem hkj]
 rfl
theorem sig0_i64 {x : Nat} (h : x < 4294967296) : bits .xor .i64 (bits .xor .i64 (rot x 7 : Int) (rot x 18 : Int)) ((x : Int) / 8) = ((sig0 x : Nat) : Int) := by
 have h1 := rot_lt (x := x) (n := 7) h
 have h2 := rot_lt (x := x) (n := 18) h
 have h3 := xor_lt h1 h2
 rw [show (x : Int) / 8 = ((x / 8 : Nat) : Int) by simp, i64_xor_nat _ _ (by omega) (by omega), i64_xor_nat _ _ (by omega) (by omega)]
 rfl
theorem sig1_i64 {x : Nat} (h : x < 4294967296) : bits .xor .i64 (bits .xor .i64 (rot x 17 : Int) (rot x 19 : Int)) ((x : Int) / 1024) = ((sig1 x : Nat) : Int) := by
 have h1 := rot_lt (x := x) (n := 17) h
 have h2 := rot_lt (x := x) (n := 19) h
 have h3 := xor_lt h1 h2
 rw [show (x : Int) / 1024 = ((x / 1024 : Nat) : Int) by simp, i64_xor_nat _ _ (by omega) (by omega), i64_xor_nat _ _ (by omega) (by omega)]
 rfl
/-- A sum of two that does not wrap. -/
theorem add_i64 {a b c : Nat} (hc : c = a + b) (h : c < 9223372036854775808) : IntKind.i64.wrap ((a : Int) + (b : Int)) = (c : Int) := by
 rw [IntKind.wrap_i64]
 omega
theorem mask_i64 {a b : Nat} (hb : b = a % 4294967296) (h : a < 9223372036854775808) : bits .and .i64 (a : Int) 4294967295 = (b : Int) := by rw [i64_mask32 _ h, hb]
theorem rot3_i64 {x a b c : Nat} (h : x < 4294967296) : bits .xor .i64 (bits .xor .i64 (rot x a : Int) (rot x b : Int)) (rot x c : Int) = ((rot3 x a b c : Nat) : Int) := by
 have h1 := rot_lt (x := x) (n := a) h
 have h2 := rot_lt (x := x) (n := b) h
 have h4 := rot_lt (x := x) (n := c) h
 have h3 := xor_lt h1 h2
 rw [i64_xor_nat _ _ (by omega) (by omega), i64_xor_nat _ _ (by omega) (by omega)]
 rfl
theorem neg_i64 {e : Nat} (h : e < 4294967296) : IntKind.i64.wrap (4294967295 - (e : Int)) = ((4294967295 - e : Nat) : Int) := by
 rw [IntKind.wrap_i64]
 omega
theorem ch_i64 {e f g : Nat} (he : e < 4294967296) (hf : f < 4294967296) (hg : g < 4294967296) : bits .xor .i64 (bits .and .i64 (e : Int) (f : Int)) (bits .and .i64 ((4294967295 - e : Nat) : Int) (g : Int)) = ((chW e f g : Nat) : Int) := by
 have h1 := and_lt (y := f) he
 have h2 := and_lt (x := 4294967295 - e) (y := g) (by omega)
 rw [i64_and_nat _ _ (by omega) (by omega), i64_and_nat _ _ (by omega) (by omega), i64_xor_nat _ _ (by omega) (by omega)]
 rfl
theorem chW_lt {e f g : Nat} (he : e < 4294967296) : chW e f g < 4294967296 := xor_lt (and_lt he) (and_lt (by omega))
theorem majW_lt {a b c : Nat} (ha : a < 4294967296) (hb : b < 4294967296) : majW a b c < 4294967296 := xor_lt (xor_lt (and_lt ha) (and_lt ha)) (and_lt hb)
theorem maj_i64 {a b c : Nat} (ha : a < 4294967296) (hb : b < 4294967296) (hc : c < 4294967296) : bits .xor .i64 (bits .xor .i64 (bits .and .i64 (a : Int) (b : Int)) (bits .and .i64 (a : Int) (c : Int))) (bits .and .i64 (b : Int) (c : Int)) = ((majW a b c : Nat) : Int) := by
 have h1 := and_lt (y := b) ha
 have h2 := and_lt (y := c) ha
 have h3 := and_lt (y := c) hb
 have h4 := xor_lt h1 h2
 rw [i64_and_nat _ _ (by omega) (by omega), i64_and_nat _ _ (by omega) (by omega), i64_and_nat _ _ (by omega) (by omega), i64_xor_nat _ _ (by omega) (by omega), i64_xor_nat _ _ (by omega) (by omega)]
 rfl
/-- So many moved on by one. -/
def shiftN (v : List Nat) : Nat → List Nat
 | 0 => v
 | i + 1 => (shiftN v i).set (7 - i) ((shiftN v i).getD (6 - i) 0)
theorem shiftN_len (v : List Nat) : ∀ i, (shiftN v i).length = v.length
 | 0 => rfl
 | i + 1 => by simp [shiftN, shiftN_len v i]
set_option maxHeartbeats 4000000 in
set_option maxRecDepth 100000 in
theorem rblock_any (s : List Nat) (hs : s.length = 8) (hsm : Small s) (hb hc kb kc : Nat) (bs : List Nat) (A : Option Addr) (n c : Nat) (w : World) (hH : VSl w w.heap.size (some ⟨hb, 0, none⟩) 8 s) (hK : VSl w w.heap.size (some ⟨kb, 0, none⟩) 64 roundK) (h : YSl w w.heap.size A n bs) (hn : 64 ≤ n) (hnc : n ≤ c) (hc2 : c ≤ maxLen) (hby : ∀ x ∈ bs, x < 256) :
  Calls Tryz.prog 48 #[.slice (some ⟨hb, 0, none⟩) 8 hc, .slice (some ⟨kb, 0, none⟩) 64 kc, .slice A n c] w (fun e w' => ∃ b' c', e = .returned (.slice (some ⟨b', 0, none⟩) 8 c') ∧ w.heap.size ≤ b' ∧ RowI w' b' 3 (blockL s bs) ∧ Below w.heap.size w w') := by
 have hlen := YSl.len1 h
 have HM := aside h
 obtain ⟨mb, mo, rfl, hmb, -⟩ := YSl.at1 h (by omega)
 have HH := aside hH
 have HK := aside hK
 have HBy := aside hby
 have HS := aside hs
 have HSm := aside hsm
 unfold maxLen at hc2
 clear h hby hs hsm hH hK
 have hmk : ∀ w : World, (Instr.makeSlice 50 (.int .i64 64) (.int .i64 64)).run Tryz.prog w = .ok (.slice (some ⟨w.heap.size, 0, none⟩) 64 64) (w.alloc (.cells (rowI (List.replicate 64 0)) 3)) := fun w => madeI 64 ▸ run_make_row' (P := Tryz.prog) 50 3 (.int .i64 0) 8 Tryz.underlying50 intInfo rfl .i64 .i64 64 (by decide) (by decide) w
 go_enter Tryz.func48, Tryz.ntmps48
 go_wp2_with fail
 clear hmk
 obtain ⟨B, hB⟩ : ∃ B, B = w.heap.size := ⟨_, rfl⟩
 have EB := aside hB
 have R2 : Hid (RowI (w.alloc (.cells (rowI (List.replicate 64 0)) 3)) B 3 (wordsN bs 0)) := aside (by rw [hB]; exact RowI.new _ _ _)
 have B0 : Hid (Below B w (w.alloc (.cells (rowI (List.replicate 64 0)) 3))) := aside (by
  rw [hB]
  exact (Below.refl _ _).alloc (Nat.le_refl _) _)
 have Z0 : Hid ((w.alloc (.cells (rowI (List.replicate 64 0)) 3)).heap.size = B + 1) := aside (by simp [hB])
 change Code.wp _ _ _ _ (w.alloc (.cells (rowI (List.replicate 64 0)) 3))
 simp only [← hB] at hmb ⊢
 rw [← hB] at HM HH HK
 clear hB
 generalize w.alloc (.cells (rowI (List.replicate 64 0)) 3) = w1 at R2 B0 Z0 ⊢
 go_loopw [8] (fun v8 wr => ∃ (t : Nat), t ≤ 64 ∧ v8 = .int .i64 t ∧ Hid (RowI wr B 3 (wordsN bs t)) ∧ Hid (Below B w wr) ∧ Hid (wr.heap.size = B + 1)) (fun v8 _ => 64 - (Go.RowKit.intOf v8).toNat)
 case atStart => exact ⟨0, by omega, rfl, R2, B0, Z0⟩
 case round =>
  clear R2 B0 Z0
  obtain ⟨t, ht, rfl, R2, B0, Z0⟩ := hrel
  by_cases t1 : t < 64
  ·have t1' : (t : Int) < 64 := by omega
   have HS2 := aside (wordsN_small HBy.out t)
   by_cases t2 : t < 16
   ·have t2' : (t : Int) < 16 := by omega
    have HF := aside (wordsN_first bs t2)
    obtain ⟨j, hj⟩ : ∃ j, j = 4 * t := ⟨_, rfl⟩
    have HN := numN_four bs j
    rw [← hj, ← HN] at HF
    have HP := aside (YSl.part (k := j) (m := 4) HM.out (by omega) (by decide))
    have HPr : Hid (YSl wr wr.heap.size (some ⟨mb, mo + j, none⟩) 4 ((bs.drop j).take 4)) := aside (Sl.more (Sl.below HP.out B0.out) (by have := Z0.out; omega))
    have e1 : IntKind.i64.wrap (4 * (t : Int)) = (j : Int) := by rw [IntKind.wrap_i64]; omega
    have e2 : IntKind.i64.wrap ((j : Int) + 4) = ((j + 4 : Nat) : Int) := by rw [IntKind.wrap_i64]; omega
    have jn : j + 4 ≤ c := by omega
    have c0 := R2.out.at_ (j := t) (by rw [wordsN_len]; omega)
    have f0 := R2.out.fr t
    have HJ := aside hj
    clear hj HN ht
    go_wp2_with fail
    refine (num_any _ _ 4 _ wr HPr.out (by decide) (by decide) (fun x hx => HBy.out x (List.mem_of_mem_drop (List.mem_of_mem_take hx)))).mono ?_
    rintro e w2 ⟨rfl, rfl⟩
    go_wp2_with fail
    exact ⟨⟨t + 1, by omega, by go_num, aside (by rw [HF.out]; exact R2.out.set _ _), aside (B0.out.setCell (Nat.le_refl _) _), aside (by have := Z0.out; simpa using this)⟩, by simp [Go.RowKit.intOf]; omega⟩
   ·have t2' : ((t : Int) < 16) = False := by simp only [eq_iff_iff, iff_false]; omega
    obtain ⟨k, rfl⟩ : ∃ k, t = k + 16 := ⟨t - 16, by omega⟩
    have HF := aside (wordsN_next bs k)
    have c15 := R2.out.at_ (j := k + 1) (by rw [wordsN_len]; omega)
    have c2 := R2.out.at_ (j := k + 14) (by rw [wordsN_len]; omega)
    have c7 := R2.out.at_ (j := k + 9) (by rw [wordsN_len]; omega)
    have c16 := R2.out.at_ (j := k) (by rw [wordsN_len]; omega)
    have s15 := HS2.out (k + 1)
    have s2 := HS2.out (k + 14)
    have s7 := HS2.out (k + 9)
    have s16 := HS2.out k
    obtain ⟨t, hT⟩ : ∃ t, t = k + 16 := ⟨_, rfl⟩
    rw [← hT] at t1 t1' t2' HF c15 c2 c7 c16 s15 s2 s7 s16 R2 ⊢
    have ct := R2.out.at_ (j := t) (by rw [wordsN_len]; omega)
    have ft := R2.out.fr t
    generalize (wordsN bs t).getD (k + 1) 0 = x15 at c15 s15 HF
    generalize (wordsN bs t).getD (k + 14) 0 = x2 at c2 s2 HF
    generalize (wordsN bs t).getD (k + 9) 0 = x7 at c7 s7 HF
    generalize (wordsN bs t).getD k 0 = x16 at c16 s16 HF
    generalize (wordsN bs t).getD t 0 = xt at ct
    obtain ⟨a15, h15⟩ : ∃ a, a = k + 1 := ⟨_, rfl⟩
    obtain ⟨a2, h2⟩ : ∃ a, a = k + 14 := ⟨_, rfl⟩
    obtain ⟨a7, h7⟩ : ∃ a, a = k + 9 := ⟨_, rfl⟩
    rw [← h15] at c15
    rw [← h2] at c2
    rw [← h7] at c7
    have e15 : IntKind.i64.wrap ((t : Int) - 15) = (a15 : Int) := by rw [IntKind.wrap_i64]; omega
    have e2 : IntKind.i64.wrap ((t : Int) - 2) = (a2 : Int) := by rw [IntKind.wrap_i64]; omega
    have e7 : IntKind.i64.wrap ((t : Int) - 7) = (a7 : Int) := by rw [IntKind.wrap_i64]; omega
    have e16 : IntKind.i64.wrap ((t : Int) - 16) = (k : Int) := by rw [IntKind.wrap_i64]; omega
    have l15 : (a15 : Int) < 64 := by omega
    have l2 : (a2 : Int) < 64 := by omega
    have l7 : (a7 : Int) < 64 := by omega
    have l16 : (k : Int) < 64 := by omega
    have HT : Hid (t = k + 16) := aside hT
    have t64 : t < 64 := t1
    clear h15 h2 h7 hT ht HS2 t1 t2
    go_wp2_with fail
    refine (turn_at 7 s15 (by rfl) (by omega) _).mono ?_
    rintro e w3 ⟨rfl, q3, rfl⟩
    go_wp2_with fail
    refine (turn_at 18 s15 (by rfl) (by omega) _).mono ?_
    rintro e w4 ⟨rfl, q4, rfl⟩
    have z0 := sig0_i64 s15
    go_wp2_with fail
    refine (turn_at 17 s2 (by rfl) (by omega) _).mono ?_
    rintro e w5 ⟨rfl, q5, rfl⟩
    go_wp2_with fail
    refine (turn_at 19 s2 (by rfl) (by omega) _).mono ?_
    rintro e w6 ⟨rfl, q6, rfl⟩
    have z1 := sig1_i64 s2
    go_wp2_with fail
    clear z0 z1
    have d0 := sig0_lt s15
    have d1 := sig1_lt s2
    generalize sig0 x15 = S0 at d0 HF ⊢
    generalize sig1 x2 = S1 at d1 HF ⊢
    obtain ⟨p1, hp1⟩ : ∃ p, p = S1 + x7 := ⟨_, rfl⟩
    obtain ⟨p2, hp2⟩ : ∃ p, p = p1 + S0 := ⟨_, rfl⟩
    obtain ⟨p3, hp3⟩ : ∃ p, p = p2 + x16 := ⟨_, rfl⟩
    obtain ⟨p4, hp4⟩ : ∃ p, p = p3 % 4294967296 := ⟨_, rfl⟩
    have y1 := add_i64 hp1 (by omega)
    have y2 := add_i64 hp2 (by omega)
    have y3 := add_i64 hp3 (by omega)
    have y4 := mask_i64 hp4 (by omega)
    rw [← hp1, ← hp2, ← hp3, ← hp4] at HF
    have Cc7 : (wr.drewN (q3 + q4 + q5 + q6)).cell? ⟨B, a7, none⟩ = some (.int .i64 (x7 : Int)) := c7
    have Cc16 : (wr.drewN (q3 + q4 + q5 + q6)).cell? ⟨B, k, none⟩ = some (.int .i64 (x16 : Int)) := c16
    have Cct : (wr.drewN (q3 + q4 + q5 + q6)).cell? ⟨B, t, none⟩ = some (.int .i64 (xt : Int)) := ct
    have Cft : (wr.drewN (q3 + q4 + q5 + q6)).frozen? ⟨B, t, none⟩ = false := ft
    have AR : Hid (RowI (wr.drewN (q3 + q4 + q5 + q6)) B 3 (wordsN bs t)) := aside R2.out
    have AB : Hid (Below B w (wr.drewN (q3 + q4 + q5 + q6))) := aside (below_drawn B0.out _)
    have AZ : Hid ((wr.drewN (q3 + q4 + q5 + q6)).heap.size = B + 1) := aside Z0.out
    clear hp1 hp2 hp3 hp4 c7 c16 ct ft c15 c2 R2 B0 Z0 d0 d1 s15 s2 s7 s16
    generalize wr.drewN (q3 + q4 + q5 + q6) = wq at Cc7 Cc16 Cct Cft AR AB AZ ⊢
    go_still_tail 19, (by kernel_rfl)
    change wpList _ _ _ _ _ wq.drew
    have D0 : wq.drew.cell? ⟨B, t, none⟩ = some (.int .i64 (xt : Int)) := Cct
    have D1 : wq.drew.frozen? ⟨B, t, none⟩ = false := Cft
    have BR : Hid (RowI wq.drew B 3 (wordsN bs t)) := aside AR.out
    have BB : Hid (Below B w wq.drew) := aside (below_drawn AB.out 1)
    have BZ : Hid (wq.drew.heap.size = B + 1) := aside AZ.out
    clear Cc7 Cc16 Cct Cft AR AB AZ y1 y2 y3 y4
    generalize wq.drew = wx at D0 D1 BR BB BZ ⊢
    go_wp2
    exact ⟨⟨t + 1, by omega, by go_num, aside (by rw [HF.out]; exact BR.out.set _ _), aside (BB.out.setCell (Nat.le_refl _) _), aside (by have := BZ.out; simpa using this)⟩, by simp [Go.RowKit.intOf]; omega⟩
  ·obtain rfl : t = 64 := by omega
   have t1' : ((64 : Int) < 64) = False := by decide
   clear t1 ht
   have R2' := R2
   rw [show wordsN bs 64 = moreW bs 48 from rfl] at R2'
   have HZ1 : ∀ u ∈ s.map IV, u.oneCell' = true := by
    intro u hu
    obtain ⟨x, -, rfl⟩ := List.mem_map.1 hu
    rfl
   have HZ := aside HZ1
   have h8 := aside Z0.out
   clear R2 HZ1
   go_upto_region 13 with (first
    | (at_builtin; refine wpList_concat rfl (.tmp 87) (.tmp 88) 50 rfl wr.heap.size (.int .i64 0) 1 8 Tryz.underlying50 intInfo rfl (by decide) _ 0 [] rfl ⟨rfl, .inr ⟨wr.heap.size, 0, #[], rfl, Nat.le_refl _, heap_alloc_new _ _, Nat.le_refl _, Nat.zero_le _, rfl, rfl⟩⟩ B _ 8 hc _ rfl (Sl.alloc (Sl.below HH.out B0.out) (by have := Z0.out; omega) _) HZ.out (by omega) (by unfold maxLen; omega) (by simp) ?_; intro G2 c2 w2 hc2 hc2' hown hb2 hg2)
    | fail)
   have hown' := hown
   simp only [Nat.zero_add, List.nil_append] at hown'
   obtain ⟨b, rfl, hb, hRb⟩ := RowI.own hown' (by decide)
   have Rb := aside hRb
   have hz8 := h8.out
   have hB3 : Hid (Below B w w2) := aside ((B0.out.alloc (by omega) _).trans (hb2.mono (by omega)))
   have hBb : B + 1 ≤ b := by omega
   have R3 : Hid (RowI w2 B 3 (moreW bs 48)) := aside (RowI.below (RowI.below R2'.out ((Below.refl _ _).alloc (Nat.le_refl _) _) (by omega)) hb2 (by omega))
   clear hown hown' hRb hb hb2 hg2 h8 hz8 HZ R2' B0 Z0 t1'
   go_wp2_with fail
   go_loopw [14] (fun v14 wr => ∃ (k : Nat), k ≤ 64 ∧ v14 = .int .i64 k ∧ Hid (RowI wr b 3 (roundsN s bs k)) ∧ Hid (RowI wr B 3 (moreW bs 48)) ∧ Hid (Below B w wr)) (fun v14 _ => 64 - (Go.RowKit.intOf v14).toNat)
   case atStart => exact ⟨0, by omega, rfl, Rb, R3, hB3⟩
   case round =>
    clear Rb R3 hB3
    obtain ⟨k, hk, rfl, Rb, R3, HB⟩ := hrel
    by_cases k1 : k < 64
    ·have k1' : (k : Int) < 64 := by omega
     have hv8 := roundsN_len bs HS.out k
     have hvs := roundsN_small bs HSm.out k
     have HF : Hid (roundsN s bs (k + 1) = roundStep (roundK.getD k 0) ((moreW bs 48).getD k 0) (roundsN s bs k)) := aside rfl
     have cw := R3.out.at_ (j := k) (by rw [moreW_len]; omega)
     have sw := moreW_small HBy.out 48 k
     have ck := (VSl.at1 (Sl.below HK.out HB.out) k1).1
     have sk := getD_lt roundK_small (by decide) k
     generalize (moreW bs 48).getD k 0 = ww at cw sw HF
     generalize roundK.getD k 0 = kk at ck sk HF
     generalize roundsN s bs k = v at hv8 hvs HF Rb
     obtain ⟨a, b1, c1, d, e, f, g, x, rfl⟩ := eight hv8
     have c0 : wr.cell? ⟨b, 0, none⟩ = some (.int .i64 (a : Int)) := Rb.out.at_ (j := 0) (by simp)
     have c4 : wr.cell? ⟨b, 4, none⟩ = some (.int .i64 (e : Int)) := Rb.out.at_ (j := 4) (by simp)
     have c5 : wr.cell? ⟨b, 5, none⟩ = some (.int .i64 (f : Int)) := Rb.out.at_ (j := 5) (by simp)
     have c6 : wr.cell? ⟨b, 6, none⟩ = some (.int .i64 (g : Int)) := Rb.out.at_ (j := 6) (by simp)
     have c7 : wr.cell? ⟨b, 7, none⟩ = some (.int .i64 (x : Int)) := Rb.out.at_ (j := 7) (by simp)
     have sa : a < 4294967296 := hvs 0
     have sb : b1 < 4294967296 := hvs 1
     have sc : c1 < 4294967296 := hvs 2
     have sd : d < 4294967296 := hvs 3
     have se : e < 4294967296 := hvs 4
     have sf : f < 4294967296 := hvs 5
     have sg : g < 4294967296 := hvs 6
     have sx : x < 4294967296 := hvs 7
     have kk1 : k + 1 ≤ 64 := by omega
     clear hv8 hvs
     have lr3 := rot3_lt (a := 6) (b := 11) (c := 25) se
     have lch := chW_lt (f := f) (g := g) se
     have y0 := neg_i64 se
     have y1 := ch_i64 se sf sg
     have y9 := rot3_i64 (a := 6) (b := 11) (c := 25) se
     obtain ⟨r3, hr3⟩ : ∃ r, r = rot3 e 6 11 25 := ⟨_, rfl⟩
     obtain ⟨ch, hch⟩ : ∃ r, r = chW e f g := ⟨_, rfl⟩
     rw [← hr3] at lr3 y9
     rw [← hch] at lch y1
     have HR3 := aside hr3
     have HCH := aside hch
     clear hr3 hch
     obtain ⟨p1, hp1⟩ : ∃ p, p = x + r3 := ⟨_, rfl⟩
     obtain ⟨p2, hp2⟩ : ∃ p, p = p1 + ch := ⟨_, rfl⟩
     obtain ⟨p3, hp3⟩ : ∃ p, p = p2 + kk := ⟨_, rfl⟩
     obtain ⟨p, hp⟩ : ∃ p, p = p3 + ww := ⟨_, rfl⟩
     have y2 := add_i64 hp1 (by omega)
     have y3 := add_i64 hp2 (by omega)
     have y4 := add_i64 hp3 (by omega)
     have y5 := add_i64 hp (by omega)
     have HP : Hid (p = x + rot3 e 6 11 25 + chW e f g + kk + ww) := aside (by rw [hp, hp3, hp2, hp1, HR3.out, HCH.out])
     have lp : p < 21474836480 := by omega
     clear hp1 hp2 hp3 hp lr3 lch
     go_wp2_with fail
     go_quiet (first | (go_at_call 94; exact Calls.quiet_of (turn_at 6 se (by rfl) (by omega) _)) | (go_at_call 94; exact Calls.quiet_of (turn_at 11 se (by rfl) (by omega) _)) | (go_at_call 94; exact Calls.quiet_of (turn_at 25 se (by rfl) (by omega) _)) | fail)
     clear y0 y1 y2 y3 y4 y5 y9
     have D0 : (wr.drewN nq).cell? ⟨b, 0, none⟩ = some (.int .i64 (a : Int)) := c0
     have D1 : (wr.drewN nq).cell? ⟨b, 1, none⟩ = some (.int .i64 (b1 : Int)) := Rb.out.at_ (j := 1) (by simp)
     have D2 : (wr.drewN nq).cell? ⟨b, 2, none⟩ = some (.int .i64 (c1 : Int)) := Rb.out.at_ (j := 2) (by simp)
     have DR : Hid (RowI (wr.drewN nq) b 3 [a, b1, c1, d, e, f, g, x]) := aside Rb.out
     have DM : Hid (RowI (wr.drewN nq) B 3 (moreW bs 48)) := aside R3.out
     have DB : Hid (Below B w (wr.drewN nq)) := aside (below_drawn HB.out _)
     clear c0 c4 c5 c6 c7 cw ck Rb R3 HB
     generalize wr.drewN nq = wa at D0 D1 D2 DR DM DB ⊢
     clear nq
     have lr3 := rot3_lt (a := 2) (b := 13) (c := 22) sa
     have lmj := majW_lt (c := c1) sa sb
     have y1 := maj_i64 sa sb sc
     have y9 := rot3_i64 (a := 2) (b := 13) (c := 22) sa
     obtain ⟨r3, hr3⟩ : ∃ r, r = rot3 a 2 13 22 := ⟨_, rfl⟩
     obtain ⟨mj, hmj⟩ : ∃ r, r = majW a b1 c1 := ⟨_, rfl⟩
     rw [← hr3] at lr3 y9
     rw [← hmj] at lmj y1
     have HR3 := aside hr3
     have HMJ := aside hmj
     clear hr3 hmj
     obtain ⟨q, hq⟩ : ∃ p, p = r3 + mj := ⟨_, rfl⟩
     have y2 := add_i64 hq (by omega)
     have HQ : Hid (q = rot3 a 2 13 22 + majW a b1 c1) := aside (by rw [hq, HR3.out, HMJ.out])
     have lq : q < 8589934592 := by omega
     clear hq lr3 lmj
     go_wp2_with fail
     go_quiet (first | (go_at_call 94; exact Calls.quiet_of (turn_at 2 sa (by rfl) (by omega) _)) | (go_at_call 94; exact Calls.quiet_of (turn_at 13 sa (by rfl) (by omega) _)) | (go_at_call 94; exact Calls.quiet_of (turn_at 22 sa (by rfl) (by omega) _)) | fail)
     clear y1 y2 y9 D0 D1 D2
     have FR : Hid (RowI (wa.drewN nq) b 3 (shiftN [a, b1, c1, d, e, f, g, x] 0)) := aside DR.out
     have FM : Hid (RowI (wa.drewN nq) B 3 (moreW bs 48)) := aside DM.out
     have FB : Hid (Below B w (wa.drewN nq)) := aside (below_drawn DB.out _)
     clear DR DM DB
     generalize wa.drewN nq = wc at FR FM FB ⊢
     clear nq
     go_wp2_with fail
     go_loopw [19] (fun v19 wr => ∃ (i : Nat), i ≤ 7 ∧ v19 = .int .i64 (7 - i) ∧ Hid (RowI wr b 3 (shiftN [a, b1, c1, d, e, f, g, x] i)) ∧ Hid (RowI wr B 3 (moreW bs 48)) ∧ Hid (Below B w wr)) (fun v19 _ => (Go.RowKit.intOf v19).toNat)
     case atStart => exact ⟨0, by omega, rfl, FR, FM, FB⟩
     case round =>
      clear FR FM FB
      obtain ⟨i, hi, rfl, FR, FM, FB⟩ := hrel
      by_cases i7 : i < 7
      ·obtain ⟨j, hj⟩ : ∃ j, j = 7 - i := ⟨_, rfl⟩
       obtain ⟨j1, hj1⟩ : ∃ j1, j1 = 6 - i := ⟨_, rfl⟩
       have ej : (7 : Int) - i = (j : Int) := by omega
       have HF2 : Hid (shiftN [a, b1, c1, d, e, f, g, x] (i + 1) = (shiftN [a, b1, c1, d, e, f, g, x] i).set j ((shiftN [a, b1, c1, d, e, f, g, x] i).getD j1 0)) := aside (by rw [hj, hj1]; rfl)
       have u0 := FR.out.at_ (j := j) (by rw [shiftN_len]; simp; omega)
       have u1 := FR.out.at_ (j := j1) (by rw [shiftN_len]; simp; omega)
       have u2 := FR.out.fr j
       have e1 : IntKind.i64.wrap ((j : Int) - 1) = (j1 : Int) := by rw [IntKind.wrap_i64]; omega
       have j8 : j < 8 := by omega
       have j18 : j1 < 8 := by omega
       have j0 : (0 : Int) < (j : Int) := by omega
       have HJ : Hid ((7 : Int) - (i + 1 : Nat) = (j1 : Int)) := aside (by omega)
       have i8 : i + 1 ≤ 7 := by omega
       have HM : Hid (j1 < j) := aside (by omega)
       rw [ej]
       clear hj hj1 ej hi i7
       go_wp2_with fail
       exact ⟨⟨i + 1, i8, by rw [HJ.out], aside (by rw [HF2.out]; exact FR.out.set _ _), aside (FM.out.other _ _ _ (by omega)), aside (FB.out.setCell (by show B ≤ b; omega) _)⟩, by have := HM.out; simp [Go.RowKit.intOf]; omega⟩
      ·obtain rfl : i = 7 := by omega
       have e1 : (7 : Int) - (7 : Nat) = 0 := by decide
       rw [e1]
       have FS : Hid (RowI wr b 3 [a, a, b1, c1, d, e, f, g]) := aside FR.out
       have u4 : wr.cell? ⟨b, 4, none⟩ = some (.int .i64 (d : Int)) := FS.out.at_ (j := 4) (by simp)
       have u0 : wr.cell? ⟨b, 0, none⟩ = some (.int .i64 (a : Int)) := FS.out.at_ (j := 0) (by simp)
       have f4 := FS.out.fr 4
       have f0 := FS.out.fr 0
       obtain ⟨z4', hz4'⟩ : ∃ z, z = d + p := ⟨_, rfl⟩
       obtain ⟨z0', hz0'⟩ : ∃ z, z = p + q := ⟨_, rfl⟩
       obtain ⟨z4, hz4⟩ : ∃ z, z = z4' % 4294967296 := ⟨_, rfl⟩
       obtain ⟨z0, hz0⟩ : ∃ z, z = z0' % 4294967296 := ⟨_, rfl⟩
       have y1 := add_i64 hz4' (by omega)
       have y2 := add_i64 hz0' (by omega)
       have y3 := mask_i64 hz4 (by omega)
       have y4 := mask_i64 hz0 (by omega)
       have HV : Hid (roundsN s bs (k + 1) = [z0, a, b1, c1, z4, e, f, g]) := aside (by
        have e0 : z0 = ((x + rot3 e 6 11 25 + chW e f g + kk + ww) % 4294967296 + (rot3 a 2 13 22 + majW a b1 c1) % 4294967296) % 4294967296 := by rw [hz0, hz0', HP.out, HQ.out, Nat.add_mod]
        have e4 : z4 = (d + (x + rot3 e 6 11 25 + chW e f g + kk + ww) % 4294967296) % 4294967296 := by rw [hz4, hz4', HP.out, Nat.add_mod_mod]
        rw [HF.out, e0, e4]
        rfl)
       clear hz4' hz0' hz4 hz0 e1 hi i7 FR
       go_wp2_with fail
       exact ⟨⟨k + 1, kk1, by go_num, aside (by rw [HV.out]; exact (FS.out.set 4 z4).set 0 z0), aside ((FM.out.other _ _ _ (by omega)).other _ _ _ (by omega)), aside ((FB.out.setCell (show B ≤ b by omega) _).setCell (show B ≤ b by omega) _)⟩, by simp [Go.RowKit.intOf]; omega⟩
    ·obtain rfl : k = 64 := by omega
     have k1' : ((64 : Int) < 64) = False := by decide
     clear k1 hk
     go_wp2_with fail
     go_loopw [20] (fun v20 wr => ∃ (i : Nat), i ≤ 8 ∧ v20 = .int .i64 i ∧ Hid (RowI wr b 3 (sumN s (roundsN s bs 64) i)) ∧ Hid (Below B w wr)) (fun v20 _ => 8 - (Go.RowKit.intOf v20).toNat)
     case atStart => exact ⟨0, by omega, rfl, Rb, HB⟩
     case round =>
      clear Rb R3 HB
      obtain ⟨i, hi, rfl, Rb, HB⟩ := hrel
      have hl8 : (sumN s (roundsN s bs 64) i).length = 8 := by rw [sumN_len, roundsN_len bs HS.out]
      by_cases i8 : i < 8
      ·have i8' : (i : Int) < 8 := by omega
       have HF : Hid (sumN s (roundsN s bs 64) (i + 1) = (sumN s (roundsN s bs 64) i).set i (((sumN s (roundsN s bs 64) i).getD i 0 + s.getD i 0) % 4294967296)) := aside rfl
       have cs := (VSl.at1 (Sl.below HH.out HB.out) i8).1
       have cv := Rb.out.at_ (j := i) (by omega)
       have fv := Rb.out.fr i
       have sy := HSm.out i
       have sx := sumN_small (s := s) (roundsN_small bs HSm.out 64) i i
       generalize s.getD i 0 = y at cs sy HF
       generalize (sumN s (roundsN s bs 64) i).getD i 0 = x at cv sx HF
       obtain ⟨z1, hz1⟩ : ∃ z, z = x + y := ⟨_, rfl⟩
       obtain ⟨z, hz⟩ : ∃ z, z = z1 % 4294967296 := ⟨_, rfl⟩
       have y1 := add_i64 hz1 (by omega)
       have y2 := mask_i64 hz (by omega)
       rw [← hz1, ← hz] at HF
       clear hz1 hz hl8
       go_wp2_with fail
       go_still_tail 13, (by kernel_rfl)
       change wpList _ _ _ _ _ wr.drew
       have D0 : wr.drew.cell? ⟨b, i, none⟩ = some (.int .i64 (x : Int)) := cv
       have D1 : wr.drew.frozen? ⟨b, i, none⟩ = false := fv
       have A0 : Hid (RowI wr.drew b 3 (sumN s (roundsN s bs 64) i)) := aside Rb.out
       have AB : Hid (Below B w wr.drew) := aside (below_drawn HB.out 1)
       clear cs cv fv Rb HB y1 y2
       generalize wr.drew = wd at D0 D1 A0 AB ⊢
       go_wp2
       refine ⟨?_, ?measure⟩
       ·refine ⟨_, _, _, _, _, _, _, _, _, _, _, _, _, _, _, _, _, _, ?_, rfl⟩
        exact ⟨i + 1, by omega, by go_num, aside (by rw [HF.out]; exact A0.out.set _ _), aside (AB.out.setCell (show B ≤ b by omega) _)⟩
       case measure => simp [Go.RowKit.intOf]; omega
      ·obtain rfl : i = 8 := by omega
       have i8' : ((8 : Int) < 8) = False := by decide
       clear i8 hi
       go_wp2_with fail
       go_ret
       refine ⟨b, c2, rfl, ?_, Rb.out, ?_⟩
       ·rw [← EB.out]; omega
       ·rw [← EB.out]; exact HB.out
end Go.Proofs.YtbpabjhcjffkmaaGreatDoor
