/- lane.Pay, at every channel. No condition. -/
import Derived.Test.YtpkclbemgmaahaaDoorLanePw
namespace Go.Proofs.YtpkclbemgmaahaaDoor
open Go.RowKit Go.ChangeShapes Go.WideShapes Go.ChangeAt

set_option maxHeartbeats 8000000 in
set_option maxRecDepth 100000 in
theorem pay_ok0 (ps : List (Int × Int)) (A : Option Addr) (n c : Nat) (m : Int) (w : World) (hp : PSl w w.heap.size A n ps)
    (hq : checkQ n ps 0 0 0 false = 0) (hm : MoneyIn m) (hl : m ≤ (lastP n ps).1) (hn : n < 50) :
    Calls Tryd.prog 12 #[chV A n c 0 0 0 false, .int .i64 0, .int .i64 m] w (fun e w' => Below w.heap.size w w' ∧ ∃ A' c', e = .returned (.tuple #[chV A' (n + 1) c' 0 0 0 false, .nilIface]) ∧ PSl w' w'.heap.size A' (n + 1) (payD n ps 0 m) ∧ Far w.heap.size A') := by
  have hlen := hp.len
  obtain ⟨ht, -⟩ := checkQ_ok hq
  obtain ⟨h1, h2, hall⟩ := turnsQ_ok ht
  have hmem := hall _ (lastP_mem hlen h1)
  obtain ⟨b, off, rfl, hlt, c0, c1⟩ := hp.at_ (k := n - 1) (by omega)
  have HD : payD n ps 0 m = ps ++ [((lastP n ps).1 - m, (lastP n ps).2 + m)] := rfl
  rw [HD]
  change w.cell? _ = some (.int .i64 (lastP n ps).1) at c0
  change w.cell? _ = some (.int .i64 (lastP n ps).2) at c1
  generalize lastP n ps = p at hmem c0 c1 hl ⊢
  obtain ⟨x, y⟩ := p
  simp only [] at hmem c0 c1 hl ⊢
  obtain ⟨⟨x0, x1⟩, ⟨y0, y1⟩, -⟩ := hmem
  clear HD hall ht
  obtain ⟨k, rfl⟩ : ∃ k, n = k + 1 := ⟨n - 1, by omega⟩
  simp only [Nat.add_sub_cancel] at c0 c1
  obtain ⟨m0, m1⟩ := hm
  have HQ := aside hq
  clear hq
  have ws : IntKind.i64.wrap ((k + 1 : Nat) - 1 : Int) = (k : Int) := by rw [IntKind.wrap_i64]; omega
  have ws' : wrap64 ((k + 1 : Nat) - 1 : Int) = (k : Int) := by unfold wrap64; omega
  have wx : wrap64 (x - m) = x - m := by unfold wrap64; omega
  have wy : wrap64 (y + m) = y + m := by unfold wrap64; omega
  have HP := aside hp
  simp only [chV]
  go_enter Tryd.func12, Tryd.ntmps12
  go_wp2_with fail
  refine (check_any ps _ _ c 0 0 0 false _ (((hp.alloc (Nat.le_refl _) _).more (B' := (w.alloc _).heap.size) (by simp)).alloc (Nat.le_refl _) _ |>.more (by simp))).mono ?_
  rintro e w1 ⟨rfl, hb⟩
  rw [HQ.out, errV_0]
  have hB : Below w.heap.size w w1 := (((Below.refl _ _).alloc (Nat.le_refl _) _).alloc (by simp) _).trans (hb.mono (by simp; omega))
  have hz := hb.size
  have d0 := hb.cell (p := ⟨w.heap.size, 0, none⟩) (by simp; omega)
  have d1 := hb.cell (p := ⟨w.heap.size, 1, none⟩) (by simp; omega)
  have d2 := hb.cell (p := ⟨w.heap.size, 2, none⟩) (by simp; omega)
  have d3 := hb.cell (p := ⟨w.heap.size, 3, none⟩) (by simp; omega)
  have d4 := hb.cell (p := ⟨w.heap.size, 4, none⟩) (by simp; omega)
  have r0 := hb.cell (p := ⟨w.heap.size + 1, 0, none⟩) (by simp)
  have r1 := hb.cell (p := ⟨w.heap.size + 1, 1, none⟩) (by simp)
  have r2 := hb.cell (p := ⟨w.heap.size + 1, 2, none⟩) (by simp)
  have r3 := hb.cell (p := ⟨w.heap.size + 1, 3, none⟩) (by simp)
  have r4 := hb.cell (p := ⟨w.heap.size + 1, 4, none⟩) (by simp)
  have f0 := fun o => hb.frozen (p := ⟨w.heap.size, o, none⟩) (by simp; omega)
  have f1 := fun o => hb.frozen (p := ⟨w.heap.size + 1, o, none⟩) (by simp)
  simp [go_sem, World.cell?_alloc_past, World.frozen?_alloc_past] at d0 d1 d2 d3 d4 r0 r1 r2 r3 r4 f0 f1 hz
  have e0 := (hB.cell (p := ⟨b, off + k * 2, none⟩) hlt).trans c0
  have e1 := (hB.cell (p := ⟨b, off + k * 2 + 1, none⟩) hlt).trans c1
  have HB := aside hB
  clear hb hB c0 c1 hp
  have k0 : w.heap.size < w1.heap.size := by omega
  have k1 : w.heap.size + 1 < w1.heap.size := by omega
  have k2 : b < w1.heap.size := by omega
  go_wp2_with (first | (go_at_call 25; refine (mcheck_ok m ⟨m0, m1⟩ _).mono ?_; rintro e w' ⟨rfl, rfl⟩) | fail)
  obtain ⟨W, hW⟩ : ∃ W, W = w'.alloc (.cells #[.int .i64 (x - m), .int .i64 (y + m)] 30) := ⟨_, rfl⟩
  have BW : Below w'.heap.size w' W := by rw [hW]; exact (Below.refl _ _).alloc (Nat.le_refl _) _
  have s0 : W.cell? ⟨w'.heap.size, 0, none⟩ = some (.int .i64 (x - m)) := by rw [hW]; exact World.cell?_alloc_at _ _ _ _ rfl
  have s1 : W.cell? ⟨w'.heap.size, 1, none⟩ = some (.int .i64 (y + m)) := by rw [hW]; exact World.cell?_alloc_at _ _ _ _ rfl
  have hW2 : w'.heap.size < W.heap.size := by rw [hW]; simp
  rw [← hW]
  clear hW
  have q0 := (BW.cell (p := ⟨w.heap.size, 0, none⟩) k0).trans d0
  have q1 := (BW.cell (p := ⟨w.heap.size, 1, none⟩) k0).trans d1
  have q2 := (BW.cell (p := ⟨w.heap.size, 2, none⟩) k0).trans d2
  have q3 := (BW.cell (p := ⟨w.heap.size, 3, none⟩) k0).trans d3
  have q4 := (BW.cell (p := ⟨w.heap.size, 4, none⟩) k0).trans d4
  have p0 := (BW.cell (p := ⟨w.heap.size + 1, 0, none⟩) k1).trans r0
  have p1 := (BW.cell (p := ⟨w.heap.size + 1, 1, none⟩) k1).trans r1
  have p2 := (BW.cell (p := ⟨w.heap.size + 1, 2, none⟩) k1).trans r2
  have p3 := (BW.cell (p := ⟨w.heap.size + 1, 3, none⟩) k1).trans r3
  have p4 := (BW.cell (p := ⟨w.heap.size + 1, 4, none⟩) k1).trans r4
  have g0 := fun o => (BW.frozen (p := ⟨w.heap.size, o, none⟩) k0).trans (f0 o)
  have g1 := fun o => (BW.frozen (p := ⟨w.heap.size + 1, o, none⟩) k1).trans (f1 o)
  have HBW := HB.out.trans (BW.mono (by omega))
  have HPW := aside (Sl.more (Sl.below HP.out HBW) (show w.heap.size ≤ W.heap.size by omega))
  have HBW := aside HBW
  clear d0 d1 d2 d3 d4 r0 r1 r2 r3 r4 f0 f1 HB BW
  have l0 : w.heap.size < W.heap.size := by omega
  have l1 : w.heap.size + 1 < W.heap.size := by omega
  have HPd0 : PSl W.drew W.drew.heap.size (some ⟨b, off, none⟩) (k + 1) ps := ⟨HPW.out.len, HPW.out.cells⟩
  have HPa0 : ∀ c, PSl (W.alloc c).drew (W.alloc c).drew.heap.size (some ⟨b, off, none⟩) (k + 1) ps := fun c => Sl.drew (Sl.more (Sl.alloc HPW.out (Nat.le_refl _) c) (by simp))
  have HPd := aside HPd0
  have HPa := aside HPa0
  clear HPd0 HPa0 e0 e1 h1 h2 ws ws' wx wy
  go_region_law
    (first
      | (go_simp; go_at_call 26; refine (clone_any ps _ _ _ _ (by first | exact HPd.out | exact HPa.out _) (by omega) (by omega)).mono ?_; rintro e w2 ⟨A2, c2, rfl, hown2, hb2⟩; (first | (with_reducible (have hbw := below_drew_alloc2 hb2; have nk := new_cells2 hb2; obtain ⟨n0, n1⟩ := nk)) | (have hbw := below_drew2 hb2)); have kk := keptB hbw hW2 ⟨s0, s1⟩; obtain ⟨⟨h20, h21⟩, z1⟩ := kk; have u2 := (hbw.cell (p := ⟨w.heap.size, 0, none⟩) l0).trans q0; have z0 : w.heap.size < w2.heap.size := Nat.lt_of_lt_of_le l0 hbw.size; have own2 := aside (own_low hown2 (b' := W.heap.size) (by first | exact drew_le _ | exact drew_alloc_le _ _)); clear hown2; go_wp2_with fail)
      | (refine step_push (by rfl) _ _ (by rfl) (base := W.heap.size) (n := k + 1) (n' := k + 1 + 1) (ps := ps) (p := x - m) (q := y + m) (by rfl) (by rfl) (by first | exact own2.out | exact World.ownsRow.alloc own2.out _) (by first | exact n0 | exact World.cell?_alloc_at _ _ _ _ rfl) (by first | exact n1 | exact World.cell?_alloc_at _ _ _ _ rfl) (by omega) (by have := hbw.size; first | omega | (simp; omega)) rfl ?_; intro A3 c3 w3 hp3 hf3 hb3 hz3; have hb3w : Below W.heap.size W w3 := by { first | exact hbw.trans hb3 | exact (hbw.alloc hbw.size _).trans hb3 };  have u3 := (hb3w.cell (p := ⟨w.heap.size, 0, none⟩) l0).trans q0; have y0 : w.heap.size < w3.heap.size := Nat.lt_of_lt_of_le l0 hb3w.size; have g3 := fun o => (hb3w.frozen (p := ⟨w.heap.size, o, none⟩) l0).trans (g0 o); skip))
  all_goals have t1 := (hb3w.cell (p := ⟨w.heap.size, 1, none⟩) l0).trans q1
  all_goals have t2 := (hb3w.cell (p := ⟨w.heap.size, 2, none⟩) l0).trans q2
  all_goals have t3 := (hb3w.cell (p := ⟨w.heap.size, 3, none⟩) l0).trans q3
  all_goals have t4 := (hb3w.cell (p := ⟨w.heap.size, 4, none⟩) l0).trans q4
  all_goals have v0 := (hb3w.cell (p := ⟨w.heap.size + 1, 0, none⟩) l1).trans p0
  all_goals have v1 := (hb3w.cell (p := ⟨w.heap.size + 1, 1, none⟩) l1).trans p1
  all_goals have v2 := (hb3w.cell (p := ⟨w.heap.size + 1, 2, none⟩) l1).trans p2
  all_goals have v3 := (hb3w.cell (p := ⟨w.heap.size + 1, 3, none⟩) l1).trans p3
  all_goals have v4 := (hb3w.cell (p := ⟨w.heap.size + 1, 4, none⟩) l1).trans p4
  all_goals have gg := fun o => (hb3w.frozen (p := ⟨w.heap.size + 1, o, none⟩) l1).trans (g1 o)
  all_goals have y2 : w.heap.size + 1 < w3.heap.size := Nat.lt_of_lt_of_le l1 hb3w.size
  all_goals have HB3 := aside (HBW.out.trans (hb3w.mono (Nat.le_of_lt l0)))
  all_goals clear q0 q1 q2 q3 q4 p0 p1 p2 p3 p4 g0 g1 s0 s1 HPd HPa hb3w hb3 own2 hbw hb2 h20 h21 u2
  all_goals go_wp2
  all_goals refine bodyPost_ret (v := .tuple #[chV A3 (k + 1 + 1) c3 0 0 0 false, .nilIface]) (by simp only [results, Tryd.results12, chV]; go_simp) rfl ?_
  all_goals exact pay_done HB3.out hp3 (hf3.mono (by omega))

set_option maxHeartbeats 8000000 in
set_option maxRecDepth 100000 in
theorem pay_ok1 (ps : List (Int × Int)) (A : Option Addr) (n c : Nat) (m : Int) (w : World) (hp : PSl w w.heap.size A n ps)
    (hq : checkQ n ps 0 0 0 false = 0) (hm : MoneyIn m) (hl : m ≤ (lastP n ps).2) (hn : n < 50) :
    Calls Tryd.prog 12 #[chV A n c 0 0 0 false, .int .i64 1, .int .i64 m] w (fun e w' => Below w.heap.size w w' ∧ ∃ A' c', e = .returned (.tuple #[chV A' (n + 1) c' 0 0 0 false, .nilIface]) ∧ PSl w' w'.heap.size A' (n + 1) (payD n ps 1 m) ∧ Far w.heap.size A') := by
  have hlen := hp.len
  obtain ⟨ht, -⟩ := checkQ_ok hq
  obtain ⟨h1, h2, hall⟩ := turnsQ_ok ht
  have hmem := hall _ (lastP_mem hlen h1)
  obtain ⟨b, off, rfl, hlt, c0, c1⟩ := hp.at_ (k := n - 1) (by omega)
  have HD : payD n ps 1 m = ps ++ [((lastP n ps).1 + m, (lastP n ps).2 - m)] := rfl
  rw [HD]
  change w.cell? _ = some (.int .i64 (lastP n ps).1) at c0
  change w.cell? _ = some (.int .i64 (lastP n ps).2) at c1
  generalize lastP n ps = p at hmem c0 c1 hl ⊢
  obtain ⟨x, y⟩ := p
  simp only [] at hmem c0 c1 hl ⊢
  obtain ⟨⟨x0, x1⟩, ⟨y0, y1⟩, -⟩ := hmem
  clear HD hall ht
  obtain ⟨k, rfl⟩ : ∃ k, n = k + 1 := ⟨n - 1, by omega⟩
  simp only [Nat.add_sub_cancel] at c0 c1
  obtain ⟨m0, m1⟩ := hm
  have HQ := aside hq
  clear hq
  have ws : IntKind.i64.wrap ((k + 1 : Nat) - 1 : Int) = (k : Int) := by rw [IntKind.wrap_i64]; omega
  have ws' : wrap64 ((k + 1 : Nat) - 1 : Int) = (k : Int) := by unfold wrap64; omega
  have wx : wrap64 (x + m) = x + m := by unfold wrap64; omega
  have wy : wrap64 (y - m) = y - m := by unfold wrap64; omega
  have HP := aside hp
  simp only [chV]
  go_enter Tryd.func12, Tryd.ntmps12
  go_wp2_with fail
  refine (check_any ps _ _ c 0 0 0 false _ (((hp.alloc (Nat.le_refl _) _).more (B' := (w.alloc _).heap.size) (by simp)).alloc (Nat.le_refl _) _ |>.more (by simp))).mono ?_
  rintro e w1 ⟨rfl, hb⟩
  rw [HQ.out, errV_0]
  have hB : Below w.heap.size w w1 := (((Below.refl _ _).alloc (Nat.le_refl _) _).alloc (by simp) _).trans (hb.mono (by simp; omega))
  have hz := hb.size
  have d0 := hb.cell (p := ⟨w.heap.size, 0, none⟩) (by simp; omega)
  have d1 := hb.cell (p := ⟨w.heap.size, 1, none⟩) (by simp; omega)
  have d2 := hb.cell (p := ⟨w.heap.size, 2, none⟩) (by simp; omega)
  have d3 := hb.cell (p := ⟨w.heap.size, 3, none⟩) (by simp; omega)
  have d4 := hb.cell (p := ⟨w.heap.size, 4, none⟩) (by simp; omega)
  have r0 := hb.cell (p := ⟨w.heap.size + 1, 0, none⟩) (by simp)
  have r1 := hb.cell (p := ⟨w.heap.size + 1, 1, none⟩) (by simp)
  have r2 := hb.cell (p := ⟨w.heap.size + 1, 2, none⟩) (by simp)
  have r3 := hb.cell (p := ⟨w.heap.size + 1, 3, none⟩) (by simp)
  have r4 := hb.cell (p := ⟨w.heap.size + 1, 4, none⟩) (by simp)
  have f0 := fun o => hb.frozen (p := ⟨w.heap.size, o, none⟩) (by simp; omega)
  have f1 := fun o => hb.frozen (p := ⟨w.heap.size + 1, o, none⟩) (by simp)
  simp [go_sem, World.cell?_alloc_past, World.frozen?_alloc_past] at d0 d1 d2 d3 d4 r0 r1 r2 r3 r4 f0 f1 hz
  have e0 := (hB.cell (p := ⟨b, off + k * 2, none⟩) hlt).trans c0
  have e1 := (hB.cell (p := ⟨b, off + k * 2 + 1, none⟩) hlt).trans c1
  have HB := aside hB
  clear hb hB c0 c1 hp
  have k0 : w.heap.size < w1.heap.size := by omega
  have k1 : w.heap.size + 1 < w1.heap.size := by omega
  have k2 : b < w1.heap.size := by omega
  go_wp2_with (first | (go_at_call 25; refine (mcheck_ok m ⟨m0, m1⟩ _).mono ?_; rintro e w' ⟨rfl, rfl⟩) | fail)
  obtain ⟨W, hW⟩ : ∃ W, W = w'.alloc (.cells #[.int .i64 (x + m), .int .i64 (y - m)] 30) := ⟨_, rfl⟩
  have BW : Below w'.heap.size w' W := by rw [hW]; exact (Below.refl _ _).alloc (Nat.le_refl _) _
  have s0 : W.cell? ⟨w'.heap.size, 0, none⟩ = some (.int .i64 (x + m)) := by rw [hW]; exact World.cell?_alloc_at _ _ _ _ rfl
  have s1 : W.cell? ⟨w'.heap.size, 1, none⟩ = some (.int .i64 (y - m)) := by rw [hW]; exact World.cell?_alloc_at _ _ _ _ rfl
  have hW2 : w'.heap.size < W.heap.size := by rw [hW]; simp
  rw [← hW]
  clear hW
  have q0 := (BW.cell (p := ⟨w.heap.size, 0, none⟩) k0).trans d0
  have q1 := (BW.cell (p := ⟨w.heap.size, 1, none⟩) k0).trans d1
  have q2 := (BW.cell (p := ⟨w.heap.size, 2, none⟩) k0).trans d2
  have q3 := (BW.cell (p := ⟨w.heap.size, 3, none⟩) k0).trans d3
  have q4 := (BW.cell (p := ⟨w.heap.size, 4, none⟩) k0).trans d4
  have p0 := (BW.cell (p := ⟨w.heap.size + 1, 0, none⟩) k1).trans r0
  have p1 := (BW.cell (p := ⟨w.heap.size + 1, 1, none⟩) k1).trans r1
  have p2 := (BW.cell (p := ⟨w.heap.size + 1, 2, none⟩) k1).trans r2
  have p3 := (BW.cell (p := ⟨w.heap.size + 1, 3, none⟩) k1).trans r3
  have p4 := (BW.cell (p := ⟨w.heap.size + 1, 4, none⟩) k1).trans r4
  have g0 := fun o => (BW.frozen (p := ⟨w.heap.size, o, none⟩) k0).trans (f0 o)
  have g1 := fun o => (BW.frozen (p := ⟨w.heap.size + 1, o, none⟩) k1).trans (f1 o)
  have HBW := HB.out.trans (BW.mono (by omega))
  have HPW := aside (Sl.more (Sl.below HP.out HBW) (show w.heap.size ≤ W.heap.size by omega))
  have HBW := aside HBW
  clear d0 d1 d2 d3 d4 r0 r1 r2 r3 r4 f0 f1 HB BW
  have l0 : w.heap.size < W.heap.size := by omega
  have l1 : w.heap.size + 1 < W.heap.size := by omega
  have HPd0 : PSl W.drew W.drew.heap.size (some ⟨b, off, none⟩) (k + 1) ps := ⟨HPW.out.len, HPW.out.cells⟩
  have HPa0 : ∀ c, PSl (W.alloc c).drew (W.alloc c).drew.heap.size (some ⟨b, off, none⟩) (k + 1) ps := fun c => Sl.drew (Sl.more (Sl.alloc HPW.out (Nat.le_refl _) c) (by simp))
  have HPd := aside HPd0
  have HPa := aside HPa0
  clear HPd0 HPa0 e0 e1 h1 h2 ws ws' wx wy
  go_region_law
    (first
      | (go_simp; go_at_call 26; refine (clone_any ps _ _ _ _ (by first | exact HPd.out | exact HPa.out _) (by omega) (by omega)).mono ?_; rintro e w2 ⟨A2, c2, rfl, hown2, hb2⟩; (first | (with_reducible (have hbw := below_drew_alloc2 hb2; have nk := new_cells2 hb2; obtain ⟨n0, n1⟩ := nk)) | (have hbw := below_drew2 hb2)); have kk := keptB hbw hW2 ⟨s0, s1⟩; obtain ⟨⟨h20, h21⟩, z1⟩ := kk; have u2 := (hbw.cell (p := ⟨w.heap.size, 0, none⟩) l0).trans q0; have z0 : w.heap.size < w2.heap.size := Nat.lt_of_lt_of_le l0 hbw.size; have own2 := aside (own_low hown2 (b' := W.heap.size) (by first | exact drew_le _ | exact drew_alloc_le _ _)); clear hown2; go_wp2_with fail)
      | (refine step_push (by rfl) _ _ (by rfl) (base := W.heap.size) (n := k + 1) (n' := k + 1 + 1) (ps := ps) (p := x + m) (q := y - m) (by rfl) (by rfl) (by first | exact own2.out | exact World.ownsRow.alloc own2.out _) (by first | exact n0 | exact World.cell?_alloc_at _ _ _ _ rfl) (by first | exact n1 | exact World.cell?_alloc_at _ _ _ _ rfl) (by omega) (by have := hbw.size; first | omega | (simp; omega)) rfl ?_; intro A3 c3 w3 hp3 hf3 hb3 hz3; have hb3w : Below W.heap.size W w3 := by { first | exact hbw.trans hb3 | exact (hbw.alloc hbw.size _).trans hb3 };  have u3 := (hb3w.cell (p := ⟨w.heap.size, 0, none⟩) l0).trans q0; have y0 : w.heap.size < w3.heap.size := Nat.lt_of_lt_of_le l0 hb3w.size; have g3 := fun o => (hb3w.frozen (p := ⟨w.heap.size, o, none⟩) l0).trans (g0 o); skip))
  all_goals have t1 := (hb3w.cell (p := ⟨w.heap.size, 1, none⟩) l0).trans q1
  all_goals have t2 := (hb3w.cell (p := ⟨w.heap.size, 2, none⟩) l0).trans q2
  all_goals have t3 := (hb3w.cell (p := ⟨w.heap.size, 3, none⟩) l0).trans q3
  all_goals have t4 := (hb3w.cell (p := ⟨w.heap.size, 4, none⟩) l0).trans q4
  all_goals have v0 := (hb3w.cell (p := ⟨w.heap.size + 1, 0, none⟩) l1).trans p0
  all_goals have v1 := (hb3w.cell (p := ⟨w.heap.size + 1, 1, none⟩) l1).trans p1
  all_goals have v2 := (hb3w.cell (p := ⟨w.heap.size + 1, 2, none⟩) l1).trans p2
  all_goals have v3 := (hb3w.cell (p := ⟨w.heap.size + 1, 3, none⟩) l1).trans p3
  all_goals have v4 := (hb3w.cell (p := ⟨w.heap.size + 1, 4, none⟩) l1).trans p4
  all_goals have gg := fun o => (hb3w.frozen (p := ⟨w.heap.size + 1, o, none⟩) l1).trans (g1 o)
  all_goals have y2 : w.heap.size + 1 < w3.heap.size := Nat.lt_of_lt_of_le l1 hb3w.size
  all_goals have HB3 := aside (HBW.out.trans (hb3w.mono (Nat.le_of_lt l0)))
  all_goals clear q0 q1 q2 q3 q4 p0 p1 p2 p3 p4 g0 g1 s0 s1 HPd HPa hb3w hb3 own2 hbw hb2 h20 h21 u2
  all_goals go_wp2
  all_goals refine bodyPost_ret (v := .tuple #[chV A3 (k + 1 + 1) c3 0 0 0 false, .nilIface]) (by simp only [results, Tryd.results12, chV]; go_simp) rfl ?_
  all_goals exact pay_done HB3.out hp3 (hf3.mono (by omega))

theorem err_done {w w1 : World} {a1 a2 a3 a4 a5 : Value} (hB : Below w.heap.size w w1) : Below w.heap.size w (((((w1.setCell ⟨w.heap.size + 1, 0, none⟩ a1).setCell ⟨w.heap.size + 1, 1, none⟩ a2).setCell ⟨w.heap.size + 1, 2, none⟩ a3).setCell ⟨w.heap.size + 1, 3, none⟩ a4).setCell ⟨w.heap.size + 1, 4, none⟩ a5) := by
  iterate 5 refine Below.setCell ?_ (by exact Nat.le_succ _) _
  exact hB
theorem err_done2 {w w1 : World} {a1 a2 a3 a4 a5 : Value} {c : Obj} (hB : Below w.heap.size w w1) (hz : w.heap.size ≤ w1.heap.size) : Below w.heap.size w ((((((w1.setCell ⟨w.heap.size + 1, 0, none⟩ a1).setCell ⟨w.heap.size + 1, 1, none⟩ a2).setCell ⟨w.heap.size + 1, 2, none⟩ a3).setCell ⟨w.heap.size + 1, 3, none⟩ a4).setCell ⟨w.heap.size + 1, 4, none⟩ a5).alloc c) := by
  refine (err_done hB).alloc (by simp [World.setCell]; exact hz) _

set_option maxHeartbeats 8000000 in
set_option maxRecDepth 100000 in
theorem pay_err (ps : List (Int × Int)) (A : Option Addr) (n c : Nat) (cl tu wh : Int) (ch : Bool) (fr m : Int) (w : World) (hp : PSl w w.heap.size A n ps)
    (hq : payQ n ps cl tu wh ch fr m ≠ 0) :
    Calls Tryd.prog 12 #[chV A n c cl tu wh ch, .int .i64 fr, .int .i64 m] w (fun e w' => Below w.heap.size w w' ∧ e = .returned (.tuple #[chV none 0 0 0 0 0 false, errV (payQ n ps cl tu wh ch fr m)])) := by
  have hlen := hp.len
  have HP := aside hp
  have HQ := aside hq
  clear hq
  simp only [chV]
  go_enter Tryd.func12, Tryd.ntmps12
  go_wp2_with fail
  refine (check_any ps _ _ c cl tu wh ch _ (((hp.alloc (Nat.le_refl _) _).more (B' := (w.alloc _).heap.size) (by simp)).alloc (Nat.le_refl _) _ |>.more (by simp))).mono ?_
  rintro e w1 ⟨rfl, hb⟩
  have hB : Below w.heap.size w w1 := (((Below.refl _ _).alloc (Nat.le_refl _) _).alloc (by simp) _).trans (hb.mono (by simp; omega))
  have hz := hb.size
  have d0 := hb.cell (p := ⟨w.heap.size, 0, none⟩) (by simp; omega)
  have d1 := hb.cell (p := ⟨w.heap.size, 1, none⟩) (by simp; omega)
  have d2 := hb.cell (p := ⟨w.heap.size, 2, none⟩) (by simp; omega)
  have d3 := hb.cell (p := ⟨w.heap.size, 3, none⟩) (by simp; omega)
  have d4 := hb.cell (p := ⟨w.heap.size, 4, none⟩) (by simp; omega)
  have r0 := hb.cell (p := ⟨w.heap.size + 1, 0, none⟩) (by simp)
  have r1 := hb.cell (p := ⟨w.heap.size + 1, 1, none⟩) (by simp)
  have r2 := hb.cell (p := ⟨w.heap.size + 1, 2, none⟩) (by simp)
  have r3 := hb.cell (p := ⟨w.heap.size + 1, 3, none⟩) (by simp)
  have r4 := hb.cell (p := ⟨w.heap.size + 1, 4, none⟩) (by simp)
  have f0 := fun o => hb.frozen (p := ⟨w.heap.size, o, none⟩) (by simp; omega)
  have f1 := fun o => hb.frozen (p := ⟨w.heap.size + 1, o, none⟩) (by simp)
  simp [go_sem, World.cell?_alloc_past, World.frozen?_alloc_past] at d0 d1 d2 d3 d4 r0 r1 r2 r3 r4 f0 f1 hz
  have k0 : w.heap.size < w1.heap.size := by omega
  have k1 : w.heap.size + 1 < w1.heap.size := by omega
  have HB := aside hB
  clear hb hp
  by_cases h0 : checkQ n ps cl tu wh ch = 0
  · obtain ⟨ht, -, -, -, -, -, -, hcl0, -⟩ := checkQ_ok h0
    obtain ⟨h1, h2, hall⟩ := turnsQ_ok ht
    have H0 := aside h0
    rw [h0, errV_0]
    by_cases hfr : fr ≠ 0 ∧ fr ≠ 1
    · have HE : payQ n ps cl tu wh ch fr m = 2 := by unfold payQ; rw [if_neg (by simp [h0]), if_pos hfr]
      have HE := aside HE
      clear hall ht h0 hcl0
      obtain ⟨hf0, hf1⟩ := hfr
      have b0 : (fr != 0) = true := by simpa using hf0
      have b1 : (fr != 1) = true := by simpa using hf1
      go_wp2
      refine bodyPost_ret (v := .tuple #[chV none 0 0 0 0 0 false, .iface 26 (.int .i64 2)]) (by simp only [results, Tryd.results12, chV]; go_simp) rfl ?_
      exact ⟨err_done HB.out, by rw [HE.out, errV_2]; rfl⟩
    · have hfr' : fr = 0 ∨ fr = 1 := by omega
      by_cases hcl : cl = 0
      · obtain ⟨htu, hwh, hch⟩ := hcl0 hcl
        subst hcl htu hwh hch
        by_cases hm : MoneyIn m
        · obtain ⟨b, off, rfl, hlt, c0, c1⟩ := HP.out.at_ (k := n - 1) (by omega)
          change w.cell? _ = some (.int .i64 (lastP n ps).1) at c0
          change w.cell? _ = some (.int .i64 (lastP n ps).2) at c1
          have e0 := (hB.cell (p := ⟨b, off + (n - 1) * 2, none⟩) hlt).trans c0
          have e1 := (hB.cell (p := ⟨b, off + (n - 1) * 2 + 1, none⟩) hlt).trans c1
          have k2 : b < w1.heap.size := by omega
          clear c0 c1 hB
          obtain ⟨k, rfl⟩ : ∃ k, n = k + 1 := ⟨n - 1, by omega⟩
          simp only [Nat.add_sub_cancel] at e0 e1
          have ws : IntKind.i64.wrap ((k + 1 : Nat) - 1 : Int) = (k : Int) := by rw [IntKind.wrap_i64]; omega
          have ws' : wrap64 ((k + 1 : Nat) - 1 : Int) = (k : Int) := by unfold wrap64; omega
          have hmem := hall _ (lastP_mem hlen h1)
          by_cases hlow : (if fr = 0 then (lastP (k + 1) ps).1 else (lastP (k + 1) ps).2) < m
          · have HE : payQ (k + 1) ps 0 0 0 false fr m = 9 := by
              unfold payQ; rw [if_neg (by simp [h0]), if_neg hfr, if_neg (by simp), if_neg (by simpa using hm), if_pos hlow]
            have HE := aside HE
            have HM := aside hm
            clear hall ht h0 hcl0 hm
            generalize lastP (k + 1) ps = p at *
            obtain ⟨x, y⟩ := p
            simp only [] at e0 e1 hlow
            rcases hfr' with rfl | rfl
            · have hlow' : x < m := by simpa using hlow
              clear hlow hmem
              go_wp2_with (first | (go_at_call 25; refine (mcheck_ok m HM.out _).mono ?_; rintro e w' ⟨rfl, rfl⟩) | fail)
              refine bodyPost_ret (v := .tuple #[chV none 0 0 0 0 0 false, .iface 26 (.int .i64 9)]) (by simp only [results, Tryd.results12, chV]; go_simp) rfl ?_
              exact ⟨err_done2 HB.out (by omega), by rw [HE.out, errV_9]; rfl⟩
            · have hlow' : y < m := by simpa using hlow
              clear hlow hmem
              go_wp2_with (first | (go_at_call 25; refine (mcheck_ok m HM.out _).mono ?_; rintro e w' ⟨rfl, rfl⟩) | fail)
              refine bodyPost_ret (v := .tuple #[chV none 0 0 0 0 0 false, .iface 26 (.int .i64 9)]) (by simp only [results, Tryd.results12, chV]; go_simp) rfl ?_
              exact ⟨err_done2 HB.out (by omega), by rw [HE.out, errV_9]; rfl⟩
          · by_cases hn : k + 1 = 50
            · have HE : payQ (k + 1) ps 0 0 0 false fr m = 4 := by
                unfold payQ; rw [if_neg (by simp [h0]), if_neg hfr, if_neg (by simp), if_neg (by simpa using hm), if_neg hlow, if_pos hn]
              have HE := aside HE
              have HM := aside hm
              clear hall ht h0 hcl0 hm
              obtain rfl : k = 49 := by omega
              generalize lastP (49 + 1) ps = p at *
              obtain ⟨x, y⟩ := p
              simp only [] at e0 e1 hlow
              rcases hfr' with rfl | rfl
              · have hlow' : m ≤ x := by simpa using hlow
                clear hlow hmem
                go_wp2_with (first | (go_at_call 25; refine (mcheck_ok m HM.out _).mono ?_; rintro e w' ⟨rfl, rfl⟩) | fail)
                refine bodyPost_ret (v := .tuple #[chV none 0 0 0 0 0 false, .iface 26 (.int .i64 4)]) (by simp only [results, Tryd.results12, chV]; go_simp) rfl ?_
                exact ⟨err_done2 HB.out (by omega), by rw [HE.out, errV_4]; rfl⟩
              · have hlow' : m ≤ y := by simpa using hlow
                clear hlow hmem
                go_wp2_with (first | (go_at_call 25; refine (mcheck_ok m HM.out _).mono ?_; rintro e w' ⟨rfl, rfl⟩) | fail)
                refine bodyPost_ret (v := .tuple #[chV none 0 0 0 0 0 false, .iface 26 (.int .i64 4)]) (by simp only [results, Tryd.results12, chV]; go_simp) rfl ?_
                exact ⟨err_done2 HB.out (by omega), by rw [HE.out, errV_4]; rfl⟩
            · exact absurd (by unfold payQ; rw [if_neg (by simp [h0]), if_neg hfr, if_neg (by simp), if_neg (by simpa using hm), if_neg hlow, if_neg hn]) HQ.out
        · have HE : payQ n ps 0 0 0 false fr m = 2 := by
            unfold payQ; rw [if_neg (by simp [h0]), if_neg hfr, if_neg (by simp), if_pos hm]
          have HE := aside HE
          have HM := aside hm
          clear hall ht h0 hcl0 hm
          rcases hfr' with rfl | rfl
          all_goals go_wp2_with (first | (go_at_call 25; refine (mcheck_bad m HM.out _).mono ?_; rintro e w' ⟨rfl, rfl⟩) | fail)
          all_goals refine bodyPost_ret (v := .tuple #[chV none 0 0 0 0 0 false, .iface 26 (.int .i64 2)]) (by simp only [results, Tryd.results12, chV]; go_simp) rfl ?_
          all_goals exact ⟨err_done HB.out, by rw [HE.out, errV_2]; rfl⟩
      · have HE : payQ n ps cl tu wh ch fr m = 11 := by
          unfold payQ; rw [if_neg (by simp [h0]), if_neg hfr, if_pos hcl]
        have HE := aside HE
        have b0 : (cl != 0) = true := by simpa using hcl
        clear hall ht h0 hcl0 hcl
        rcases hfr' with rfl | rfl
        all_goals go_wp2
        all_goals refine bodyPost_ret (v := .tuple #[chV none 0 0 0 0 0 false, .iface 26 (.int .i64 11)]) (by simp only [results, Tryd.results12, chV]; go_simp) rfl ?_
        all_goals exact ⟨err_done HB.out, by rw [HE.out, errV_11]; rfl⟩
  · have HE : payQ n ps cl tu wh ch fr m = checkQ n ps cl tu wh ch := by unfold payQ; rw [if_pos h0]
    have HE := aside HE
    have H0 := aside h0
    rw [errV_ne h0]
    clear h0
    go_wp2
    refine bodyPost_ret (v := .tuple #[chV none 0 0 0 0 0 false, .iface 26 (.int .i64 (checkQ n ps cl tu wh ch))]) (by simp only [results, Tryd.results12, chV]; go_simp) rfl ?_
    exact ⟨err_done HB.out, by rw [HE.out, errV_ne H0.out]; rfl⟩

/-- lane.Pay, at every channel. -/
theorem pay_any (ps : List (Int × Int)) (A : Option Addr) (n c : Nat) (cl tu wh : Int) (ch : Bool) (fr m : Int) (w : World) (hp : PSl w w.heap.size A n ps) :
    Calls Tryd.prog 12 #[chV A n c cl tu wh ch, .int .i64 fr, .int .i64 m] w (PostPay n ps cl tu wh ch fr m w) := by
  by_cases hq : payQ n ps cl tu wh ch fr m = 0
  · have hq' := hq
    unfold payQ at hq'
    by_cases h0 : checkQ n ps cl tu wh ch = 0
    · rw [if_neg (by simpa using h0)] at hq'
      by_cases hf : fr ≠ 0 ∧ fr ≠ 1
      · rw [if_pos hf] at hq'; exact absurd hq' (by decide)
      rw [if_neg hf] at hq'
      by_cases hc : cl ≠ 0
      · rw [if_pos hc] at hq'; exact absurd hq' (by decide)
      rw [if_neg hc] at hq'
      by_cases hm : ¬ MoneyIn m
      · rw [if_pos hm] at hq'; exact absurd hq' (by decide)
      rw [if_neg hm] at hq'
      by_cases hl : (if fr = 0 then (lastP n ps).1 else (lastP n ps).2) < m
      · rw [if_pos hl] at hq'; exact absurd hq' (by decide)
      rw [if_neg hl] at hq'
      by_cases hn : n = 50
      · rw [if_pos hn] at hq'; exact absurd hq' (by decide)
      obtain ⟨ht, -, -, -, -, -, -, hcl0, -⟩ := checkQ_ok h0
      obtain ⟨-, h2, -⟩ := turnsQ_ok ht
      have hc : cl = 0 := by omega
      obtain ⟨rfl, rfl, rfl⟩ := hcl0 hc
      subst hc
      have hf : fr = 0 ∨ fr = 1 := by omega
      have hm : MoneyIn m := Decidable.byContradiction hm
      rcases hf with rfl | rfl
      · exact (pay_ok0 ps A n c m w hp h0 hm (by simpa using hl) (by omega)).mono fun e w' h => ⟨h.1, .inl ⟨hq, h.2⟩⟩
      · exact (pay_ok1 ps A n c m w hp h0 hm (by simpa using hl) (by omega)).mono fun e w' h => ⟨h.1, .inl ⟨hq, h.2⟩⟩
    · rw [if_pos h0] at hq'
      exact absurd hq' h0
  · exact (pay_err ps A n c cl tu wh ch fr m w hp hq).mono fun e w' h => ⟨h.1, .inr ⟨hq, h.2⟩⟩
end Go.Proofs.YtpkclbemgmaahaaDoor
