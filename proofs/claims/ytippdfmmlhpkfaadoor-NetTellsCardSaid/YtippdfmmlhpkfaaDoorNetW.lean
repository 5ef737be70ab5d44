/- slices.Clone, slices.IndexFunc, net.Settle: the walk. Conditions: named in each theorem. -/
import Derived.Test.YtippdfmmlhpkfaaDoorNetS
import Derived.Test.YtippdfmmlhpkfaaDoorNetQ
namespace Go.Proofs.YtippdfmmlhpkfaaDoor
open Go.RowKit Go.ChangeShapes Go.WideShapes Go.ChangeAt

theorem one_piles {ps : List Ln} : ∀ u ∈ ps.flatMap plV, u.oneCell' = true := by
  intro u hu
  obtain ⟨d, _, hd⟩ := List.mem_flatMap.1 hu
  simp [plV] at hd
  rcases hd with rfl | rfl <;> rfl
/-- What Clone leaves: a row of the call's own. -/
def ClonePost (ps : List Ln) (n : Nat) (w : World) (e : Ending) (w' : World) : Prop :=
  ∃ A' c', e = .returned (.slice A' n c') ∧ w'.ownsRow w.heap.size 44 2 (.slice A' n c') n (ps.flatMap plV) ∧ Below w.heap.size w w'
set_option maxHeartbeats 4000000 in
set_option maxRecDepth 100000 in
theorem clone_any (ps : List Ln) (A : Option Addr) (n c : Nat) (w : World) (hp : PSl w w.heap.size A n ps) (hn : n ≤ 100) :
    Calls Tryd.prog 20 #[.slice A n c] w (ClonePost ps n w) := by
  have q22 : ∀ (w : World) (a : Option Addr) (n c n' c' : Nat), (binOp .eql 23 (.slice a n c) (.slice none n' c')).run Tryd.prog w = .ok (.bool a.isNone) w := fun w a n c n' c' => Lib.run_eql_slice_nil w _ _ a n c n' c' Tryd.underlying23
  have hlen := PSl.len2 hp
  rcases A with _ | a
  · have hn0 : n = 0 := by
      rcases Nat.eq_zero_or_pos n with h0 | h0
      · exact h0
      · obtain ⟨_, _, hh, _⟩ := Sl.cells hp h0
        cases hh
    subst hn0
    go_enter Tryd.func20, Tryd.ntmps20
    go_wp2
    go_ret
    have h0 : ps = [] := List.eq_nil_of_length_eq_zero hlen
    subst h0
    exact ⟨none, 0, rfl, ⟨by simp, .inl ⟨rfl, rfl⟩⟩, Below.refl _ _⟩
  · go_enter Tryd.func20, Tryd.ntmps20
    go_wp2_with (at_builtin; refine wpList_concat rfl _ _ 23 rfl w.heap.size (.agg #[.int .i64 0, .int .i64 0]) 2 16 Tryd.underlying23 pileInfo rfl (by decide) _ 0 [] rfl (World.ownsRow_made w #[] 0 (Nat.le_refl _) (Nat.zero_le _) rfl) w.heap.size (some a) n c (ps.flatMap plV) rfl (Sl.alloc hp (Nat.le_refl _) _) one_piles (by omega) (by unfold maxLen; omega) (by simp) ?_)
    intro A' c' w1 hc1 hc2 hown hb _
    have HO := aside hown
    have HB := aside (((Below.refl w.heap.size w).alloc (Nat.le_refl _) _).trans hb)
    clear hown hb q22
    go_wp2
    go_ret
    exact ⟨_, _, rfl, HO.out, HB.out⟩

set_option maxRecDepth 100000 in
theorem neg_any (s a : Int) (w : World) : Calls Tryd.prog 22 #[.agg #[.int .i64 s, .int .i64 a]] w (fun e w' => e = .returned (.bool (decide (a < 0))) ∧ Below w.heap.size w w') := by
  go_enter Tryd.func22, Tryd.ntmps22
  go_wp2
  go_ret
  exact ⟨rfl, (Below.refl _ _).alloc (Nat.le_refl _) _⟩
set_option maxRecDepth 100000 in
theorem pos_any (s a : Int) (w : World) : Calls Tryd.prog 23 #[.agg #[.int .i64 s, .int .i64 a]] w (fun e w' => e = .returned (.bool (decide (0 < a))) ∧ Below w.heap.size w w') := by
  go_enter Tryd.func23, Tryd.ntmps23
  go_wp2
  go_ret
  exact ⟨rfl, (Below.refl _ _).alloc (Nat.le_refl _) _⟩
/-- What IndexFunc leaves. -/
def IndexPost (P : Ln → Prop) (own : List Ln) (w : World) (e : Ending) (w' : World) : Prop :=
  ((∃ i : Nat, First P own i ∧ e = .returned (.int .i64 i)) ∨ ((∀ p ∈ own, ¬ P p) ∧ e = .returned (.int .i64 (-1)))) ∧ Below w.heap.size w w'
set_option maxHeartbeats 4000000 in
set_option maxRecDepth 100000 in
theorem index_any (F : Nat) (P : Ln → Prop) (b : Int → Bool) (hb : ∀ p : Ln, b p.2 = true ↔ P p) (hF : F = 22 ∧ b = (fun a => decide (a < 0)) ∨ F = 23 ∧ b = (fun a => decide (0 < a))) (own : List Ln) (A : Option Addr) (n c : Nat) (w : World) (h : PSl w w.heap.size A n own) (hn : n ≤ 100) :
    Calls Tryd.prog 21 #[.slice A n c, .func (.func F) #[] #[]] w (IndexPost P own w) := by
  have hlen := PSl.len2 h
  have HBb := aside hb
  have hcall : ∀ (s a : Int) (w : World), Calls Tryd.prog F #[.agg #[.int .i64 s, .int .i64 a]] w (fun e w' => e = .returned (.bool (b a)) ∧ Below w.heap.size w w') := by
    rcases hF with ⟨rfl, rfl⟩ | ⟨rfl, rfl⟩
    · exact neg_any
    · exact pos_any
  have HC := aside hcall
  clear hb hcall
  have hF' : F = 22 ∨ F = 23 := hF.imp And.left And.left
  clear hF
  rcases hF' with rfl | rfl
  all_goals go_enter Tryd.func21, Tryd.ntmps21
  all_goals go_wp2_with fail
  all_goals go_loopw [8] (fun v8 wr => ∃ (k : Nat), k ≤ n ∧ v8 = .int .i64 k ∧ Hid (∀ j, j < k → ¬ P (at_ own j)) ∧ Below w.heap.size w wr) (fun v8 _ => n - (Go.RowKit.intOf v8).toNat)
  case atStart => exact ⟨0, Nat.zero_le _, rfl, aside (fun j hj => absurd hj (Nat.not_lt_zero j)), Below.refl _ _⟩
  case atStart => exact ⟨0, Nat.zero_le _, rfl, aside (fun j hj => absurd hj (Nat.not_lt_zero j)), Below.refl _ _⟩
  all_goals
    obtain ⟨k, hk, rfl, HA, hb⟩ := hrel
    have hbz := hb.size
    by_cases k1 : k < n
    · obtain ⟨g, off, rfl, hlt, c0, c1⟩ := PSl.at2 h k1
      have HG : Hid (own.getD k (0, 0) = at_ own k) := aside rfl
      generalize own.getD k (0, 0) = p at c0 c1 HG
      obtain ⟨s, a⟩ := p
      simp only [] at c0 c1
      have d0 := (hb.cell (p := ⟨g, off + k * 2, none⟩) hlt).trans c0
      have d1 := (hb.cell (p := ⟨g, off + k * 2 + 1, none⟩) hlt).trans c1
      have l0 : g < wr.heap.size := by omega
      have i1 : (k : Int) < (n : Int) := by omega
      have i4 : (0 : Int) ≤ (k : Int) := by omega
      have HBL := aside hb
      clear c0 c1 hb
      cases hba : b a
      · have HNo : Hid (¬ P (at_ own k)) := aside (by rw [← HG.out]; exact fun h => by have h1 := (HBb.out (s, a)).2 h; simp only at h1; rw [hba] at h1; cases h1)
        have HF := aside (HC.out s a)
        rw [hba] at HF
        clear hba
        go_wp2_with fail
        refine (HF.out _).mono ?_
        rintro e w2 ⟨rfl, hb2⟩
        have H2 := aside (HBL.out.trans (hb2.mono hbz))
        clear hb2
        go_wp2
        refine ⟨⟨k + 1, by omega, by go_num, aside ?_, H2.out⟩, by simp [Go.RowKit.intOf]; omega⟩
        intro j hj
        by_cases e : j = k
        · subst e; exact HNo.out
        · exact HA.out j (by omega)
      · have HYes : Hid (P (at_ own k)) := aside (by rw [← HG.out]; exact (HBb.out (s, a)).1 hba)
        have HF := aside (HC.out s a)
        rw [hba] at HF
        clear hba
        go_wp2_with fail
        refine (HF.out _).mono ?_
        rintro e w2 ⟨rfl, hb2⟩
        have H2 := aside (HBL.out.trans (hb2.mono hbz))
        clear hb2
        go_wp2
        go_ret
        exact ⟨.inl ⟨k, ⟨by omega, HYes.out, HA.out⟩, rfl⟩, H2.out⟩
    · have i1 : ((k : Int) < (n : Int)) = False := by simp only [eq_iff_iff, iff_false]; omega
      obtain rfl : k = n := by omega
      have HBL := aside hb
      clear hb
      go_wp2
      go_ret
      refine ⟨.inr ⟨fun p hp => ?_, rfl⟩, HBL.out⟩
      obtain ⟨j, hj, rfl⟩ := mem_at hp
      exact HA.out j (by omega)

theorem neg_total {own : List Ln} {i : Nat} (hi : First Neg own i) (hno : ∀ p ∈ own, ¬ Pos p) : total own ≠ 0 := by
  have h1 := hi.2.1
  unfold Neg at h1
  have h2 : ∀ (xs : List Ln), (∀ p ∈ xs, ¬ Pos p) → total xs ≤ 0 ∧ ∀ p ∈ xs, total xs ≤ p.2 := by
    intro xs
    induction xs with
    | nil => intro _; exact ⟨by simp [total], fun p h => by cases h⟩
    | cons x r ih =>
      intro h
      obtain ⟨g1, g2⟩ := ih fun p hp => h p (by simp [hp])
      have hx : x.2 ≤ 0 := by have := h x (by simp); unfold Pos at this; omega
      have e : total (x :: r) = x.2 + total r := by simp [total]
      rw [e]
      refine ⟨by omega, fun p hp => ?_⟩
      rcases List.mem_cons.1 hp with rfl | hp
      · omega
      · have := g2 p hp; omega
  have := (h2 own hno).2 _ (at_mem hi.1)
  omega
theorem St.bounds {ps own : List Ln} {out : List Db} (h : St ps own out) (hok : ∀ p ∈ ps, PlOk p) (k : Nat) (hk : k < ps.length) : -1125899906842624 ≤ (at_ own k).2 ∧ (at_ own k).2 ≤ 1125899906842624 := by
  have h1 := h.sign k hk
  have h2 := hok _ (at_mem hk)
  unfold PlOk at h2
  omega
theorem pair_keep {W W' : World} {b o o' B : Nat} {u v : Value} (hb : Below B W W') (l : b < B) (h : W.cell? ⟨b, o, none⟩ = some u ∧ W.cell? ⟨b, o', none⟩ = some v) : W'.cell? ⟨b, o, none⟩ = some u ∧ W'.cell? ⟨b, o', none⟩ = some v :=
  ⟨(hb.cell (p := ⟨b, o, none⟩) l).trans h.1, (hb.cell (p := ⟨b, o', none⟩) l).trans h.2⟩
theorem pair_drew {W : World} {b o o' : Nat} {u v : Value} (h : W.cell? ⟨b, o, none⟩ = some u ∧ W.cell? ⟨b, o', none⟩ = some v) : W.drew.cell? ⟨b, o, none⟩ = some u ∧ W.drew.cell? ⟨b, o', none⟩ = some v := h
theorem pair_alloc_drew {W : World} {c : Obj} {b o o' : Nat} {u v : Value} (l : b < W.heap.size) (h : W.cell? ⟨b, o, none⟩ = some u ∧ W.cell? ⟨b, o', none⟩ = some v) : (W.alloc c).drew.cell? ⟨b, o, none⟩ = some u ∧ (W.alloc c).drew.cell? ⟨b, o', none⟩ = some v :=
  pair_keep (W' := W.alloc c) ((Below.refl _ _).alloc (Nat.le_refl _) c) l h
theorem PSl.set {w : World} {B b off n : Nat} {own : List Ln} (h : PSl w B (some ⟨b, off, none⟩) n own) {i : Nat} (hi : i < n) (x : Int) : PSl (w.setCell ⟨b, off + i * 2 + 1, none⟩ (.int .i64 x)) B (some ⟨b, off, none⟩) n (own.set i ((at_ own i).1, x)) := by
  have hlen := PSl.len2 h
  obtain ⟨b', off', e, hb, hc⟩ := Sl.cells h (by omega)
  injection e with e
  injection e with e1 e2
  subst e1 e2
  refine ⟨by rw [flat_len plV_len]; simp [hlen], fun _ => ⟨b, off, rfl, hb, fun j u hu => ?_⟩⟩
  have hj : j < n * 2 := by
    have := (List.getElem?_eq_some_iff.1 hu).1
    rw [flat_len plV_len] at this
    simpa [hlen] using this
  have hk : j / 2 < n := by omega
  have hg := flat_get plV_len (0, 0) (own.set i ((at_ own i).1, x)) (k := j / 2) (j := j % 2) (by simpa [hlen] using hk) (Nat.mod_lt _ (by decide))
  have hg0 := flat_get plV_len (0, 0) own (k := j / 2) (j := j % 2) (by omega) (Nat.mod_lt _ (by decide))
  rw [show j / 2 * 2 + j % 2 = j by omega] at hg hg0
  rw [hu] at hg
  have hat : ∀ (xs : List Ln) k, xs.getD k (0, 0) = at_ xs k := fun _ _ => rfl
  rw [hat] at hg hg0
  by_cases hki : j / 2 = i
  · rw [hki, at_set_same (by omega)] at hg
    rw [hki] at hg0
    rcases Nat.mod_two_eq_zero_or_one j with hm | hm
    · rw [hm] at hg hg0
      have h1 := hc j _ hg0
      rw [World.cell?_setCell_other _ _ _ _ (by intro e; injection e with _ e; omega), h1]
      exact hg.symm
    · rw [hm] at hg hg0
      have h1 := hc j _ hg0
      have ej : off + j = off + i * 2 + 1 := by omega
      rw [ej] at h1 ⊢
      rw [World.cell?_setCell_same _ _ _ h1]
      exact hg.symm
  · rw [at_set_ne (fun e => hki e.symm)] at hg
    have h1 := hc j u (hg0.trans hg.symm)
    rw [World.cell?_setCell_other _ _ _ _ (by intro e; injection e with _ e; omega), h1]
def lenOf : Value → Nat
  | .slice _ n _ => n
  | _ => 0
/-- What Settle leaves. -/
def SettlePost (ps : List Ln) (w : World) (e : Ending) (w' : World) : Prop :=
  ((rErr ps = 0 ∧ ∃ A c own out, e = .returned (.tuple #[.slice A out.length c, .nilIface]) ∧ DSl w' w'.heap.size A out.length out ∧ St ps own out ∧ ∀ p ∈ own, ¬ Neg p) ∨
    (rErr ps ≠ 0 ∧ e = .returned (.tuple #[.slice none 0 0, .iface 29 (.int .i64 (rErr ps))]))) ∧ Below w.heap.size w w'
theorem frozen_own {w : World} {base : Nat} {T : TypeId} {sz : Nat} {A : Option Addr} {n c m : Nat} {xs : List Value} (h : w.ownsRow base T sz (.slice A n c) m xs) : ∀ b o s, A = some ⟨b, o, s⟩ → b < w.heap.size ∧ ∀ i, w.frozen? ⟨b, i, none⟩ = false := by
  rintro b o s rfl
  rcases h.2 with ⟨e, _⟩ | ⟨g, cap, cur, e, _, hb, _⟩
  · cases e
  · injection e with e
    injection e with e
    injection e with e
    subst e
    refine ⟨?_, fun i => by simp [World.frozen?, hb]⟩
    rcases Nat.lt_or_ge b w.heap.size with h | h
    · exact h
    · simp [Array.getElem?_eq_none h] at hb

set_option maxHeartbeats 8000000 in
set_option maxRecDepth 100000 in
theorem settle_any (ps : List Ln) (A : Option Addr) (n c : Nat) (w : World) (h : PSl w w.heap.size A n ps) :
    Calls Tryd.prog 13 #[.slice A n c] w (SettlePost ps w) := by
  have hlen := PSl.len2 h
  go_enter Tryd.func13, Tryd.ntmps13
  go_wp2_with fail
  refine (right_any ps A n c _ h).mono ?_
  rintro e w1 ⟨⟨hd, rfl⟩ | ⟨hd, rfl⟩, hb1⟩
  rotate_left
  · have HB1 := aside hb1
    have HD := aside hd
    clear hb1 hd
    go_wp2
    go_ret2
    exact ⟨.inr ⟨HD.out, rfl⟩, HB1.out⟩
  obtain ⟨h60, hok, hri, htot⟩ := rErr_zero hd
  have HD := aside hd
  have HOk := aside hok
  have HRi := aside hri
  have HB1 := aside hb1
  have HP1 := aside ((FSl.below h hb1).more hb1.size)
  have hst := St.start htot
  have HSt := aside hst
  have hn60 : n ≤ 60 := by omega
  clear hd hok hri htot hb1 hst h60
  go_wp2_with fail
  refine (clone_any ps A n c _ HP1.out (by omega)).mono ?_
  rintro e w2 ⟨G, cg, rfl, hown, hb2⟩
  have HFz := aside (frozen_own hown)
  have HFar : Hid (Far w.heap.size G) := aside ((far_own hown).mono HB1.out.size)
  have HG := aside (Sl.own hown : PSl w2 w2.heap.size G n ps)
  have H2 := aside (HB1.out.trans (hb2.mono HB1.out.size))
  have hz2 := H2.out.size
  clear hown hb2
  go_wp2_with fail
  go_loopw [6] (fun v6 wr => ∃ (own : List Ln) (out : List Db) (A' : Option Addr) (c' : Nat), v6 = .slice A' out.length c' ∧ Hid (St ps own out) ∧ Hid (PSl wr w2.heap.size G n own) ∧ Hid (∀ b o s, G = some ⟨b, o, s⟩ → ∀ i, wr.frozen? ⟨b, i, none⟩ = false) ∧ Hid (wr.ownsRow w2.heap.size 41 3 (.slice A' out.length c') out.length (out.flatMap dbV)) ∧ w2.heap.size ≤ wr.heap.size ∧ Below w.heap.size w wr) (fun v6 _ => 100 - lenOf v6)
  case atStart => exact ⟨ps, [], none, 0, rfl, HSt, HG, aside (fun b o s e => (HFz.out b o s e).2), aside ⟨by simp, .inl ⟨rfl, rfl⟩⟩, Nat.le_refl _, H2.out⟩
  case round =>
    obtain ⟨own, out, A1, c1, rfl, HS, HP, HF, HR, hz, hb⟩ := hrel
    have hbz := hb.size
    have HBL := aside hb
    have hol : own.length = n := by rw [HS.out.len, hlen]
    clear hb
    go_wp2_with fail
    refine (index_any 22 Neg (fun a => decide (a < 0)) (fun p => by simp [Neg]) (.inl ⟨rfl, rfl⟩) own G n cg _ (HP.out.more hz) (by omega)).mono ?_
    rintro e w3 ⟨⟨i, hi, rfl⟩ | ⟨hno, rfl⟩, hb3⟩
    rotate_left
    · have HNo := aside hno
      have HB3 := aside (HBL.out.trans (hb3.mono hbz))
      have HR3 := aside (own_below HR.out hb3)
      clear hno hb3
      go_wp2
      go_ret2
      exact ⟨.inl ⟨HD.out, A1, c1, own, out, rfl, Sl.own HR3.out, HS.out, HNo.out⟩, HB3.out⟩
    have HI := aside hi
    have hil : i < n := by have := hi.1; omega
    have HB3 := aside (HBL.out.trans (hb3.mono hbz))
    have HR3 := aside (own_below HR.out hb3)
    have HP3 := aside (FSl.below HP.out (hb3.mono hz))
    have HF3 : Hid (∀ b o s, G = some ⟨b, o, s⟩ → ∀ i, w3.frozen? ⟨b, i, none⟩ = false) := aside fun b o s e i => (hb3.frozen (p := ⟨b, i, none⟩) (by have := (HFz.out b o s e).1; show b < wr.heap.size; omega)).trans (HF.out b o s e i)
    have hz3 : w2.heap.size ≤ w3.heap.size := by have := hb3.size; omega
    have hi0 : ((i : Int) < 0) = False := by simp only [eq_iff_iff, iff_false]; omega
    clear hi hb3
    go_wp2_with fail
    refine (index_any 23 Pos (fun a => decide (0 < a)) (fun p => by simp [Pos]) (.inr ⟨rfl, rfl⟩) own G n cg _ (HP3.out.more hz3) (by omega)).mono ?_
    rintro e w4 ⟨⟨j, hj, rfl⟩ | ⟨hno, rfl⟩, hb4⟩
    rotate_left
    · exact absurd HS.out.tot (neg_total HI.out hno)
    have HJ := aside hj
    have hjl : j < n := by have := hj.1; omega
    have HB4 := aside (HB3.out.trans (hb4.mono HB3.out.size))
    have HR4 := aside (own_below HR3.out hb4)
    have HP4 := aside (FSl.below HP3.out (hb4.mono hz3))
    have HF4 : Hid (∀ b o s, G = some ⟨b, o, s⟩ → ∀ i, w4.frozen? ⟨b, i, none⟩ = false) := aside fun b o s e i => (hb4.frozen (p := ⟨b, i, none⟩) (by have := (HFz.out b o s e).1; show b < w3.heap.size; omega)).trans (HF3.out b o s e i)
    have hz4 : w2.heap.size ≤ w4.heap.size := by have := hb4.size; omega
    have hst1 := HS.out.step HRi.out HI.out HJ.out
    have HSt1 := aside hst1
    have hbi := HS.out.bounds HOk.out i (by omega)
    have hbj := HS.out.bounds HOk.out j (by omega)
    have hni := HI.out.2.1
    have hpj := HJ.out.2.1
    unfold Neg at hni
    unfold Pos at hpj
    obtain ⟨g, off, rfl, hlt, x0, x1⟩ := PSl.at2 HP4.out hil
    obtain ⟨g2, off2, e2, -, y0, y1⟩ := PSl.at2 HP4.out hjl
    injection e2 with e2
    injection e2 with e2 e3
    subst e2 e3
    have hgw : w.heap.size ≤ g := HFar.out _ _ _ rfl
    have hij : i ≠ j := ne_of_first HI.out HJ.out
    have HA : Hid (at_ own i = own.getD i (0, 0) ∧ at_ own j = own.getD j (0, 0)) := aside ⟨rfl, rfl⟩
    rw [HA.out.1] at hbi hni
    rw [HA.out.2] at hbj hpj
    generalize own.getD i (0, 0) = p at x0 x1 hbi hni HA
    generalize own.getD j (0, 0) = q at y0 y1 hbj hpj HA
    obtain ⟨s, a⟩ := p
    obtain ⟨t, b⟩ := q
    simp only [] at x0 x1 y0 y1 hbi hbj hni hpj
    have l4 : g < w4.heap.size := by omega
    have i1 : (i : Int) < (n : Int) := by omega
    have i2 : (0 : Int) ≤ (i : Int) := by omega
    have i3 : (j : Int) < (n : Int) := by omega
    have i4 : (0 : Int) ≤ (j : Int) := by omega
    have HW1 : Hid (IntKind.i64.wrap (-a) = -a) := aside (by rw [IntKind.wrap_i64]; omega)
    clear hj hb4 hst1
    have hw1 := HW1.out
    go_wp2_with fail
    go_quiet (fail)
    clear hw1
    have hmu : much own i j = min (-a) b := by
      unfold much least
      rw [HA.out.1, HA.out.2]
    obtain ⟨m, hm⟩ : ∃ m, m = min (-a) b := ⟨_, rfl⟩
    rw [← hm] at hmu ⊢
    have hm0 : 0 < m ∧ m ≤ -a ∧ m ≤ b := by omega
    have HMu := aside hmu
    have HDe : Hid (debt own i j = (s, t, m)) := aside (by unfold debt; rw [hmu, HA.out.1, HA.out.2])
    have HTh : Hid (then_ own i j = (own.set i (s, a + m)).set j (t, b - m)) := aside (by unfold then_; rw [hmu, HA.out.1, HA.out.2])
    clear hm hmu
    have HB5 : Hid (Below w.heap.size w (w4.drewN nq)) := aside (below_drawn HB4.out nq)
    have HR5 : Hid ((w4.drewN nq).ownsRow w2.heap.size 41 3 (.slice A1 out.length c1) out.length (out.flatMap dbV)) := HR4
    have HP5 : Hid (PSl (w4.drewN nq) w2.heap.size (some ⟨g, off, none⟩) n own) := aside (FSl.drewN HP4.out nq)
    have HF5 : Hid (∀ i, (w4.drewN nq).frozen? ⟨g, i, none⟩ = false) := aside fun i => HF4.out _ _ _ rfl i
    have u0 : (w4.drewN nq).cell? ⟨g, off + i * 2, none⟩ = some (.int .i64 s) := x0
    have u1 : (w4.drewN nq).cell? ⟨g, off + i * 2 + 1, none⟩ = some (.int .i64 a) := x1
    have v0 : (w4.drewN nq).cell? ⟨g, off + j * 2, none⟩ = some (.int .i64 t) := y0
    have v1 : (w4.drewN nq).cell? ⟨g, off + j * 2 + 1, none⟩ = some (.int .i64 b) := y1
    have hz5 : w2.heap.size ≤ (w4.drewN nq).heap.size := hz4
    have l5 : g < (w4.drewN nq).heap.size := l4
    clear x0 x1 y0 y1 HR4 HP4 HF4
    generalize w4.drewN nq = w5 at HB5 HR5 HP5 HF5 u0 u1 v0 v1 hz5 l5 ⊢
    have HC5 := aside (And.intro (And.intro u0 v0) (And.intro u1 v1))
    have hol100 : out.length ≤ 60 := by
      have h1 := HS.out.count
      have h2 : nz ps ≤ ps.length := List.countP_le_length
      omega
    have HS0 := pair_drew ⟨u0, v0⟩
    have HS1 := fun c => pair_alloc_drew (c := c) l5 ⟨u0, v0⟩
    go_wp2_with fail
    go_region_held3 (fun v => v.cell? ⟨g, off + i * 2, none⟩ = some (.int .i64 s) ∧ v.cell? ⟨g, off + j * 2, none⟩ = some (.int .i64 t))
      (with_reducible (first | exact HS0 | exact HS1 _ | exact HS3))
      (first
        | (refine step_push1 (by rfl) _ _ 22 41 (by rfl) Tryd.underlying22 debtInfo rfl (by decide) (base := w2.heap.size) (n := out.length) (cs := [.int .i64 s, .int .i64 t, .int .i64 m]) (by rfl) (by rfl) (World.ownsRow.alloc HR5.out _) rfl (cells3 rfl) one3 (by unfold maxLen; omega) (by omega) (by first | exact Nat.le_trans hz5 (Nat.le_succ _) | (simp; omega)) ?_; intro A5 c5 w6 hown6 hb6 hg6; have hb6w : Below w2.heap.size w5 w6 := ((Below.refl _ _).alloc hz5 _).trans ⟨hb6.os, hb6.tape, hb6.output, hb6.size, hb6.block⟩; have HS3 := pair_keep hb6w hlt HC5.out.1; skip))
    have HO6 := aside hown6
    have HB6 : Hid (Below w.heap.size w w6) := aside (HB5.out.trans (hb6w.mono (by omega)))
    have HP6 := aside (FSl.below HP5.out hb6w)
    have fz := fun k => (hb6w.frozen (p := ⟨g, k, none⟩) hlt).trans (HF5.out k)
    obtain ⟨x1, y1⟩ := pair_keep hb6w hlt HC5.out.2
    have hz6 : w2.heap.size ≤ w6.heap.size := by have := hb6w.size; omega
    have l6 : g < w6.heap.size := by omega
    have hne1 : off + j * 2 + 1 ≠ off + i * 2 + 1 := by omega
    have hne2 : off + i * 2 + 1 ≠ off + j * 2 + 1 := by omega
    have HV1 : Hid (wrap64 (a + m) = a + m) := aside (by unfold wrap64; omega)
    have HV2 : Hid (wrap64 (b - m) = b - m) := aside (by unfold wrap64; omega)
    clear hown6 hb6 hg6 hb6w HS0 HS1 HS3 u0 u1 v0 v1
    have hv1 := HV1.out
    have hv2 := HV2.out
    go_wp2
    clear hv1 hv2
    have hPn : PSl ((w6.setCell ⟨g, off + i * 2 + 1, none⟩ (.int .i64 (a + m))).setCell ⟨g, off + j * 2 + 1, none⟩ (.int .i64 (b - m))) w2.heap.size (some ⟨g, off, none⟩) n (then_ own i j) := by
      have h1 := PSl.set HP6.out hil (a + m)
      rw [HA.out.1] at h1
      have h2 := PSl.set h1 hjl (b - m)
      rw [at_set_ne hij, HA.out.2] at h2
      rw [HTh.out]
      exact h2
    have hne : (Value.slice A5 (out.length + 1) c5).ownBlock ≠ some g := fun e => by have := own_block_ge HO6.out _ e; omega
    have hlo : (out ++ [debt own i j]).length = out.length + 1 := by simp
    refine ⟨⟨then_ own i j, out ++ [debt own i j], A5, c5, by rw [hlo], HSt1, aside hPn, aside ?_, aside ?_, by simpa using hz6, (HB6.out.setCell hgw _).setCell hgw _⟩, by show 100 - (out.length + 1) < 100 - out.length; omega⟩
    · intro b1 o s1 e k
      injection e with e
      injection e with e1 e2
      subst e1
      simp [go_sem, fz]
    · rw [HDe.out, flatD_app]
      have h1 := ownsRow_setCell_other (ownsRow_setCell_other HO6.out (a := ⟨g, off + i * 2 + 1, none⟩) hne (.int .i64 (a + m))) (a := ⟨g, off + j * 2 + 1, none⟩) hne (.int .i64 (b - m))
      have hl2 : (out ++ [(s, t, m)]).length = out.length + 1 := by simp
      rw [hl2]
      exact h1
end Go.Proofs.YtippdfmmlhpkfaaDoor
