/- net.right: what is wrong with piles. Conditions: named in each theorem. -/
import Derived.Test.YtippdfmmlhpkfaaDoorNetC
import Derived.Deep.QuietTactic
import Derived.BigQuiet
namespace Go.Proofs.YtippdfmmlhpkfaaDoor
open Go.RowKit Go.ChangeShapes Go.WideShapes Go.ChangeAt

def PlOk (p : Ln) : Prop := 0 ≤ p.1 ∧ -1125899906842624 ≤ p.2 ∧ p.2 ≤ 1125899906842624
/-- The name is not behind. -/
def notUp : Option Int → Int → Bool
  | none, _ => false
  | some x, y => decide (y ≤ x)
/-- What is wrong with the first one that is no right one, behind one with a name, or none. -/
def fbP : Option Int → List Ln → Int
  | _, [] => 0
  | pr, p :: r => if notUp pr p.1 = true then 6 else if p.1 < 0 ∨ 1125899906842624 < p.2 ∨ p.2 < -1125899906842624 then 2 else fbP (some p.1) r
theorem fbP_cons (pr : Option Int) (p : Ln) (r : List Ln) : fbP pr (p :: r) = if notUp pr p.1 = true then 6 else if p.1 < 0 ∨ 1125899906842624 < p.2 ∨ p.2 < -1125899906842624 then 2 else fbP (some p.1) r := rfl
/-- What is wrong with piles. -/
def rErr (ps : List Ln) : Int := if 60 < ps.length then 4 else if fbP none ps ≠ 0 then fbP none ps else if total ps ≠ 0 then 9 else 0
/-- The name ahead of a place. -/
def ahead (ps : List Ln) : Nat → Option Int
  | 0 => none
  | k + 1 => some (ps.getD k (0, 0)).1
/-- The ones up to a place are right. -/
def Upto (ps : List Ln) (k : Nat) : Prop := fbP none ps = fbP (ahead ps k) (ps.drop k)
theorem upto_zero (ps : List Ln) : Upto ps 0 := rfl
theorem Upto.drop {ps : List Ln} {k : Nat} (hk : k < ps.length) : ps.drop k = ps.getD k (0, 0) :: ps.drop (k + 1) := by
  rw [List.drop_eq_getElem_cons hk, List.getD_eq_getElem?_getD, List.getElem?_eq_getElem hk]
  rfl
theorem Upto.twice {ps : List Ln} {k : Nat} (h : Upto ps (k + 1)) (hk : k + 1 < ps.length) (hb : (ps.getD (k + 1) (0, 0)).1 ≤ (ps.getD k (0, 0)).1) : fbP none ps = 6 := by
  rw [h, Upto.drop hk, fbP_cons, ahead, if_pos (by simpa [notUp] using hb)]
theorem Upto.range {ps : List Ln} {k : Nat} (h : Upto ps k) (hk : k < ps.length) (hg : ∀ j, k = j + 1 → (ps.getD j (0, 0)).1 < (ps.getD k (0, 0)).1) (hb : ¬ PlOk (ps.getD k (0, 0))) : fbP none ps = 2 := by
  rw [h, Upto.drop hk, fbP_cons]
  rw [if_neg]
  · rw [if_pos]
    unfold PlOk at hb
    omega
  · cases k with
    | zero => simp [ahead, notUp]
    | succ j =>
      have := hg j rfl
      simp only [ahead, notUp, decide_eq_true_eq]
      omega
theorem Upto.next {ps : List Ln} {k : Nat} (h : Upto ps k) (hk : k < ps.length) (hg : ∀ j, k = j + 1 → (ps.getD j (0, 0)).1 < (ps.getD k (0, 0)).1) (hb : PlOk (ps.getD k (0, 0))) : Upto ps (k + 1) := by
  unfold Upto
  rw [h, Upto.drop hk, fbP_cons]
  obtain ⟨h1, h2, h3⟩ := hb
  rw [if_neg, if_neg (by omega)]
  · rfl
  · cases k with
    | zero => simp [ahead, notUp]
    | succ j =>
      have := hg j rfl
      simp only [ahead, notUp, decide_eq_true_eq]
      omega
theorem Upto.end_ {ps : List Ln} (h : Upto ps ps.length) : fbP none ps = 0 := by
  rw [h, List.drop_length]
  rfl
theorem fbP_ok : ∀ {ps : List Ln} {pr : Option Int}, fbP pr ps = 0 → (∀ p ∈ ps, PlOk p) ∧ Rises ps ∧ ∀ x, pr = some x → ∀ p ∈ ps, x < p.1
  | [], _, _ => ⟨(fun _ h => by cases h), List.Pairwise.nil, (fun _ _ _ h => by cases h)⟩
  | p :: r, pr, h => by
    rw [fbP_cons] at h
    by_cases h1 : notUp pr p.1 = true
    · rw [if_pos h1] at h; cases h
    · rw [if_neg h1] at h
      by_cases h2 : p.1 < 0 ∨ 1125899906842624 < p.2 ∨ p.2 < -1125899906842624
      · rw [if_pos h2] at h; cases h
      · rw [if_neg h2] at h
        obtain ⟨g1, g2, g3⟩ := fbP_ok h
        refine ⟨fun q hq => ?_, List.pairwise_cons.2 ⟨fun y hy => ?_, g2⟩, fun x hx q hq => ?_⟩
        · rcases List.mem_cons.1 hq with rfl | hq
          · unfold PlOk; omega
          · exact g1 q hq
        · obtain ⟨q, hq, rfl⟩ := List.mem_map.1 hy
          exact g3 _ rfl q hq
        · subst hx
          simp [notUp] at h1
          rcases List.mem_cons.1 hq with rfl | hq
          · exact h1
          · have := g3 _ rfl q hq
            omega
theorem rErr_zero {ps : List Ln} (h : rErr ps = 0) : ps.length ≤ 60 ∧ (∀ p ∈ ps, PlOk p) ∧ Rises ps ∧ total ps = 0 := by
  unfold rErr at h
  by_cases h1 : 60 < ps.length
  · rw [if_pos h1] at h; cases h
  · rw [if_neg h1] at h
    by_cases h2 : fbP none ps ≠ 0
    · rw [if_pos h2] at h; exact absurd h h2
    · rw [if_neg h2] at h
      have h3 : fbP none ps = 0 := Decidable.not_not.1 h2
      by_cases h4 : total ps ≠ 0
      · rw [if_pos h4] at h; cases h
      · exact ⟨by omega, (fbP_ok h3).1, (fbP_ok h3).2.1, Decidable.not_not.1 h4⟩
/-- What right leaves. -/
def RightPost (ps : List Ln) (w : World) (e : Ending) (w' : World) : Prop := ((rErr ps = 0 ∧ e = .returned .nilIface) ∨ (rErr ps ≠ 0 ∧ e = .returned (.iface 29 (.int .i64 (rErr ps))))) ∧ Below w.heap.size w w'
theorem rErr_first {ps : List Ln} {q : Int} (h : ¬ 60 < ps.length) (hq : fbP none ps = q) (h0 : q ≠ 0) : rErr ps = q := by
  unfold rErr
  rw [if_neg h, if_pos (by rw [hq]; exact h0), hq]
theorem tot_bnd {M : Int} : ∀ {xs : List Ln}, (∀ l ∈ xs, -M ≤ l.2 ∧ l.2 ≤ M) → 0 ≤ M → -((xs.length : Int) * M) ≤ total xs ∧ total xs ≤ (xs.length : Int) * M
  | [], _, _ => by simp [total]
  | l :: r, h, hM => by
    have h1 := tot_bnd (xs := r) (fun x hx => h x (by simp [hx])) hM
    have h2 := h l (by simp)
    have e : ((r.length + 1 : Nat) : Int) * M = (r.length : Int) * M + M := by rw [Int.natCast_add, Int.add_mul]; simp
    simp only [total, List.map_cons, List.sum_cons, List.length_cons] at h1 ⊢
    rw [e]
    omega
theorem tot_app (xs : List Ln) (s a : Int) : total (xs ++ [(s, a)]) = total xs + a := by simp [total]

set_option maxHeartbeats 8000000 in
set_option maxRecDepth 100000 in
theorem right_any (ps : List Ln) (A : Option Addr) (n c : Nat) (w : World) (h : PSl w w.heap.size A n ps) :
    Calls Tryd.prog 19 #[.slice A n c] w (RightPost ps w) := by
  have hlen := PSl.len2 h
  by_cases n1 : 60 < n
  · have e1 : (60 : Int) < (n : Int) := by omega
    go_enter Tryd.func19, Tryd.ntmps19
    go_wp2
    go_ret
    have hd : rErr ps = 4 := by unfold rErr; rw [if_pos (by omega)]
    exact ⟨.inr ⟨by rw [hd]; decide, ifn hd⟩, Below.refl _ _⟩
  have e1 : ((60 : Int) < (n : Int)) = False := by simp only [eq_iff_iff, iff_false]; omega
  have HN : Hid (¬ 60 < ps.length) := aside (by omega)
  have hn60 : n ≤ 60 := by omega
  clear n1
  go_enter Tryd.func19, Tryd.ntmps19
  go_wp2_with fail
  go_loopw [3, 12] (fun v3 v12 wr => ∃ (k : Nat), k ≤ n ∧ v12 = .int .i64 k ∧ v3 = .int .i64 (total (ps.take k)) ∧ Hid (Upto ps k) ∧ Hid (∀ p ∈ ps.take k, PlOk p) ∧ Below w.heap.size w wr) (fun _ v12 _ => n - (Go.RowKit.intOf v12).toNat)
  case atStart => exact ⟨0, Nat.zero_le _, rfl, rfl, aside (upto_zero ps), aside (by simp), Below.refl _ _⟩
  case round =>
    obtain ⟨k, hk, rfl, rfl, HU, HA, hb⟩ := hrel
    have hbz := hb.size
    by_cases k1 : k < n
    · obtain ⟨b, off, rfl, hlt, c0, c1⟩ := PSl.at2 h k1
      have HT := aside (take_next (ls := ps) (k := k) (0, 0) (by omega))
      have HU1 := aside (HU.out.next (by omega))
      have HU2 := aside (HU.out.range (by omega))
      have HPr : Hid (∀ m, k = m + 1 → w.cell? ⟨b, off + m * 2, none⟩ = some (.int .i64 (ps.getD m (0, 0)).1) ∧ ((ps.getD k (0, 0)).1 ≤ (ps.getD m (0, 0)).1 → fbP none ps = 6)) := aside (by
        intro m hm
        obtain ⟨b5, o5, e5, -, x0, -⟩ := PSl.at2 h (k := m) (by omega)
        injection e5 with e5
        injection e5 with e5 e6
        subst e5 e6 hm
        exact ⟨x0, HU.out.twice (by omega)⟩)
      generalize hgp : ps.getD k (0, 0) = p at c0 c1 HT HU1 HU2 HPr
      obtain ⟨s, a⟩ := p
      simp only [] at c0 c1 HPr
      have HG := aside hgp
      have d0 := (hb.cell (p := ⟨b, off + k * 2, none⟩) hlt).trans c0
      have d1 := (hb.cell (p := ⟨b, off + k * 2 + 1, none⟩) hlt).trans c1
      have l0 : b < wr.heap.size := by omega
      have i1 : (k : Int) < (n : Int) := by omega
      have i4 : (0 : Int) ≤ (k : Int) := by omega
      have hkl : (ps.take k).length = k := by simp; omega
      have HTB : Hid (-((k : Int) * 1125899906842624) ≤ total (ps.take k) ∧ total (ps.take k) ≤ (k : Int) * 1125899906842624) := aside (by
        have h1 := tot_bnd (xs := ps.take k) (fun l hl => (HA.out l hl).2) (by omega)
        rw [hkl] at h1
        exact h1)
      have HBL := aside hb
      clear c0 c1 hkl hgp
      by_cases k0 : k = 0
      · have g0 : ((0 : Int) < (k : Int)) = False := by simp only [eq_iff_iff, iff_false]; omega
        have g1 : (0 < k) = False := by simp only [eq_iff_iff, iff_false]; omega
        have HR : Hid (¬ PlOk (s, a) → fbP none ps = 2) := aside (HU2.out (by omega))
        have HX : Hid (PlOk (s, a) → Upto ps (k + 1)) := aside (HU1.out (by omega))
        clear HPr k0 hb
        by_cases hs : s < 0
        · have hd := rErr_first HN.out (HR.out fun h => by have h1 := h.1; simp only at h1; omega) (by decide)
          have HD := aside hd
          clear hd
          go_wp2_with fail
          go_quiet (fail)
          go_wp2
          go_ret
          exact ⟨.inr ⟨by rw [HD.out]; decide, ifn HD.out⟩, below_drawn (HBL.out.alloc hbz _) _⟩
        have hs' : (s < 0) = False := by simp only [eq_iff_iff, iff_false]; omega
        have hs0 : 0 ≤ s := by omega
        by_cases ha : 1125899906842624 < a
        · have hd := rErr_first HN.out (HR.out fun h => by have h1 := h.2.2; simp only at h1; omega) (by decide)
          have HD := aside hd
          clear hd hs
          go_wp2_with fail
          go_quiet (fail)
          go_wp2
          go_ret
          exact ⟨.inr ⟨by rw [HD.out]; decide, ifn HD.out⟩, below_drawn (HBL.out.alloc hbz _) _⟩
        have ha' : (1125899906842624 < a) = False := by simp only [eq_iff_iff, iff_false]; omega
        by_cases hl : a < -1125899906842624
        · have hd := rErr_first HN.out (HR.out fun h => by have h1 := h.2.1; simp only at h1; omega) (by decide)
          have HD := aside hd
          clear hd hs ha
          go_wp2_with fail
          go_quiet (fail)
          go_wp2
          go_ret
          exact ⟨.inr ⟨by rw [HD.out]; decide, ifn HD.out⟩, below_drawn (HBL.out.alloc hbz _) _⟩
        have hl' : (a < -1125899906842624) = False := by simp only [eq_iff_iff, iff_false]; omega
        have HOk : Hid (PlOk (s, a)) := aside ⟨hs0, by simp only; omega, by simp only; omega⟩
        have HW : Hid (wrap64 (total (ps.take k) + a) = total (ps.take k) + a) := aside (by have := HTB.out; unfold wrap64; omega)
        clear hs ha hl
        go_wp2_with fail
        go_quiet (fail)
        go_wp2
        refine ⟨⟨k + 1, by omega, by go_num, by rw [HT.out, tot_app, HW.out], aside (HX.out HOk.out), aside ?_, below_drawn (HBL.out.alloc hbz _) _⟩, by simp [Go.RowKit.intOf]; omega⟩
        intro d hd
        rw [HT.out] at hd
        rcases List.mem_append.1 hd with hd | hd
        · exact HA.out d hd
        · rw [List.mem_singleton] at hd
          rw [hd]
          exact HOk.out
      · have g0 : (0 : Int) < (k : Int) := by omega
        have g1 : 0 < k := by omega
        obtain ⟨m, hm⟩ : ∃ m, k = m + 1 := ⟨k - 1, by omega⟩
        obtain ⟨z0, hz⟩ := HPr.out m hm
        have HZ := aside hz
        have hu1 : (ps.getD m (0, 0)).1 < s → PlOk (s, a) → Upto ps (k + 1) := fun h => HU1.out fun j hj => (show j = m by omega) ▸ h
        have hu2 : (ps.getD m (0, 0)).1 < s → ¬ PlOk (s, a) → fbP none ps = 2 := fun h => HU2.out fun j hj => (show j = m by omega) ▸ h
        have HX := aside hu1
        have HR := aside hu2
        generalize (ps.getD m (0, 0)).1 = t at z0 HX HR HZ
        clear hz hu1 hu2
        have y0 := (hb.cell (p := ⟨b, off + m * 2, none⟩) hlt).trans z0
        have HM1 : Hid (IntKind.i64.wrap ((k : Int) - 1) = (m : Int)) := aside (by rw [IntKind.wrap_i64]; omega)
        have hm2 : (m : Int) < (n : Int) := by omega
        have hm3 : (0 : Int) ≤ (m : Int) := by omega
        have HJ := aside hm
        clear HPr k0 hb hm z0
        by_cases hst : s ≤ t
        · have hd := rErr_first HN.out (HZ.out hst) (by decide)
          have HD := aside hd
          clear hd
          have hm1 := HM1.out
          go_wp2_with fail
          go_quiet (fail)
          go_wp2
          go_ret
          exact ⟨.inr ⟨by rw [HD.out]; decide, ifn HD.out⟩, below_drawn (HBL.out.alloc hbz _) _⟩
        have hst' : (s ≤ t) = False := by simp only [eq_iff_iff, iff_false]; omega
        have HR' := aside (HR.out (by omega))
        have HX' := aside (HX.out (by omega))
        clear hst
        by_cases hs : s < 0
        · have hd := rErr_first HN.out (HR'.out fun h => by have h1 := h.1; simp only at h1; omega) (by decide)
          have HD := aside hd
          clear hd
          have hm1 := HM1.out
          go_wp2_with fail
          go_quiet (fail)
          go_wp2
          go_ret
          exact ⟨.inr ⟨by rw [HD.out]; decide, ifn HD.out⟩, below_drawn (HBL.out.alloc hbz _) _⟩
        have hs' : (s < 0) = False := by simp only [eq_iff_iff, iff_false]; omega
        have hs0 : 0 ≤ s := by omega
        by_cases ha : 1125899906842624 < a
        · have hd := rErr_first HN.out (HR'.out fun h => by have h1 := h.2.2; simp only at h1; omega) (by decide)
          have HD := aside hd
          clear hd hs
          have hm1 := HM1.out
          go_wp2_with fail
          go_quiet (fail)
          go_wp2
          go_ret
          exact ⟨.inr ⟨by rw [HD.out]; decide, ifn HD.out⟩, below_drawn (HBL.out.alloc hbz _) _⟩
        have ha' : (1125899906842624 < a) = False := by simp only [eq_iff_iff, iff_false]; omega
        by_cases hl : a < -1125899906842624
        · have hd := rErr_first HN.out (HR'.out fun h => by have h1 := h.2.1; simp only at h1; omega) (by decide)
          have HD := aside hd
          clear hd hs ha
          have hm1 := HM1.out
          go_wp2_with fail
          go_quiet (fail)
          go_wp2
          go_ret
          exact ⟨.inr ⟨by rw [HD.out]; decide, ifn HD.out⟩, below_drawn (HBL.out.alloc hbz _) _⟩
        have hl' : (a < -1125899906842624) = False := by simp only [eq_iff_iff, iff_false]; omega
        have HOk : Hid (PlOk (s, a)) := aside ⟨hs0, by simp only; omega, by simp only; omega⟩
        have HW : Hid (wrap64 (total (ps.take k) + a) = total (ps.take k) + a) := aside (by have := HTB.out; unfold wrap64; omega)
        clear hs ha hl
        have hm1 := HM1.out
        go_wp2_with fail
        go_quiet (fail)
        go_wp2
        clear hm1
        refine ⟨⟨k + 1, by omega, by go_num, by rw [HT.out, tot_app, HW.out], aside (HX'.out HOk.out), aside ?_, below_drawn (HBL.out.alloc hbz _) _⟩, by simp [Go.RowKit.intOf]; omega⟩
        intro d hd
        rw [HT.out] at hd
        rcases List.mem_append.1 hd with hd | hd
        · exact HA.out d hd
        · rw [List.mem_singleton] at hd
          rw [hd]
          exact HOk.out
    · have i1 : ((k : Int) < (n : Int)) = False := by simp only [eq_iff_iff, iff_false]; omega
      obtain rfl : k = n := by omega
      have HBL := aside hb
      have hU := HU.out
      rw [← hlen] at hU
      have HF := aside hU.end_
      rw [List.take_of_length_le (by omega)]
      clear hb hU
      by_cases h0 : total ps = 0
      · have e5 : (total ps != 0) = false := by simp [h0]
        have HE : Hid (rErr ps = 0) := aside (by unfold rErr; rw [if_neg HN.out, if_neg (by rw [HF.out]; decide), if_neg (by omega)])
        clear h0
        go_wp2
        go_ret
        exact ⟨.inl ⟨HE.out, rfl⟩, HBL.out⟩
      · have e5 : (total ps != 0) = true := by simpa using h0
        have HE : Hid (rErr ps = 9) := aside (by unfold rErr; rw [if_neg HN.out, if_neg (by rw [HF.out]; decide), if_pos h0])
        clear h0
        go_wp2
        go_ret
        exact ⟨.inr ⟨by rw [HE.out]; decide, ifn HE.out⟩, HBL.out⟩
end Go.Proofs.YtippdfmmlhpkfaaDoor
