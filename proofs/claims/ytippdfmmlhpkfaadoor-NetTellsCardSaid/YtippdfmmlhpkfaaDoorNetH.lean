/- Netted: the reference's netting. Conditions: named in each theorem. -/
import Derived.Test.YtippdfmmlhpkfaaDoorNetF
import Derived.StillTailTactics
namespace Go.Proofs.YtippdfmmlhpkfaaDoor
open Go.RowKit Go.ChangeShapes Go.WideShapes Go.ChangeAt

/-- The names of debts. -/
def nmsOf (ds : List Db) : List Int := ds.flatMap fun d => [d.1, d.2.1]
theorem nmsOf_app (ds : List Db) (f t a : Int) : nmsOf (ds ++ [(f, t, a)]) = (nmsOf ds ++ [f]) ++ [t] := by simp [nmsOf]
/-- The least name above another one; -1: there is none. -/
def Nxt (last : Int) (ns : List Int) (nx : Int) : Prop := (nx = -1 ∧ ∀ x ∈ ns, x ≤ last) ∨ (last < nx ∧ nx ∈ ns ∧ ∀ x ∈ ns, last < x → nx ≤ x)
theorem Nxt.same {last nx x : Int} {ns : List Int} (h : Nxt last ns nx) (hx : ¬ last < x ∨ (0 ≤ nx ∧ nx ≤ x)) : Nxt last (ns ++ [x]) nx := by
  rcases h with ⟨rfl, h⟩ | ⟨h1, h2, h3⟩
  · refine .inl ⟨rfl, fun y hy => ?_⟩
    rcases List.mem_append.1 hy with hy | hy
    · exact h y hy
    · rw [List.mem_singleton] at hy
      subst hy
      omega
  · refine .inr ⟨h1, List.mem_append.2 (.inl h2), fun y hy hl => ?_⟩
    rcases List.mem_append.1 hy with hy | hy
    · exact h3 y hy hl
    · rw [List.mem_singleton] at hy
      subst hy
      omega
theorem Nxt.turn {last nx x : Int} {ns : List Int} (h : Nxt last ns nx) (hx : last < x) (hn : nx < 0 ∨ x < nx) (h0 : -1 ≤ last) : Nxt last (ns ++ [x]) x := by
  refine .inr ⟨hx, by simp, fun y hy hl => ?_⟩
  rcases List.mem_append.1 hy with hy | hy
  · rcases h with ⟨rfl, h⟩ | ⟨h1, h2, h3⟩
    · have := h y hy; omega
    · have := h3 y hy hl; omega
  · rw [List.mem_singleton] at hy
    omega
theorem nms_iff (ds : List Db) (x : Int) : x ∈ nmsOf ds ↔ ∃ j, j < (netL ds).length ∧ (at_ (netL ds) j).1 = x := by
  have h1 : x ∈ nmsOf ds ↔ ∃ l ∈ lnsOf ds, l.1 = x := by
    unfold nmsOf lnsOf
    constructor
    · intro h
      obtain ⟨d, hd, h⟩ := List.mem_flatMap.1 h
      simp at h
      rcases h with rfl | rfl
      · exact ⟨(d.1, -d.2.2), List.mem_flatMap.2 ⟨d, hd, by simp⟩, rfl⟩
      · exact ⟨(d.2.1, d.2.2), List.mem_flatMap.2 ⟨d, hd, by simp⟩, rfl⟩
    · rintro ⟨l, hl, rfl⟩
      obtain ⟨d, hd, hl⟩ := List.mem_flatMap.1 hl
      refine List.mem_flatMap.2 ⟨d, hd, ?_⟩
      simp at hl
      rcases hl with rfl | rfl <;> simp
  rw [h1]
  constructor
  · intro h
    have hm : (x, sumAt x (lnsOf ds)) ∈ netL ds := (mem_netL ds).2 ⟨h, rfl⟩
    obtain ⟨j, hj, e⟩ := mem_at hm
    exact ⟨j, hj, by rw [e]⟩
  · rintro ⟨j, hj, rfl⟩
    exact ((mem_netL ds (s := (at_ (netL ds) j).1) (v := (at_ (netL ds) j).2)).1 (at_mem hj)).1
theorem rises_lt {ps : List Ln} (hr : Rises ps) {i j : Nat} (hij : i < j) (hj : j < ps.length) : (at_ ps i).1 < (at_ ps j).1 := by
  have hp : (ps.map (·.1)).Pairwise (fun a b => a < b) := hr
  have e : ∀ k (hk : k < ps.length), (ps.map (·.1))[k]'(by simpa using hk) = (at_ ps k).1 := fun k hk => by
    simp [at_, List.getD_eq_getElem?_getD, List.getElem?_eq_getElem hk]
  have := List.pairwise_iff_getElem.1 hp i j (by simp; omega) (by simpa using hj) hij
  rw [e i (by omega), e j hj] at this
  exact this
/-- So many names are not above. -/
def Lst (ds : List Db) (k : Nat) (last : Int) : Prop := -1 ≤ last ∧ ∀ j, j < (netL ds).length → ((at_ (netL ds) j).1 ≤ last ↔ j < k)
theorem lst_zero {ds : List Db} (h : ∀ x ∈ nmsOf ds, 0 ≤ x) : Lst ds 0 (-1) := ⟨by omega, fun j hj => by
  have := h _ ((nms_iff ds _).2 ⟨j, hj, rfl⟩)
  omega⟩
theorem Lst.none {ds : List Db} {k : Nat} {last : Int} (h : Lst ds k last) (hk : k ≤ (netL ds).length) (hn : ∀ x ∈ nmsOf ds, x ≤ last) : k = (netL ds).length := by
  rcases Nat.lt_or_ge k (netL ds).length with h1 | h1
  · have h2 := hn _ ((nms_iff ds _).2 ⟨k, h1, rfl⟩)
    have h3 := (h.2 k h1).1 h2
    omega
  · omega
theorem Lst.next {ds : List Db} {k : Nat} {last nx : Int} (h : Lst ds k last) (h1 : last < nx) (h2 : nx ∈ nmsOf ds) (h3 : ∀ x ∈ nmsOf ds, last < x → nx ≤ x) : k < (netL ds).length ∧ (at_ (netL ds) k).1 = nx ∧ Lst ds (k + 1) nx := by
  obtain ⟨j, hj, rfl⟩ := (nms_iff ds _).1 h2
  have hkj : k ≤ j := by
    rcases Nat.lt_or_ge j k with g | g
    · have := (h.2 j hj).2 g; omega
    · exact g
  have hk : k < (netL ds).length := by omega
  have hkl : last < (at_ (netL ds) k).1 := by
    rcases Int.lt_or_le last (at_ (netL ds) k).1 with g | g
    · exact g
    · have := (h.2 k hk).1 g; omega
  have h4 := h3 _ ((nms_iff ds _).2 ⟨k, hk, rfl⟩) hkl
  have e : j = k := by
    rcases Nat.lt_or_ge k j with g | g
    · have := rises_lt (netL_rises ds) g hj; omega
    · omega
  subst e
  refine ⟨hk, rfl, by have := h.1; omega, fun i hi => ?_⟩
  rcases Nat.lt_trichotomy i j with g | g | g
  · have := rises_lt (netL_rises ds) g hj; omega
  · subst g; omega
  · have := rises_lt (netL_rises ds) g hi; omega

/-- A pile in a block, its amount set anew. -/
theorem set_box {w0 w : World} {B b o : Nat} {nx S f a : Int} (h0 : w.cell? ⟨B, 0, none⟩ = some (.int .i64 nx)) (h1 : w.cell? ⟨B, 1, none⟩ = some (.int .i64 S)) (hf : ∀ o, w.frozen? ⟨B, o, none⟩ = false) (hb : Below B w0 w) (hlt : b < B) (d0 : w.cell? ⟨b, o, none⟩ = some (.int .i64 f)) (d2 : w.cell? ⟨b, o + 2, none⟩ = some (.int .i64 a)) (x : Int) :
    (w.setCell ⟨B, 1, none⟩ (.int .i64 x)).cell? ⟨B, 0, none⟩ = some (.int .i64 nx) ∧ (w.setCell ⟨B, 1, none⟩ (.int .i64 x)).cell? ⟨B, 1, none⟩ = some (.int .i64 x) ∧ (∀ o, (w.setCell ⟨B, 1, none⟩ (.int .i64 x)).frozen? ⟨B, o, none⟩ = false) ∧ Below B w0 (w.setCell ⟨B, 1, none⟩ (.int .i64 x)) ∧
    (w.setCell ⟨B, 1, none⟩ (.int .i64 x)).cell? ⟨b, o, none⟩ = some (.int .i64 f) ∧ (w.setCell ⟨B, 1, none⟩ (.int .i64 x)).cell? ⟨b, o + 2, none⟩ = some (.int .i64 a) := by
  refine ⟨?_, World.cell?_setCell_same _ _ _ h1, fun k => ?_, hb.setCell (Nat.le_refl _) _, ?_, ?_⟩
  · rw [World.cell?_setCell_other _ _ _ _ (by intro e; injection e with _ e; omega), h0]
  · simp [go_sem, hf]
  · rw [World.cell?_setCell_other _ _ _ _ (by intro e; injection e with e; omega), d0]
  · rw [World.cell?_setCell_other _ _ _ _ (by intro e; injection e with e; omega), d2]
theorem at_netL {ds : List Db} {k : Nat} {nx : Int} (hk : k < (netL ds).length) (h : (at_ (netL ds) k).1 = nx) : (netL ds).getD k (0, 0) = (nx, sumAt nx (lnsOf ds)) := by
  have h2 := ((mem_netL ds (s := (at_ (netL ds) k).1) (v := (at_ (netL ds) k).2)).1 (at_mem hk)).2
  rw [h] at h2
  show at_ (netL ds) k = _
  exact Prod.ext h h2
/-- What Netted leaves. -/
def NettedPost (ds : List Db) (w : World) (e : Ending) (w' : World) : Prop :=
  ((nErr ds = 0 ∧ ∃ A c, e = .returned (.tuple #[.slice A (netL ds).length c, .int .i64 0]) ∧ PSl w' w'.heap.size A (netL ds).length (netL ds)) ∨
    (nErr ds ≠ 0 ∧ e = .returned (.tuple #[.slice none 0 0, .int .i64 (nErr ds)]))) ∧ Below w.heap.size w w'
theorem ret2n {A : Option Addr} {n c : Nat} {a b : Int} (h : b = a) : Ending.returned (.tuple #[.slice A n c, .int .i64 a]) = .returned (.tuple #[.slice A n c, .int .i64 b]) := by rw [h]
theorem ways (last nx x : Int) : (¬ last < x) ∨ (last < x ∧ nx < 0) ∨ (last < x ∧ ¬ nx < 0 ∧ x < nx) ∨ (last < x ∧ ¬ nx < 0 ∧ ¬ x < nx) := by omega

set_option maxHeartbeats 16000000 in
set_option maxRecDepth 100000 in
theorem netted_ref (ds : List Db) (A : Option Addr) (n c : Nat) (w : World) (h : DSl w w.heap.size A n ds) :
    Calls Tryd.prog 8 #[.slice A n c] w (NettedPost ds w) := by
  have hlen := DSl.len3 h
  have HD := aside h
  go_enter Tryd.func8, Tryd.ntmps8
  go_wp2_with fail
  refine (debtsFault_any ds A n c _ h).mono ?_
  rintro e w' ⟨rfl, rfl⟩
  by_cases hd : dErr ds = 0
  rotate_left
  · have hd' : (dErr ds != 0) = true := by simpa using hd
    have HE := aside hd
    have he : nErr ds = dErr ds := by unfold nErr; rw [if_neg hd]
    have HN := aside he
    clear hd he
    go_wp2
    go_ret2
    exact ⟨.inr ⟨by rw [HN.out]; exact HE.out, ret2n HN.out⟩, Below.refl _ _⟩
  obtain ⟨h100, hok⟩ := dErr_zero hd
  have HE := aside hd
  have HOk := aside hok
  have hd' : (dErr ds != 0) = false := by simp [hd]
  have hn100 : n ≤ 100 := by omega
  have HNn : Hid (∀ x ∈ nmsOf ds, 0 ≤ x) := aside (by
    intro x hx
    obtain ⟨d, hdm, hx⟩ := List.mem_flatMap.1 hx
    have := hok d hdm
    simp at hx
    rcases hx with rfl | rfl
    · exact this.1
    · exact this.2.1)
  have hM200 : (netL ds).length ≤ 200 := by
    have := netD_size ds
    rw [netL_len]
    omega
  clear hd hok h100 h
  go_wp2_with fail
  go_loopw [5, 6] (fun v5 v6 wr => ∃ (k : Nat) (last : Int) (A' : Option Addr) (c' : Nat), k ≤ (netL ds).length ∧ v5 = .slice A' k c' ∧ v6 = .int .i64 last ∧ Hid (Lst ds k last) ∧ Hid (wr.ownsRow w'.heap.size 44 2 (.slice A' k c') k (((netL ds).take k).flatMap plV)) ∧ Below w'.heap.size w' wr) (fun v5 _ _ => 200 - lenOf v5)
  case atStart => exact ⟨0, -1, none, 0, Nat.zero_le _, rfl, rfl, aside (lst_zero HNn.out), aside ⟨by simp, .inl ⟨rfl, rfl⟩⟩, Below.refl _ _⟩
  case round =>
    obtain ⟨k, last, A1, c1, hk, rfl, rfl, HL, HR, hb⟩ := hrel
    have HBr := aside hb
    have hbz := hb.size
    have hl0 : -1 ≤ last := HL.out.1
    clear hb
    go_wp2_with fail
    go_loop [7, 8] (fun v7 v8 => ∃ (i : Nat) (nx : Int), i ≤ n ∧ v8 = .int .i64 i ∧ v7 = .int .i64 nx ∧ Hid (Nxt last (nmsOf (ds.take i)) nx)) (fun _ v8 => n - (Go.RowKit.intOf v8).toNat)
    case atStart => exact ⟨0, -1, Nat.zero_le _, rfl, rfl, aside (.inl ⟨rfl, fun x hx => by simp [nmsOf] at hx⟩)⟩
    case round =>
      obtain ⟨i, nx, hi, rfl, rfl, HX⟩ := hrel
      by_cases i1 : i < n
      · obtain ⟨b, off, hA, hlt, c0, c1', c2'⟩ := DSl.at3 HD.out i1
        subst hA
        have HT := aside (take_next (ls := ds) (k := i) (0, 0, 0) (by omega))
        generalize ds.getD i (0, 0, 0) = p at c0 c1' c2' HT
        obtain ⟨f, t, a⟩ := p
        simp only [] at c0 c1' c2'
        have d0 := (HBr.out.cell (p := ⟨b, off + i * 3, none⟩) hlt).trans c0
        have d1 := (HBr.out.cell (p := ⟨b, off + i * 3 + 1, none⟩) hlt).trans c1'
        have l0 : b < wr.heap.size := by omega
        have e1 : (i : Int) < (n : Int) := by omega
        have e2 : (0 : Int) ≤ (i : Int) := by omega
        clear c0 c1' c2'
        have HF : Hid (∀ z, Nxt last ((nmsOf (ds.take i) ++ [f]) ++ [t]) z → Nxt last (nmsOf (ds.take (i + 1))) z) := aside fun z hz => by rw [HT.out, nmsOf_app]; exact hz
        rcases ways last nx f with g1 | ⟨g1, g2⟩ | ⟨g1, g2, g3⟩ | ⟨g1, g2, g3⟩
        · have HX1 := aside (HX.out.same (x := f) (.inl g1))
          have p1 : (last < f) = False := by simp only [eq_iff_iff, iff_false]; exact g1
          clear g1
          rcases ways last nx t with k1 | ⟨k1, k2⟩ | ⟨k1, k2, k3⟩ | ⟨k1, k2, k3⟩
          · have HX2 := aside (HF.out _ (HX1.out.same (x := t) (.inl k1)))
            have q1 : (last < t) = False := by simp only [eq_iff_iff, iff_false]; exact k1
            clear k1
            go_wp2
            go_round
            case rel => exact ⟨i + 1, nx, by omega, by go_num, rfl, HX2⟩
            case measure => simp [Go.RowKit.intOf]; omega
          · have HX2 := aside (HF.out _ (HX1.out.turn k1 (.inl k2) hl0))
            go_wp2
            go_round
            case rel => exact ⟨i + 1, t, by omega, by go_num, rfl, HX2⟩
            case measure => simp [Go.RowKit.intOf]; omega
          · have HX2 := aside (HF.out _ (HX1.out.turn k1 (.inr k3) hl0))
            have q2 : (nx < 0) = False := by simp only [eq_iff_iff, iff_false]; exact k2
            clear k2
            go_wp2
            go_round
            case rel => exact ⟨i + 1, t, by omega, by go_num, rfl, HX2⟩
            case measure => simp [Go.RowKit.intOf]; omega
          · have HX2 := aside (HF.out _ (HX1.out.same (x := t) (.inr ⟨by omega, by omega⟩)))
            have q2 : (nx < 0) = False := by simp only [eq_iff_iff, iff_false]; exact k2
            have q3 : (t < nx) = False := by simp only [eq_iff_iff, iff_false]; exact k3
            clear k2 k3
            go_wp2
            go_round
            case rel => exact ⟨i + 1, nx, by omega, by go_num, rfl, HX2⟩
            case measure => simp [Go.RowKit.intOf]; omega
        rotate_left 2
        · have HX1 := aside (HX.out.same (x := f) (.inr ⟨by omega, by omega⟩))
          have p2 : (nx < 0) = False := by simp only [eq_iff_iff, iff_false]; exact g2
          have p3 : (f < nx) = False := by simp only [eq_iff_iff, iff_false]; exact g3
          have hn0 : 0 ≤ nx := by omega
          clear g2 g3
          rcases ways last nx t with k1 | ⟨k1, k2⟩ | ⟨k1, k2, k3⟩ | ⟨k1, k2, k3⟩
          · have HX2 := aside (HF.out _ (HX1.out.same (x := t) (.inl k1)))
            have q1 : (last < t) = False := by simp only [eq_iff_iff, iff_false]; exact k1
            clear k1
            go_wp2
            go_round
            case rel => exact ⟨i + 1, nx, by omega, by go_num, rfl, HX2⟩
            case measure => simp [Go.RowKit.intOf]; omega
          · omega
          · have HX2 := aside (HF.out _ (HX1.out.turn k1 (.inr k3) hl0))
            clear k2
            go_wp2
            go_round
            case rel => exact ⟨i + 1, t, by omega, by go_num, rfl, HX2⟩
            case measure => simp [Go.RowKit.intOf]; omega
          · have HX2 := aside (HF.out _ (HX1.out.same (x := t) (.inr ⟨by omega, by omega⟩)))
            have q3 : (t < nx) = False := by simp only [eq_iff_iff, iff_false]; exact k3
            clear k2 k3
            go_wp2
            go_round
            case rel => exact ⟨i + 1, nx, by omega, by go_num, rfl, HX2⟩
            case measure => simp [Go.RowKit.intOf]; omega
        all_goals
          have HX1 : Hid (Nxt last (nmsOf (ds.take i) ++ [f]) f) := aside (HX.out.turn g1 (by omega) hl0)
          have hf0 : 0 ≤ f := by omega
          have pf : (f < 0) = False := by simp only [eq_iff_iff, iff_false]; omega
          have hp2 : (nx < 0) ∨ ((nx < 0) = False ∧ f < nx) := by
            rcases Int.lt_or_le nx 0 with g | g
            · exact .inl g
            · exact .inr ⟨by simp only [eq_iff_iff, iff_false]; omega, by omega⟩
          clear g2
          try clear g3
          rcases hp2 with p2 | ⟨p2, p3⟩
          all_goals
            rcases ways last f t with k1 | ⟨k1, k2⟩ | ⟨k1, k2, k3⟩ | ⟨k1, k2, k3⟩
            · have HX2 := aside (HF.out _ (HX1.out.same (x := t) (.inl k1)))
              have q1 : (last < t) = False := by simp only [eq_iff_iff, iff_false]; exact k1
              clear k1
              go_wp2
              go_round
              case rel => exact ⟨i + 1, f, by omega, by go_num, rfl, HX2⟩
              case measure => simp [Go.RowKit.intOf]; omega
            · omega
            · have HX2 := aside (HF.out _ (HX1.out.turn k1 (.inr k3) hl0))
              clear k2
              go_wp2
              go_round
              case rel => exact ⟨i + 1, t, by omega, by go_num, rfl, HX2⟩
              case measure => simp [Go.RowKit.intOf]; omega
            · have HX2 := aside (HF.out _ (HX1.out.same (x := t) (.inr ⟨by omega, by omega⟩)))
              have q3 : (t < f) = False := by simp only [eq_iff_iff, iff_false]; exact k3
              clear k2 k3
              go_wp2
              go_round
              case rel => exact ⟨i + 1, f, by omega, by go_num, rfl, HX2⟩
              case measure => simp [Go.RowKit.intOf]; omega
      · have e1 : ((i : Int) < (n : Int)) = False := by simp only [eq_iff_iff, iff_false]; omega
        obtain rfl : i = n := by omega
        rw [List.take_of_length_le (by omega)] at HX
        rcases HX.out with ⟨rfl, hno⟩ | ⟨g1, g2, g3⟩
        · have hkM := HL.out.none hk hno
          subst hkM
          have HR1 := HR.out
          rw [List.take_length] at HR1
          have HRR := aside HR1
          have hnn : nErr ds = if 60 < (netL ds).length then 4 else 0 := by unfold nErr; rw [if_pos HE.out]
          have HNN := aside hnn
          clear hno hnn HR1
          by_cases h60 : 60 < (netL ds).length
          · have h60' : (60 : Int) < ((netL ds).length : Int) := by omega
            have HQ : Hid (nErr ds = 4) := aside (by rw [HNN.out, if_pos h60])
            go_wp2
            go_ret2
            exact ⟨.inr ⟨by rw [HQ.out]; decide, ret2n HQ.out⟩, HBr.out⟩
          · have h60' : ((60 : Int) < ((netL ds).length : Int)) = False := by simp only [eq_iff_iff, iff_false]; omega
            have HQ : Hid (nErr ds = 0) := aside (by rw [HNN.out, if_neg h60])
            go_wp2
            go_ret2
            exact ⟨.inl ⟨HQ.out, A1, c1, rfl, Sl.own HRR.out⟩, HBr.out⟩
        obtain ⟨hkM, hkn, hLn⟩ := HL.out.next g1 g2 g3
        have HKn := aside hkn
        have HLn := aside hLn
        have hn0 : (nx < 0) = False := by simp only [eq_iff_iff, iff_false]; omega
        have HFb : Hid (∀ j : Nat, -((j : Int) * 2251799813685248) ≤ sumAt nx (lnsOf (ds.take j)) ∧ sumAt nx (lnsOf (ds.take j)) ≤ (j : Int) * 2251799813685248) := aside (fun j => by
          have h1 := netF_bnd (ds := ds.take j) (fun d hd => HOk.out d (List.mem_of_mem_take hd)) nx
          rw [netF_eq] at h1
          have h2 : (ds.take j).length ≤ j := by simp; omega
          omega)
        clear g1 g2 g3 hkn hLn
        go_wp2_with fail
        obtain ⟨w0, rfl⟩ : ∃ w0, w0 = wr := ⟨_, rfl⟩
        have hB1 : Below w0.heap.size w0 (w0.alloc (.cells #[.int .i64 nx, .int .i64 0] 44)) := (Below.refl _ _).alloc (Nat.le_refl _) _
        obtain ⟨W0, hW0⟩ : ∃ W0, W0 = w0.alloc (.cells #[.int .i64 nx, .int .i64 0] 44) := ⟨_, rfl⟩
        have k0 : W0.cell? ⟨w0.heap.size, 0, none⟩ = some (.int .i64 nx) := by rw [hW0]; exact World.cell?_alloc_at _ _ _ _ rfl
        have k1 : W0.cell? ⟨w0.heap.size, 1, none⟩ = some (.int .i64 0) := by rw [hW0]; exact World.cell?_alloc_at _ _ _ _ rfl
        have kf : ∀ o, W0.frozen? ⟨w0.heap.size, o, none⟩ = false := fun o => by rw [hW0]; exact World.frozen?_alloc_at _ _ _ _ (by simp)
        have kz : W0.heap.size = w0.heap.size + 1 := by rw [hW0]; simp
        rw [← hW0] at hB1 ⊢
        have HKf := aside kf
        have HB1 := aside hB1
        clear hW0 hB1 kf
        go_loopw [10] (fun v10 wq => ∃ (j : Nat), j ≤ i ∧ v10 = .int .i64 j ∧ wq.cell? ⟨w0.heap.size, 0, none⟩ = some (.int .i64 nx) ∧ wq.cell? ⟨w0.heap.size, 1, none⟩ = some (.int .i64 (sumAt nx (lnsOf (ds.take j)))) ∧ Hid (∀ o, wq.frozen? ⟨w0.heap.size, o, none⟩ = false) ∧ w0.heap.size < wq.heap.size ∧ Below w0.heap.size w0 wq) (fun v10 _ => i - (Go.RowKit.intOf v10).toNat)
        case atStart => exact ⟨0, Nat.zero_le _, rfl, k0, by simpa [lnsOf, sumAt] using k1, HKf, by omega, HB1.out⟩
        case round =>
          obtain ⟨j, hj, rfl, m0, m1, HMf, mz, hb2⟩ := hrel
          have HB2 := aside hb2
          have hbz2 := hb2.size
          clear k0 k1
          by_cases j1 : j < i
          · obtain ⟨b, off, hA, hlt, c0, c1', c2'⟩ := DSl.at3 HD.out j1
            subst hA
            have HT := aside (take_next (ls := ds) (k := j) (0, 0, 0) (by omega))
            have hdb := HOk.out _ (getD_mem (ls := ds) (k := j) (0, 0, 0) (by omega))
            generalize ds.getD j (0, 0, 0) = p at c0 c1' c2' HT hdb
            obtain ⟨f, t, a⟩ := p
            have hmy := hdb.2.2
            simp only [] at c0 c1' c2' hmy
            unfold Money at hmy
            have d0 := (hb2.cell (p := ⟨b, off + j * 3, none⟩) (by show b < w0.heap.size; omega)).trans ((HBr.out.cell (p := ⟨b, off + j * 3, none⟩) hlt).trans c0)
            have d1 := (hb2.cell (p := ⟨b, off + j * 3 + 1, none⟩) (by show b < w0.heap.size; omega)).trans ((HBr.out.cell (p := ⟨b, off + j * 3 + 1, none⟩) hlt).trans c1')
            have d2 := (hb2.cell (p := ⟨b, off + j * 3 + 2, none⟩) (by show b < w0.heap.size; omega)).trans ((HBr.out.cell (p := ⟨b, off + j * 3 + 2, none⟩) hlt).trans c2')
            have l0 : b < wr.heap.size := by omega
            have l1 : b < w0.heap.size := by omega
            have e2 : (j : Int) < (i : Int) := by omega
            have e3 : (0 : Int) ≤ (j : Int) := by omega
            have mf := HMf.out 1
            have HSum : Hid (sumAt nx (lnsOf (ds.take (j + 1))) = sumAt nx (lnsOf (ds.take j)) + (if nx = t then a else 0) + (if nx = f then -a else 0)) := aside (by
              rw [HT.out, lnsOf_app]
              have app : ∀ (xs : List Ln) (p : Ln), sumAt nx (xs ++ [p]) = sumAt nx xs + (if nx = p.1 then p.2 else 0) := by
                intro xs p
                induction xs with
                | nil => simp [sumAt]
                | cons x r ih => simp only [List.cons_append, sumAt, ih]; omega
              rw [app, app])
            have hbj := HFb.out j
            obtain ⟨S, hS⟩ : ∃ S, S = sumAt nx (lnsOf (ds.take j)) := ⟨_, rfl⟩
            rw [← hS] at m1 hbj
            have HS := aside hS
            clear c0 c1' c2' hdb hS hb2
            by_cases ht : t = nx
            · have ht' : (t == nx) = true := by simpa using ht
              have HW1 : Hid (IntKind.i64.wrap (S + a) = S + a) := aside (by rw [IntKind.wrap_i64]; omega)
              have hw1 := HW1.out
              go_wp2_with fail
              go_still_tail 9, (by kernel_rfl)
              clear hw1
              change wpList _ _ _ _ _ wr.drew
              have M0 : wr.drew.cell? ⟨w0.heap.size, 0, none⟩ = some (.int .i64 nx) := m0
              have M1 : wr.drew.cell? ⟨w0.heap.size, 1, none⟩ = some (.int .i64 S) := m1
              have MF : wr.drew.frozen? ⟨w0.heap.size, 1, none⟩ = false := mf
              have D0 : wr.drew.cell? ⟨b, off + j * 3, none⟩ = some (.int .i64 f) := d0
              have D2 : wr.drew.cell? ⟨b, off + j * 3 + 2, none⟩ = some (.int .i64 a) := d2
              have L0 : b < wr.drew.heap.size := l0
              have MZ : w0.heap.size < wr.drew.heap.size := mz
              have HMF : Hid (∀ o, wr.drew.frozen? ⟨w0.heap.size, o, none⟩ = false) := HMf
              have HB3 : Hid (Below w0.heap.size w0 wr.drew) := aside (below_drawn HB2.out 1)
              clear m0 m1 mf d0 d1 d2 l0 mz HMf HB2 hbz2
              generalize wr.drew = w5 at M0 M1 MF D0 D2 L0 MZ HMF HB3 ⊢
              have hU := set_box M0 M1 HMF.out HB3.out (show b < w0.heap.size from l1) D0 D2 (S + a)
              by_cases hf : f = nx
              · have hf' : (f == nx) = true := by simpa using hf
                have HSm : Hid (sumAt nx (lnsOf (ds.take (j + 1))) = S) := aside (by rw [HSum.out, if_pos ht.symm, if_pos hf.symm, HS.out]; omega)
                clear ht hf
                go_wp2_with fail
                obtain ⟨N0, N1, NF, NB, E0, E2⟩ := hU
                have NFo := NF 1
                have HNF := aside NF
                have HNB := aside NB
                have LZ : w0.heap.size < (w5.setCell ⟨w0.heap.size, 1, none⟩ (.int .i64 (S + a))).heap.size := by simpa using MZ
                have LB : b < (w5.setCell ⟨w0.heap.size, 1, none⟩ (.int .i64 (S + a))).heap.size := by simpa using L0
                clear M0 M1 MF D0 D2 L0 MZ HMF HB3 NF NB
                generalize w5.setCell ⟨w0.heap.size, 1, none⟩ (.int .i64 (S + a)) = w6 at N0 N1 NFo HNF HNB E0 E2 LZ LB ⊢
                have HW2 : Hid (IntKind.i64.wrap (S + a - a) = S) := aside (by rw [IntKind.wrap_i64]; omega)
                have hw2 := HW2.out
                go_still_tail 9, (by kernel_rfl)
                clear hw2
                change wpList _ _ _ _ _ w6.drew
                have hV := set_box (w := w6.drew) N0 N1 HNF.out (below_drawn HNB.out 1) (show b < w0.heap.size from l1) E0 E2 S
                have P1 : w6.drew.cell? ⟨w0.heap.size, 1, none⟩ = some (.int .i64 (S + a)) := N1
                have PF : w6.drew.frozen? ⟨w0.heap.size, 1, none⟩ = false := NFo
                have PZ : w0.heap.size < w6.drew.heap.size := LZ
                clear N0 N1 NFo HNF HNB E0 E2 LZ LB
                generalize w6.drew = w7 at hV P1 PF PZ ⊢
                go_wp2
                obtain ⟨Q0, Q1, QF, QB, -, -⟩ := hV
                exact ⟨⟨j + 1, by omega, by go_num, Q0, by rw [HSm.out]; exact Q1, aside QF, by simpa using PZ, QB⟩, by simp [Go.RowKit.intOf]; omega⟩
              · have hf' : (f == nx) = false := by simpa using hf
                have HSm : Hid (sumAt nx (lnsOf (ds.take (j + 1))) = S + a) := aside (by rw [HSum.out, if_pos ht.symm, if_neg (fun e => hf e.symm), HS.out]; omega)
                clear ht hf
                go_wp2
                obtain ⟨N0, N1, NF, NB, -, -⟩ := hU
                exact ⟨⟨j + 1, by omega, by go_num, N0, by rw [HSm.out]; exact N1, aside NF, by simpa using MZ, NB⟩, by simp [Go.RowKit.intOf]; omega⟩
            · have ht' : (t == nx) = false := by simpa using ht
              by_cases hf : f = nx
              · have hf' : (f == nx) = true := by simpa using hf
                have HSm : Hid (sumAt nx (lnsOf (ds.take (j + 1))) = S + -a) := aside (by rw [HSum.out, if_neg (fun e => ht e.symm), if_pos hf.symm, HS.out]; omega)
                clear ht hf
                go_wp2_with fail
                have HW2 : Hid (IntKind.i64.wrap (S - a) = S + -a) := aside (by rw [IntKind.wrap_i64]; omega)
                have hw2 := HW2.out
                go_still_tail 9, (by kernel_rfl)
                clear hw2
                change wpList _ _ _ _ _ wr.drew
                have hV := set_box (w := wr.drew) m0 m1 HMf.out (below_drawn HB2.out 1) (show b < w0.heap.size from l1) d0 d2 (S + -a)
                have P1 : wr.drew.cell? ⟨w0.heap.size, 1, none⟩ = some (.int .i64 S) := m1
                have PF : wr.drew.frozen? ⟨w0.heap.size, 1, none⟩ = false := mf
                have PZ : w0.heap.size < wr.drew.heap.size := mz
                clear m0 m1 mf d0 d1 d2 l0 mz HMf HB2 hbz2
                generalize wr.drew = w7 at hV P1 PF PZ ⊢
                go_wp2
                obtain ⟨Q0, Q1, QF, QB, -, -⟩ := hV
                exact ⟨⟨j + 1, by omega, by go_num, Q0, by rw [HSm.out]; exact Q1, aside QF, by simpa using PZ, QB⟩, by simp [Go.RowKit.intOf]; omega⟩
              · have hf' : (f == nx) = false := by simpa using hf
                have HSm : Hid (sumAt nx (lnsOf (ds.take (j + 1))) = S) := aside (by rw [HSum.out, if_neg (fun e => ht e.symm), if_neg (fun e => hf e.symm), HS.out]; omega)
                clear ht hf
                go_wp2
                exact ⟨⟨j + 1, by omega, by go_num, m0, by rw [HSm.out]; exact m1, HMf, mz, HB2.out⟩, by simp [Go.RowKit.intOf]; omega⟩
          · have e2 : ((j : Int) < (i : Int)) = False := by simp only [eq_iff_iff, iff_false]; omega
            obtain rfl : j = i := by omega
            rw [List.take_of_length_le (by omega)] at m1
            have HM1 := aside m1
            have hbw : Below w'.heap.size w' wr := HBr.out.trans (HB2.out.mono hbz)
            have HBw := aside hbw
            have HR2 := aside (own_below HR.out HB2.out)
            have hz3 : w'.heap.size ≤ wr.heap.size := hbw.size
            have HT : Hid ((netL ds).take (k + 1) = (netL ds).take k ++ [(nx, sumAt nx (lnsOf ds))]) := aside (by
              rw [take_next (0, 0) hkM, at_netL hkM HKn.out])
            clear hbw hb2
            go_wp2_with (first
              | (at_builtin; refine wpList_push rfl (.tmp 114) (.tmp 116) 23 rfl w'.heap.size _ 2 16 Tryd.underlying23 pileInfo rfl (by decide) (.slice A1 k c1) k _ rfl rfl rfl rfl HR2.out (by omega) (by unfold maxLen; omega) hz3 ?_; intro A3 c3 w3 hc3 hc3' hown3 hb3 hz3' hg3)
              | fail)
            have HO3 := aside hown3
            have H3 := aside (HBw.out.trans hb3)
            clear hown3 hb3 hg3
            exact ⟨⟨k + 1, nx, A3, c3, hkM, rfl, rfl, HLn, aside (by rw [HT.out, flatP_app]; exact HO3.out), H3.out⟩, by show 200 - (k + 1) < 200 - k; omega⟩
end Go.Proofs.YtippdfmmlhpkfaaDoor
