/- A set's part is a set: the plain laws. Conditions: named in each theorem. -/
import Derived.Test.YtmhekoalhlfjoaaGreatDoorSumA
namespace Go.Proofs.YtmhekoalhlfjoaaGreatDoor
open Go.RowKit Go.ChangeShapes Go.WideShapes Go.ChangeAt

theorem cb_trans : ∀ a b c : List UInt8, Lib.compareBytes a b ≤ 0 → Lib.compareBytes b c ≤ 0 → Lib.compareBytes a c ≤ 0 ∧ (Lib.compareBytes a b < 0 ∨ Lib.compareBytes b c < 0 → Lib.compareBytes a c < 0)
  | [], [], c, _, h2 => ⟨h2, fun h => h.elim (fun h => by simp [Lib.compareBytes] at h) id⟩
  | [], _ :: _, [], _, h2 => by simp [Lib.compareBytes] at h2
  | [], _ :: _, _ :: _, _, _ => ⟨by simp [Lib.compareBytes], fun _ => by simp [Lib.compareBytes]⟩
  | _ :: _, [], _, h1, _ => by simp [Lib.compareBytes] at h1
  | _ :: _, _ :: _, [], _, h2 => by simp [Lib.compareBytes] at h2
  | x :: xs, y :: ys, z :: zs, h1, h2 => by
    have ih := cb_trans xs ys zs
    unfold Lib.compareBytes at h1 h2 ⊢
    simp only [UInt8.lt_iff_toNat_lt] at h1 h2 ⊢
    generalize x.toNat = p at *
    generalize y.toNat = q at *
    generalize z.toNat = r at *
    generalize Lib.compareBytes xs ys = A at *
    generalize Lib.compareBytes ys zs = B at *
    generalize Lib.compareBytes xs zs = C at *
    by_cases e1 : p < q
    · rw [if_pos e1] at h1 ⊢
      by_cases e2 : q < r
      · rw [if_pos (by omega : p < r)]
        omega
      · rw [if_neg e2] at h2
        by_cases e3 : r < q
        · rw [if_pos e3] at h2; omega
        · rw [if_pos (by omega : p < r)]
          omega
    · rw [if_neg e1] at h1 ⊢
      by_cases e2 : q < p
      · rw [if_pos e2] at h1; omega
      · rw [if_neg e2] at h1 ⊢
        obtain rfl : p = q := by omega
        by_cases e3 : p < r
        · rw [if_pos e3] at h2 ⊢
          rw [if_pos e3]
          omega
        · rw [if_neg e3] at h2 ⊢
          rw [if_neg e3]
          by_cases e4 : r < p
          · rw [if_pos e4] at h2; omega
          · rw [if_neg e4] at h2 ⊢
            rw [if_neg e4]
            exact ih h1 h2
theorem cmpP_neg {t t' : List Nat} {a a' : Int} : cmpP t a t' a' < 0 ↔ cmpY t t' < 0 ∨ (cmpY t t' = 0 ∧ a < a') := by
  unfold cmpP orL orL orL
  by_cases h : cmpY t t' = 0
  · rw [if_neg (by simp [h])]
    unfold cmpI
    (repeat' split) <;> simp_all <;> omega
  · rw [if_pos h]
    omega
theorem cmpP_trans {t1 t2 t3 : List Nat} {a1 a2 a3 : Int} (h1 : cmpP t1 a1 t2 a2 < 0) (h2 : cmpP t2 a2 t3 a3 < 0) : cmpP t1 a1 t3 a3 < 0 := by
  rw [cmpP_neg] at h1 h2 ⊢
  unfold cmpY at *
  have := cb_trans (Lib.bytesOf (t1.map Int.ofNat)) (Lib.bytesOf (t2.map Int.ofNat)) (Lib.bytesOf (t3.map Int.ofNat)) (by omega) (by omega)
  omega
theorem chk_cons {p c : RCoin} {r : List RCoin} : chkQ (some p) (c :: r) = 0 ↔ cmpP p.tx p.at_ c.tx c.at_ < 0 ∧ coinQ c = 0 ∧ chkQ (some c) r = 0 := by
  show (if 0 ≤ cmpP p.tx p.at_ c.tx c.at_ then (6 : Int) else if coinQ c ≠ 0 then coinQ c else chkQ (some c) r) = 0 ↔ _
  by_cases h1 : 0 ≤ cmpP p.tx p.at_ c.tx c.at_
  · rw [if_pos h1]
    omega
  · rw [if_neg h1]
    by_cases h2 : coinQ c = 0
    · rw [if_neg (by simp [h2])]
      exact ⟨fun h => ⟨by omega, h2, h⟩, fun h => h.2.2⟩
    · rw [if_pos h2]
      exact ⟨fun h => absurd h h2, fun h => absurd h.2.1 h2⟩
theorem chk_none {c : RCoin} {r : List RCoin} : chkQ none (c :: r) = 0 ↔ coinQ c = 0 ∧ chkQ (some c) r = 0 := by
  show (if coinQ c ≠ 0 then coinQ c else chkQ (some c) r) = 0 ↔ _
  by_cases h2 : coinQ c = 0
  · rw [if_neg (by simp [h2])]
    exact ⟨fun h => ⟨h2, h⟩, fun h => h.2⟩
  · rw [if_pos h2]
    exact ⟨fun h => absurd h h2, fun h => absurd h.1 h2⟩
theorem chk_nil (o : Option RCoin) : chkQ o [] = 0 := by cases o <;> rfl
theorem chk_less {p q : RCoin} : ∀ {cs : List RCoin}, chkQ (some q) cs = 0 → cmpP p.tx p.at_ q.tx q.at_ < 0 → chkQ (some p) cs = 0
  | [], _, _ => chk_nil _
  | c :: r, h, hp => by
    obtain ⟨h1, h2, h3⟩ := chk_cons.1 h
    exact chk_cons.2 ⟨cmpP_trans hp h1, h2, h3⟩
theorem chk_filter (f : RCoin → Bool) : ∀ {cs : List RCoin} {p : RCoin}, chkQ (some p) cs = 0 → chkQ (some p) (cs.filter f) = 0
  | [], _, _ => chk_nil _
  | c :: r, p, h => by
    obtain ⟨h1, h2, h3⟩ := chk_cons.1 h
    have ih := chk_filter f h3
    cases hf : f c with
    | true =>
      rw [List.filter_cons_of_pos hf]
      exact chk_cons.2 ⟨h1, h2, ih⟩
    | false =>
      rw [List.filter_cons_of_neg (by simp [hf])]
      exact chk_less ih h1
theorem chk_drop {c : RCoin} : ∀ {cs : List RCoin}, chkQ (some c) cs = 0 → chkQ none cs = 0
  | [], _ => chk_nil _
  | x :: r, h => by
    obtain ⟨_, h2, h3⟩ := chk_cons.1 h
    exact chk_none.2 ⟨h2, h3⟩
theorem chk_filter0 (f : RCoin → Bool) : ∀ {cs : List RCoin}, chkQ none cs = 0 → chkQ none (cs.filter f) = 0
  | [], _ => chk_nil _
  | c :: r, h => by
    obtain ⟨h2, h3⟩ := chk_none.1 h
    have ih := chk_filter f h3
    cases hf : f c with
    | true =>
      rw [List.filter_cons_of_pos hf]
      exact chk_none.2 ⟨h2, ih⟩
    | false =>
      rw [List.filter_cons_of_neg (by simp [hf])]
      exact chk_drop ih
theorem set_zero {cs : List RCoin} : setQ cs = 0 ↔ cs.length ≤ 1000 ∧ chkQ none cs = 0 := by
  unfold setQ
  by_cases h : 1000 < cs.length
  · rw [if_pos h]
    omega
  · rw [if_neg h]
    exact ⟨fun h2 => ⟨by omega, h2⟩, fun h2 => h2.2⟩
theorem set_filter (f : RCoin → Bool) {cs : List RCoin} (h : setQ cs = 0) : setQ (cs.filter f) = 0 := by
  rw [set_zero] at h ⊢
  exact ⟨Nat.le_trans (List.length_filter_le _ _) h.1, chk_filter0 f h.2⟩
theorem chk_each : ∀ {cs : List RCoin} {o : Option RCoin}, chkQ o cs = 0 → ∀ c ∈ cs, coinQ c = 0
  | [], _, _, _, hc => by cases hc
  | x :: r, none, h, c, hc => by
    obtain ⟨h2, h3⟩ := chk_none.1 h
    rcases List.mem_cons.1 hc with rfl | hc
    · exact h2
    · exact chk_each h3 c hc
  | x :: r, some p, h, c, hc => by
    obtain ⟨_, h2, h3⟩ := chk_cons.1 h
    rcases List.mem_cons.1 hc with rfl | hc
    · exact h2
    · exact chk_each h3 c hc
theorem coin_zero {c : RCoin} (h : coinQ c = 0) : moneyE c.amt = 0 ∧ lkQ c.pl = 0 := by
  unfold coinQ at h
  split at h
  · omega
  · split at h
    · exact absurd h (by assumption)
    · rename_i h2
      exact ⟨Classical.not_not.1 h2, h⟩
theorem orL_zero : ∀ {l : List Int}, orL l = 0 → ∀ x ∈ l, x = 0
  | [], _, x, hx => by cases hx
  | a :: r, h, x, hx => by
    unfold orL at h
    by_cases ha : a = 0
    · rw [if_neg (by simp [ha])] at h
      rcases List.mem_cons.1 hx with rfl | hx
      · exact ha
      · exact orL_zero h x hx
    · rw [if_pos ha] at h
      exact absurd h ha
theorem op_small {o : POp} (h : opP o = 0) : o.2.2.length ≤ 300 := by
  unfold opP opQ at h
  (repeat' split at h) <;> omega
theorem lk_small {l : List POp} (h : lkQ l = 0) : l.length ≤ 60 ∧ ∀ o ∈ l, o.2.2.length ≤ 300 := by
  unfold lkQ at h
  by_cases h1 : 60 < l.length
  · rw [if_pos h1] at h; omega
  · rw [if_neg h1] at h
    by_cases h2 : orL (l.map opP) = 0
    · exact ⟨by omega, fun o ho => op_small (orL_zero h2 _ (List.mem_map_of_mem ho))⟩
    · rw [if_pos h2] at h
      exact absurd h h2
theorem set_small {w : World} {B n : Nat} {A : Option Addr} {cs : List RCoin} (hc : CSl w B A n cs) (h : setQ cs = 0) : n ≤ 1000 ∧ ∀ r ∈ cs, r.ln ≤ 60 ∧ ∀ o ∈ r.lk, o.dn ≤ 300 := by
  obtain ⟨h1, h2⟩ := set_zero.1 h
  refine ⟨by rw [← hc.len]; exact h1, fun r hr => ?_⟩
  obtain ⟨h3, h4⟩ := lk_small (coin_zero (chk_each h2 r hr)).2
  have hl := hc.lock r hr
  refine ⟨by rw [← hl.len]; unfold RCoin.pl at h3; simpa using h3, fun o ho => ?_⟩
  rw [← YSl.len1 (hl.data o ho)]
  exact h4 o.pl (List.mem_map_of_mem ho)
theorem chk_key : ∀ {xs ys : List RCoin} {o o' : Option RCoin}, xs.map RCoin.key = ys.map RCoin.key → o.map RCoin.key = o'.map RCoin.key → chkQ o xs = chkQ o' ys
  | [], [], _, _, _, _ => by rw [chk_nil, chk_nil]
  | [], _ :: _, _, _, h, _ => by cases h
  | _ :: _, [], _, _, h, _ => by cases h
  | x :: xs, y :: ys, o, o', h, ho => by
    have h1 : x.key = y.key := (List.cons.inj h).1
    have h2 : xs.map RCoin.key = ys.map RCoin.key := (List.cons.inj h).2
    have ih : chkQ (some x) xs = chkQ (some y) ys := chk_key h2 (congrArg some h1)
    obtain ⟨k1, k2, k3, k4, k5⟩ : x.tx = y.tx ∧ x.at_ = y.at_ ∧ x.amt = y.amt ∧ x.pl = y.pl ∧ x.ht = y.ht := by
      unfold RCoin.key at h1
      simpa using h1
    have hq : coinQ x = coinQ y := by unfold coinQ; rw [k2, k3, k4, k5]
    match o, o', ho with
    | none, none, _ =>
      show (if coinQ x ≠ 0 then coinQ x else chkQ (some x) xs) = (if coinQ y ≠ 0 then coinQ y else chkQ (some y) ys)
      rw [hq, ih]
    | some p, some p', ho =>
      have h1' : p.key = p'.key := Option.some.inj ho
      obtain ⟨j1, j2, _⟩ : p.tx = p'.tx ∧ p.at_ = p'.at_ ∧ p.amt = p'.amt ∧ p.pl = p'.pl ∧ p.ht = p'.ht := by
        unfold RCoin.key at h1'
        simpa using h1'
      show (if 0 ≤ cmpP p.tx p.at_ x.tx x.at_ then (6 : Int) else if coinQ x ≠ 0 then coinQ x else chkQ (some x) xs) = (if 0 ≤ cmpP p'.tx p'.at_ y.tx y.at_ then (6 : Int) else if coinQ y ≠ 0 then coinQ y else chkQ (some y) ys)
      rw [hq, ih, k1, k2, j1, j2]
theorem set_key {xs ys : List RCoin} (h : xs.map RCoin.key = ys.map RCoin.key) : setQ xs = setQ ys := by
  have hl : xs.length = ys.length := by simpa using congrArg List.length h
  unfold setQ
  rw [hl, chk_key (o := none) (o' := none) h rfl]
theorem amt_key {xs ys : List RCoin} (h : xs.map RCoin.key = ys.map RCoin.key) : xs.map (·.amt) = ys.map (·.amt) := by
  have e : (fun c : RCoin => c.amt) = (fun k => k.2.2.1) ∘ RCoin.key := rfl
  show xs.map (fun c : RCoin => c.amt) = ys.map (fun c : RCoin => c.amt)
  rw [e, ← List.map_map, ← List.map_map, h]
theorem csum_key {xs ys : List RCoin} (h : xs.map RCoin.key = ys.map RCoin.key) : csumQ xs = csumQ ys := by
  unfold csumQ
  rw [set_key h, amt_key h]
/-- What a wallet has, and what is wrong. -/
def balQ (d : List Nat) (n : Int) (cs : List RCoin) : Int × Int :=
  let q : Int := if n < 1 ∨ 100 < n then 2 else setQ cs
  if q ≠ 0 then (0, q) else csumQ (cs.filter (keepC ((List.range n.toNat).map (lockL d))))
end Go.Proofs.YtmhekoalhlfjoaaGreatDoor
