/- money.Sum, coin.Sum: the walks. Conditions: named in each theorem. A set's part is a set: the plain laws. Conditions: named in each theorem. What a wallet pays: the plain law. Conditions: named in each theorem. -/
import Derived.Test.YtbpabjhcjffkmaaGreatDoorDelC
/- money.Sum, coin.Sum: the walks. Conditions: named in each theorem. -/
namespace Go.Proofs.YtbpabjhcjffkmaaGreatDoor
open Go.RowKit Go.ChangeShapes Go.WideShapes Go.ChangeAt

/-- Numbers together, and what is wrong with them. -/
def addN : List Int → Int → Int × Int
 | [], s => (s, 0)
 | n :: r, s => if moneyE n ≠ 0 then (0, moneyE n) else if 1125899906842624 < s + n then (0, 4) else addN r (s + n)
theorem moneyE_zero {n : Int} (h : moneyE n = 0) : 0 ≤ n ∧ n ≤ 1125899906842624 := by
 unfold moneyE at h
 split at h
 ·omega
 ·omega
set_option maxHeartbeats 20000000 in
set_option maxRecDepth 100000 in
theorem msum_any (zs : List Int) (A : Option Addr) (n c : Nat) (w : World) (h : ISl w w.heap.size A n zs) (hn : n ≤ 1000) :
  Calls Tryz.prog 101 #[.slice A n c] w (fun e w' => e = .returned (.tuple #[.int .i64 (addN zs 0).1, errP (addN zs 0).2]) ∧ Below w.heap.size w w') := by
 have hl := h.len
 obtain ⟨R, hR⟩ : ∃ R, R = addN zs 0 := ⟨_, rfl⟩
 rw [← hR]
 have HR0 : Hid (R = addN (zs.drop 0) ((0 : Nat) : Int)) := aside hR
 have H := aside h
 have HL := aside hl
 clear h hl hR
 go_enter Tryz.func101, Tryz.ntmps101
 go_wp2_with fail
 go_loopw [4, 10] (fun v4 v10 wr => ∃ k s : Nat, k ≤ n ∧ s ≤ 1125899906842624 ∧ v10 = .int .i64 k ∧ v4 = .int .i64 s ∧ wr = w ∧ Hid (R = addN (zs.drop k) s)) (fun _ v10 _ => n - (Go.RowKit.intOf v10).toNat)
 case atStart => exact ⟨0, 0, Nat.zero_le _, Nat.zero_le _, rfl, rfl, rfl, HR0⟩
 case round =>
  clear HR0
  obtain ⟨k, s, hk, hs, rfl, rfl, hwr, HR⟩ := hrel
  subst hwr
  by_cases hkn : k < n
  ·have k0 : (k : Int) < (n : Int) := by omega
   obtain ⟨b, off, e, hb, hc⟩ := H.out.at_ hkn
   have hdr : zs.drop k = nth zs k :: zs.drop (k + 1) := by
    rw [nth_get (by have := HL.out; omega)]
    exact List.drop_eq_getElem_cons (by have := HL.out; omega)
   have hq := HR.out
   rw [hdr] at hq
   generalize nth zs k = a at *
   have hq2 : R = if moneyE a ≠ 0 then (0, moneyE a) else if 1125899906842624 < (s : Int) + a then (0, 4) else addN (zs.drop (k + 1)) (s + a) := hq
   have HQ := aside hq2
   have HM := aside (money_any a)
   have hz := moneyE_zero (n := a)
   generalize moneyE a = q at HQ HM hz
   subst e
   have HZ := aside hz
   clear hq hq2 hdr hkn hz
   go_wp2_with fail
   refine (HM.out _).mono ?_
   rintro e w3 ⟨rfl, hw3⟩
   rw [hw3]
   clear hw3 w3
   by_cases hq0 : q = 0
   ·subst hq0
    rw [show errP 0 = Value.nilIface from rfl]
    obtain ⟨ha0, ha1⟩ := HZ.out rfl
    obtain ⟨a', rfl⟩ := Int.eq_ofNat_of_zero_le ha0
    by_cases hbig : 1125899906842624 < (s : Int) + (a' : Int)
    ·have hR : R = (0, 4) := HQ.out.trans (by rw [if_neg (by simp), if_pos hbig])
     subst hR
     have hw : IntKind.i64.wrap ((s : Int) + (a' : Int)) = (s : Int) + (a' : Int) := by rw [IntKind.wrap_i64]; omega
     go_wp2
     go_ret2
     exact ⟨rfl, Below.refl _ _⟩
    ·have hb2 : (s : Int) + (a' : Int) ≤ 1125899906842624 := by omega
     have HR2 : Hid (R = addN (zs.drop (k + 1)) ((s + a' : Nat) : Int)) := aside (HQ.out.trans (by rw [if_neg (by simp), if_neg hbig, Int.natCast_add]))
     clear hbig
     have hw : IntKind.i64.wrap ((s : Int) + (a' : Int)) = (s : Int) + (a' : Int) := by rw [IntKind.wrap_i64]; omega
     go_wp2
     exact ⟨⟨k + 1, s + a', by omega, by omega, by go_num, by simp, trivial, HR2⟩, by simp [Go.RowKit.intOf]; omega⟩
   ·have hR : R = (0, q) := HQ.out.trans (if_pos hq0)
    subst hR
    rw [errP_no hq0]
    have HE := aside (errP_no hq0)
    clear hq0 HQ HZ
    go_wp2
    go_ret2
    exact ⟨by rw [HE.out] <;> rfl, Below.refl _ _⟩
  ·obtain rfl : n = k := by omega
   have i0 : ((n : Int) < (n : Int)) = False := by simp
   have hR : R = ((s : Int), 0) := by
    rw [HR.out, List.drop_of_length_le (by have := HL.out; omega)]
    rfl
   subst hR
   clear hkn HR
   go_wp2
   go_ret2
   exact ⟨rfl, Below.refl _ _⟩
end Go.Proofs.YtbpabjhcjffkmaaGreatDoor

/- A set's part is a set: the plain laws. Conditions: named in each theorem. -/
namespace Go.Proofs.YtbpabjhcjffkmaaGreatDoor
open Go.RowKit Go.ChangeShapes Go.WideShapes Go.ChangeAt

theorem cb_trans : ∀ a b c : List UInt8, Lib.compareBytes a b ≤ 0 → Lib.compareBytes b c ≤ 0 → Lib.compareBytes a c ≤ 0 ∧ (Lib.compareBytes a b < 0 ∨ Lib.compareBytes b c < 0 → Lib.compareBytes a c < 0)
 | [], [], c, _, h2 => ⟨h2, fun h => h.elim (fun h => by simp [Lib.compareBytes] at h) id⟩
 | [], _ :: _, [], _, h2 => by simp [Lib.compareBytes] at h2
 | [], _ :: _, _ :: _, _, _ => ⟨by simp [Lib.compareBytes], fun _ => by simp [Lib.compareBytes]⟩
 | _ :: _, [], _, h1, _ => by simp [Lib.compareBytes] at h1
 | _ :: _, _ :: _, [], _, h2 => by simp [Lib.compareBytes] at h2
 | x :: xs, y :: ys, z :: zs, h1, h2 => by
  have ih := cb_trans xs ys zs
  unfold Lib.compareBytes at h1 h2 ⊢
  simp only [UInt8.lt_iff_toNat_lt] at h1 h2 ⊢
  generalize x.toNat = p at *
  generalize y.toNat = q at *
  generalize z.toNat = r at *
  generalize Lib.compareBytes xs ys = A at *
  generalize Lib.compareBytes ys zs = B at *
  generalize Lib.compareBytes xs zs = C at *
  by_cases e1 : p < q
  ·rw [if_pos e1] at h1 ⊢
   by_cases e2 : q < r
   ·rw [if_pos (by omega : p < r)]
    omega
   ·rw [if_neg e2] at h2
    by_cases e3 : r < q
    ·rw [if_pos e3] at h2; omega
    ·rw [if_pos (by omega : p < r)]
     omega
  ·rw [if_neg e1] at h1 ⊢
   by_cases e2 : q < p
   ·rw [if_pos e2] at h1; omega
   ·rw [if_neg e2] at h1 ⊢
    obtain rfl : p = q := by omega
    by_cases e3 : p < r
    ·rw [if_pos e3] at h2 ⊢
     rw [if_pos e3]
     omega
    ·rw [if_neg e3] at h2 ⊢
     rw [if_neg e3]
     by_cases e4 : r < p
     ·rw [if_pos e4] at h2; omega
     ·rw [if_neg e4] at h2 ⊢
      rw [if_neg e4]
      exact ih h1 h2
theorem cmpP_neg {t t' : List Nat} {a a' : Int} : cmpP t a t' a' < 0 ↔ cmpY t t' < 0 ∨ (cmpY t t' = 0 ∧ a < a') := by
 unfold cmpP orL orL orL
 by_cases h : cmpY t t' = 0
 ·rw [if_neg (by simp [h])]
  unfold cmpI
  (repeat' split) <;> simp_all <;> omega
 ·rw [if_pos h]
  omega
theorem cmpP_trans {t1 t2 t3 : List Nat} {a1 a2 a3 : Int} (h1 : cmpP t1 a1 t2 a2 < 0) (h2 : cmpP t2 a2 t3 a3 < 0) : cmpP t1 a1 t3 a3 < 0 := by
 rw [cmpP_neg] at h1 h2 ⊢
 unfold cmpY at *
 have := cb_trans (Lib.bytesOf (t1.map Int.ofNat)) (Lib.bytesOf (t2.map Int.ofNat)) (Lib.bytesOf (t3.map Int.ofNat)) (by omega) (by omega)
 omega
theorem chk_cons {p c : RCoin} {r : List RCoin} : chkQ (some p) (c :: r) = 0 ↔ cmpP p.tx p.at_ c.tx c.at_ < 0 ∧ coinQ c = 0 ∧ chkQ (some c) r = 0 := by
 show (if 0 ≤ cmpP p.tx p.at_ c.tx c.at_ then (6 : Int) else if coinQ c ≠ 0 then coinQ c else chkQ (some c) r) = 0 ↔ _
 by_cases h1 : 0 ≤ cmpP p.tx p.at_ c.tx c.at_
 ·rw [if_pos h1]
  omega
 ·rw [if_neg h1]
  by_cases h2 : coinQ c = 0
  ·rw [if_neg (by simp [h2])]
   exact ⟨fun h => ⟨by omega, h2, h⟩, fun h => h.2.2⟩
  ·rw [if_pos h2]
   exact ⟨fun h => absurd h h2, fun h => absurd h.2.1 h2⟩
theorem chk_none {c : RCoin} {r : List RCoin} : chkQ none (c :: r) = 0 ↔ coinQ c = 0 ∧ chkQ (some c) r = 0 := by
 show (if coinQ c ≠ 0 then coinQ c else chkQ (some c) r) = 0 ↔ _
 by_cases h2 : coinQ c = 0
 ·rw [if_neg (by simp [h2])]
  exact ⟨fun h => ⟨h2, h⟩, fun h => h.2⟩
 ·rw [if_pos h2]
  exact ⟨fun h => absurd h h2, fun h => absurd h.1 h2⟩
theorem chk_nil (o : Option RCoin) : chkQ o [] = 0 := by cases o <;> rfl
theorem chk_less {p q : RCoin} : ∀ {cs : List RCoin}, chkQ (some q) cs = 0 → cmpP p.tx p.at_ q.tx q.at_ < 0 → chkQ (some p) cs = 0
 | [], _, _ => chk_nil _
 | c :: r, h, hp => by
  obtain ⟨h1, h2, h3⟩ := chk_cons.1 h
  exact chk_cons.2 ⟨cmpP_trans hp h1, h2, h3⟩
theorem chk_filter (f : RCoin → Bool) : ∀ {cs : List RCoin} {p : RCoin}, chkQ (some p) cs = 0 → chkQ (some p) (cs.filter f) = 0
 | [], _, _ => chk_nil _
 | c :: r, p, h => by
  obtain ⟨h1, h2, h3⟩ := chk_cons.1 h
  have ih := chk_filter f h3
  cases hf : f c with
  | true =>
   rw [List.filter_cons_of_pos hf]
   exact chk_cons.2 ⟨h1, h2, ih⟩
  | false =>
   rw [List.filter_cons_of_neg (by simp [hf])]
   exact chk_less ih h1
theorem chk_drop {c : RCoin} : ∀ {cs : List RCoin}, chkQ (some c) cs = 0 → chkQ none cs = 0
 | [], _ => chk_nil _
 | x :: r, h => by
  obtain ⟨_, h2, h3⟩ := chk_cons.1 h
  exact chk_none.2 ⟨h2, h3⟩
theorem chk_filter0 (f : RCoin → Bool) : ∀ {cs : List RCoin}, chkQ none cs = 0 → chkQ none (cs.filter f) = 0
 | [], _ => chk_nil _
 | c :: r, h => by
  obtain ⟨h2, h3⟩ := chk_none.1 h
  have ih := chk_filter f h3
  cases hf : f c with
  | true =>
   rw [List.filter_cons_of_pos hf]
   exact chk_none.2 ⟨h2, ih⟩
  | false =>
   rw [List.filter_cons_of_neg (by simp [hf])]
   exact chk_drop ih
theorem set_zero {cs : List RCoin} : setQ cs = 0 ↔ cs.length ≤ 1000 ∧ chkQ none cs = 0 := by
 unfold setQ
 by_cases h : 1000 < cs.length
 ·rw [if_pos h]
  omega
 ·rw [if_neg h]
  exact ⟨fun h2 => ⟨by omega, h2⟩, fun h2 => h2.2⟩
theorem set_filter (f : RCoin → Bool) {cs : List RCoin} (h : setQ cs = 0) : setQ (cs.filter f) = 0 := by
 rw [set_zero] at h ⊢
 exact ⟨Nat.le_trans (List.length_filter_le _ _) h.1, chk_filter0 f h.2⟩
theorem chk_each : ∀ {cs : List RCoin} {o : Option RCoin}, chkQ o cs = 0 → ∀ c ∈ cs, coinQ c = 0
 | [], _, _, _, hc => by cases hc
 | x :: r, none, h, c, hc => by
  obtain ⟨h2, h3⟩ := chk_none.1 h
  rcases List.mem_cons.1 hc with rfl | hc
  ·exact h2
  ·exact chk_each h3 c hc
 | x :: r, some p, h, c, hc => by
  obtain ⟨_, h2, h3⟩ := chk_cons.1 h
  rcases List.mem_cons.1 hc with rfl | hc
  ·exact h2
  ·exact chk_each h3 c hc
theorem coin_zero {c : RCoin} (h : coinQ c = 0) : moneyE c.amt = 0 ∧ lkQ c.pl = 0 := by
 unfold coinQ at h
 split at h
 ·omega
 ·split at h
  ·exact absurd h (by assumption)
  ·rename_i h2
   exact ⟨Classical.not_not.1 h2, h⟩
theorem orL_zero : ∀ {l : List Int}, orL l = 0 → ∀ x ∈ l, x = 0
 | [], _, x, hx => by cases hx
 | a :: r, h, x, hx => by
  unfold orL at h
  by_cases ha : a = 0
  ·rw [if_neg (by simp [ha])] at h
   rcases List.mem_cons.1 hx with rfl | hx
   ·exact ha
   ·exact orL_zero h x hx
  ·rw [if_pos ha] at h
   exact absurd h ha
theorem chk_key : ∀ {xs ys : List RCoin} {o o' : Option RCoin}, xs.map RCoin.key = ys.map RCoin.key → o.map RCoin.key = o'.map RCoin.key → chkQ o xs = chkQ o' ys
 | [], [], _, _, _, _ => by rw [chk_nil, chk_nil]
 | [], _ :: _, _, _, h, _ => by cases h
 | _ :: _, [], _, _, h, _ => by cases h
 | x :: xs, y :: ys, o, o', h, ho => by
  have h1 : x.key = y.key := (List.cons.inj h).1
  have h2 : xs.map RCoin.key = ys.map RCoin.key := (List.cons.inj h).2
  have ih : chkQ (some x) xs = chkQ (some y) ys := chk_key h2 (congrArg some h1)
  obtain ⟨k1, k2, k3, k4, k5⟩ : x.tx = y.tx ∧ x.at_ = y.at_ ∧ x.amt = y.amt ∧ x.pl = y.pl ∧ x.ht = y.ht := by
   unfold RCoin.key at h1
   simpa using h1
  have hq : coinQ x = coinQ y := by unfold coinQ; rw [k2, k3, k4, k5]
  match o, o', ho with
  | none, none, _ =>
   show (if coinQ x ≠ 0 then coinQ x else chkQ (some x) xs) = (if coinQ y ≠ 0 then coinQ y else chkQ (some y) ys)
   rw [hq, ih]
  | some p, some p', ho =>
   have h1' : p.key = p'.key := Option.some.inj ho
   obtain ⟨j1, j2, _⟩ : p.tx = p'.tx ∧ p.at_ = p'.at_ ∧ p.amt = p'.amt ∧ p.pl = p'.pl ∧ p.ht = p'.ht := by
    unfold RCoin.key at h1'
    simpa using h1'
   show (if 0 ≤ cmpP p.tx p.at_ x.tx x.at_ then (6 : Int) else if coinQ x ≠ 0 then coinQ x else chkQ (some x) xs) = (if 0 ≤ cmpP p'.tx p'.at_ y.tx y.at_ then (6 : Int) else if coinQ y ≠ 0 then coinQ y else chkQ (some y) ys)
   rw [hq, ih, k1, k2, j1, j2]
theorem set_key {xs ys : List RCoin} (h : xs.map RCoin.key = ys.map RCoin.key) : setQ xs = setQ ys := by
 have hl : xs.length = ys.length := by simpa using congrArg List.length h
 unfold setQ
 rw [hl, chk_key (o := none) (o' := none) h rfl]
end Go.Proofs.YtbpabjhcjffkmaaGreatDoor

/- What a wallet pays: the plain law. Conditions: named in each theorem. -/
namespace Go.Proofs.YtbpabjhcjffkmaaGreatDoor
open Go.RowKit Go.ChangeShapes Go.WideShapes Go.ChangeAt

/-- An op, a lock, an out, an in, a payment as they are sent. -/
def opB (o : POp) : List Nat := sizeL o.1.toNat ++ sizeL o.2.1.toNat ++ (sizeL o.2.2.length ++ o.2.2)
def outB (o : Int × List POp) : List Nat := sizeL o.1.toNat ++ sizeL o.2.length ++ o.2.flatMap opB
def inB (x : List Nat × Int) : List Nat := x.1 ++ sizeL x.2.toNat ++ [0]
def txB (ins : List (List Nat × Int)) (outs : List (Int × List POp)) : List Nat := sizeL ins.length ++ ins.flatMap inB ++ sizeL outs.length ++ outs.flatMap outB ++ [0]
theorem sizeL_zero : sizeL 0 = [0] := by decide
theorem op_zero {o : POp} (h : opP o = 0) : 1 ≤ o.1 ∧ o.1 ≤ 14 ∧ 0 ≤ o.2.1 ∧ o.2.1 ≤ 1073741824 ∧ o.2.2.length ≤ 300 := by
 unfold opP opQ at h
 by_cases h1 : o.1 < 1 ∨ 14 < o.1
 ·rw [if_pos h1] at h; omega
 rw [if_neg h1] at h
 by_cases h2 : (o.2.1 ≠ 0 ∧ o.1 ≠ 9 ∧ o.1 ≠ 10) ∨ (0 < o.2.2.length ∧ o.1 ≠ 1)
 ·rw [if_pos h2] at h; omega
 rw [if_neg h2] at h
 by_cases h3 : 300 < o.2.2.length
 ·rw [if_pos h3] at h; omega
 rw [if_neg h3] at h
 by_cases h4 : (o.1 = 9 ∧ (o.2.1 < 1 ∨ 9 < o.2.1)) ∨ (o.1 = 10 ∧ (o.2.1 < 0 ∨ 1073741824 < o.2.1))
 ·rw [if_pos h4] at h; omega
 omega
theorem lk_ops {l : List POp} (h : lkQ l = 0) : l.length ≤ 60 ∧ ∀ o ∈ l, 1 ≤ o.1 ∧ o.1 ≤ 14 ∧ 0 ≤ o.2.1 ∧ o.2.1 ≤ 1073741824 ∧ o.2.2.length ≤ 300 := by
 unfold lkQ at h
 by_cases h1 : 60 < l.length
 ·rw [if_pos h1] at h; omega
 rw [if_neg h1] at h
 by_cases h2 : orL (l.map opP) = 0
 ·exact ⟨by omega, fun o ho => op_zero (orL_zero h2 _ (List.mem_map_of_mem ho))⟩
 ·rw [if_pos h2] at h
  exact absurd h h2
/-- A lock that can be sent. -/
def LkOk (l : List POp) : Prop := l.length ≤ 60 ∧ ∀ o ∈ l, 1 ≤ o.1 ∧ o.1 ≤ 14 ∧ 0 ≤ o.2.1 ∧ o.2.1 ≤ 1073741824 ∧ o.2.2.length ≤ 300
theorem opB_len {o : POp} (h : o.2.2.length ≤ 300) : (opB o).length ≤ 400 := by
 have h1 := sizeL_len o.1.toNat
 have h2 := sizeL_len o.2.1.toNat
 have h3 := sizeL_len o.2.2.length
 unfold opB
 simp only [List.length_append]
 omega
theorem flat_most {α : Type} {f : α → List Nat} {k : Nat} : ∀ {l : List α}, (∀ x ∈ l, (f x).length ≤ k) → (l.flatMap f).length ≤ k * l.length
 | [], _ => by simp
 | a :: l, h => by
  have ih := flat_most (f := f) (k := k) (l := l) (fun x hx => h x (List.mem_cons_of_mem _ hx))
  have h1 := h a List.mem_cons_self
  rw [List.flatMap_cons, List.length_append, List.length_cons, Nat.mul_succ]
  omega
theorem outB_len {o : Int × List POp} (h : LkOk o.2) : (outB o).length ≤ 25000 := by
 have h1 := sizeL_len o.1.toNat
 have h2 := sizeL_len o.2.length
 have h3 := flat_most (f := opB) (k := 400) (l := o.2) (fun x hx => opB_len (h.2 x hx).2.2.2.2)
 have h4 := h.1
 unfold outB
 simp only [List.length_append]
 omega
theorem inB_len {x : List Nat × Int} (h : x.1.length = 32) : (inB x).length ≤ 50 := by
 have h1 := sizeL_len x.2.toNat
 unfold inB
 simp only [List.length_append, List.length_cons, List.length_nil]
 omega
theorem txB_len {ins : List (List Nat × Int)} {outs : List (Int × List POp)} (hi : ins.length ≤ 40) (ho : outs.length ≤ 4) (h1 : ∀ x ∈ ins, x.1.length = 32) (h2 : ∀ o ∈ outs, LkOk o.2) : (txB ins outs).length ≤ 110000 := by
 have a1 := flat_most (f := inB) (k := 50) (l := ins) (fun x hx => inB_len (h1 x hx))
 have a2 := flat_most (f := outB) (k := 25000) (l := outs) (fun x hx => outB_len (h2 x hx))
 have a3 := sizeL_len ins.length
 have a4 := sizeL_len outs.length
 unfold txB
 simp only [List.length_append, List.length_cons, List.length_nil]
 omega
theorem flat_less {α : Type} {f : α → List Nat} {l : List α} (h : ∀ x ∈ l, ∀ y ∈ f x, y < 256) : ∀ y ∈ l.flatMap f, y < 256 := fun y hy => by
 obtain ⟨x, hx, hxy⟩ := List.mem_flatMap.1 hy
 exact h x hx y hxy
theorem opB_small {o : POp} (h : ∀ x ∈ o.2.2, x < 256) : ∀ y ∈ opB o, y < 256 := fun y hy => by
 unfold opB at hy
 simp only [List.mem_append] at hy
 rcases hy with (hy | hy) | (hy | hy)
 ·exact sizeL_small _ y hy
 ·exact sizeL_small _ y hy
 ·exact sizeL_small _ y hy
 ·exact h y hy
theorem outB_small {o : Int × List POp} (h : ∀ p ∈ o.2, ∀ x ∈ p.2.2, x < 256) : ∀ y ∈ outB o, y < 256 := fun y hy => by
 unfold outB at hy
 simp only [List.mem_append] at hy
 rcases hy with (hy | hy) | hy
 ·exact sizeL_small _ y hy
 ·exact sizeL_small _ y hy
 ·exact flat_less (fun p hp => opB_small (h p hp)) y hy
theorem inB_small {x : List Nat × Int} (h : ∀ y ∈ x.1, y < 256) : ∀ y ∈ inB x, y < 256 := fun y hy => by
 unfold inB at hy
 simp only [List.mem_append, List.mem_singleton] at hy
 rcases hy with (hy | hy) | hy
 ·exact h y hy
 ·exact sizeL_small _ y hy
 ·omega
theorem txB_small {ins : List (List Nat × Int)} {outs : List (Int × List POp)} (h1 : ∀ x ∈ ins, ∀ y ∈ x.1, y < 256) (h2 : ∀ o ∈ outs, ∀ p ∈ o.2, ∀ x ∈ p.2.2, x < 256) : ∀ y ∈ txB ins outs, y < 256 := fun y hy => by
 unfold txB at hy
 simp only [List.mem_append, List.mem_singleton] at hy
 rcases hy with (((hy | hy) | hy) | hy) | hy
 ·exact sizeL_small _ y hy
 ·exact flat_less (fun x hx => inB_small (h1 x hx)) y hy
 ·exact sizeL_small _ y hy
 ·exact flat_less (fun o ho => outB_small (h2 o ho)) y hy
 ·omega
end Go.Proofs.YtbpabjhcjffkmaaGreatDoor
