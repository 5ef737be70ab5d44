/- bytes.Compare, cmp.Compare, coin.Compare: the walks. Conditions: named in each theorem. Rows of structs: copied within and between: words of this seat's own. Conditions: named in each theorem. cmp.Compare, cmp.Or, coin.Compare: the walks. Conditions: named in each theorem. -/
import Derived.Test.YtmhekoalhlfjoaaGreatDoorWalH
import Derived.Laws.Externs
import Derived.Lib.Bytealg
import Derived.Lib.BytesEntry
import Derived.Test.YtmhekoalhlfjoaaGreatDoorRec
import Derived.Laws.CopyOwn
import Derived.Lib.AppendZerosOnto
import Derived.Lib.Overlaps
import Derived.Deep.RegionHeld3
/- bytes.Compare, cmp.Compare, coin.Compare: the walks. Conditions: named in each theorem. -/
namespace Go.Proofs.YtmhekoalhlfjoaaGreatDoor
open Go.RowKit Go.ChangeShapes Go.WideShapes Go.ChangeAt

/-- Which of two rows of bytes is ahead. -/
def cmpY (xs ys : List Nat) : Int := Lib.compareBytes (Lib.bytesOf (xs.map Int.ofNat)) (Lib.bytesOf (ys.map Int.ofNat))
theorem load_bytes {w : World} {B n : Nat} {A : Option Addr} {xs : List Nat} (h : YSl w B A n xs) (c : Nat) : (Extern.Bytes.bytesOf (.slice A n c)).run Tryz.prog w = .ok (strB xs) w := by
  have hl := YSl.len1 h
  rcases Nat.eq_zero_or_pos n with h0 | h0
  · subst h0
    obtain rfl : xs = [] := List.eq_nil_of_length_eq_zero hl
    cases A <;> rfl
  · obtain ⟨b, o, rfl, _, hc⟩ := YSl.at1 h h0
    have h9 := Lib.run_loadBytesX (P := Tryz.prog) w (xs.map Int.ofNat) ⟨b, o, none⟩ .empty (fun j x hj => by
      have hjl : j < xs.length := by have := (List.getElem?_eq_some_iff.1 hj).1; simpa using this
      rw [add_plain, hc j (by omega)]
      rw [List.getElem?_map, List.getElem?_eq_getElem hjl] at hj
      injection hj with hj
      rw [← hj, List.getD_eq_getElem?_getD, List.getElem?_eq_getElem hjl]
      rfl)
    rw [List.length_map, hl] at h9
    show (Extern.Bytes.loadBytes ⟨b, o, none⟩ n .empty).run Tryz.prog w = _
    rw [h9]
    congr 1
    unfold strB strOfNums Lib.bytesOf
    simp
theorem compare_run {w : World} {B B' n n' : Nat} {A A' : Option Addr} {xs ys : List Nat} (h : YSl w B A n xs) (h' : YSl w B' A' n' ys) (c c' : Nat) : (Extern.BytealgCompare.compare #[.slice A n c, .slice A' n' c']).run Tryz.prog w = .ok (.int .i64 (cmpY xs ys)) w := by
  change Sem.run Tryz.prog (do pure (goInt (Extern.BytealgCompare.cmp (← Extern.Bytes.bytesOf (.slice A n c)) (← Extern.Bytes.bytesOf (.slice A' n' c'))))) w = _
  simp only [Sem.run_bind, load_bytes h c, load_bytes h' c', Sem.run_pure, Result.andThen]
  rw [Lib.cmp_eq]
  rfl
set_option maxRecDepth 100000 in
theorem bcmp_any (xs ys : List Nat) (A A' : Option Addr) (n c n' c' : Nat) (w : World) (h : YSl w w.heap.size A n xs) (h' : YSl w w.heap.size A' n' ys) :
    Calls Tryz.prog 92 #[.slice A n c, .slice A' n' c'] w (fun e w' => e = .returned (.int .i64 (cmpY xs ys)) ∧ w' = w) := by
  have hr := compare_run h h' c c'
  generalize cmpY xs ys = r at hr ⊢
  clear h h'
  go_enter Tryz.func92, Tryz.ntmps92
  go_wp2
  rw [run_callFunc_extern Tryz.func99 (by kernel_rfl) (by kernel_rfl) (by kernel_rfl) (e := Extern.BytealgCompare.compare) (by kernel_rfl), hr]
  simp only [Result.andThen]
  rw [Oper.upon_value]
  go_wp2
  go_ret
  exact ⟨rfl, rfl⟩
end Go.Proofs.YtmhekoalhlfjoaaGreatDoor

/- Rows of structs: copied within and between: words of this seat's own. Conditions: named in each theorem. -/
namespace Go.Proofs.YtmhekoalhlfjoaaGreatDoor
open Go.RowKit Go.ChangeShapes Go.WideShapes Go.ChangeAt

theorem run_copy_sz {P : Program} (w : World) (dT sT ty elem : TypeId) (sz : Nat) (g o dLen dCap : Nat) (a : Addr) (sLen sCap : Nat) (cur : Array Value) (t : TypeId) (cs : List Value)
    (hu : P.underlying dT = some (.slice elem)) (hs : (P.info? elem).map (·.size) = some sz)
    (hg : w.heap[g]? = some (.cells cur t (0, 0))) (k : Nat) (hk : Nat.min sLen dLen = k) (hn : cs.length = k * sz)
    (hsrc : ∀ j v, cs[j]? = some v → w.cell? (a.add j) = some v) (hfit : o + cs.length ≤ cur.size) (h1 : ∀ v ∈ cs, v.oneCell' = true) :
    (Builtin.copy_ #[dT, sT] ty #[.slice (some ⟨g, o, none⟩) dLen dCap, .slice (some a) sLen sCap]).run P w =
      .ok (goInt k) (w.setRow g (cur.toList.take o ++ cs ++ cur.toList.drop (o + cs.length)).toArray) := by
  have hl := run_loadCells_list (P := P) w a cs hsrc
  have hst := run_storeCells_at P g o t cs 0 cur w hg (by simpa using hfit) h1
  cases hq : P.info? elem with
  | none => simp [hq] at hs
  | some i =>
    have hi : i.size = sz := by simpa [hq] using hs
    rw [hn] at hl
    simp [Builtin.copy_, run_underlying hu, Builtin.lenOf, Builtin.firstCells, sizeOf, typeInfo, hq, hi, hk, hl, hst]
theorem wpList_copy_sz {P : Program} {w : World} {ops : Array Oper} {rest : List Oper} {o : Oper} {a : Act} {Q : Exit → Act → World → Prop} (hgd : o.guard = none) (d s : Operand) (dT sT : TypeId)
    (ho : o.op = .call { callee := .builtin .copy, args := #[d, s], argTypes := #[dT, sT] }) (elem : TypeId) (sz : Nat) (hu : P.underlying dT = some (.slice elem)) (hsz : (P.info? elem).map (·.size) = some sz)
    (g off dLen dCap : Nat) (ad : Addr) (sLen sCap : Nat) (hd : a.eval d = .slice (some ⟨g, off, none⟩) dLen dCap) (hs : a.eval s = .slice (some ad) sLen sCap)
    (cur : List Value) (t : TypeId) (hg : w.heap[g]? = some (.cells cur.toArray t (0, 0))) (cs : List Value) (k : Nat) (hk : Nat.min sLen dLen = k) (hn : cs.length = k * sz)
    (hsrc : ∀ j v, cs[j]? = some v → w.cell? (ad.add j) = some v) (hfit : off + cs.length ≤ cur.length) (h1 : ∀ v ∈ cs, v.oneCell' = true)
    (h : wpList P ops Q rest (a.put o.dst (goInt k)) (w.setRow g (splice cur off cs).toArray)) : wpList P ops Q (o :: rest) a w := by
  refine wpList_plain hgd fun K hK => ?_
  have hrun := run_copy_sz (P := P) w dT sT o.type elem sz g off dLen dCap ad sLen sCap cur.toArray t cs hu hsz hg k hk hn hsrc (by simpa using hfit) h1
  unfold Oper.wp
  simp [execOp, ho, resolve, invoke, builtin, hd, hs, hrun, Result.andThen]
  exact hK _ _ (by simpa [splice] using h)
theorem step_copy_sz {P : Program} {ops : Array Oper} {o : Oper} {a : Act} {w : World} {K : Act → World → Prop} {Q : Exit → Act → World → Prop} {E : Prop} (hgd : o.guard = none) (d s : Operand) (dT sT : TypeId)
    (ho : o.op = .call { callee := .builtin .copy, args := #[d, s], argTypes := #[dT, sT] }) (elem : TypeId) (sz : Nat) (hu : P.underlying dT = some (.slice elem)) (hsz : (P.info? elem).map (·.size) = some sz)
    (g off dLen dCap : Nat) (ad : Addr) (sLen sCap : Nat) (hd : a.eval d = .slice (some ⟨g, off, none⟩) dLen dCap) (hs : a.eval s = .slice (some ad) sLen sCap)
    (cur : List Value) (t : TypeId) (hg : w.heap[g]? = some (.cells cur.toArray t (0, 0))) (cs : List Value) (k : Nat) (hk : Nat.min sLen dLen = k) (hn : cs.length = k * sz)
    (hsrc : ∀ j v, cs[j]? = some v → w.cell? (ad.add j) = some v) (hfit : off + cs.length ≤ cur.length) (h1 : ∀ v ∈ cs, v.oneCell' = true)
    (h : K (a.put o.dst (goInt k)) (w.setRow g (splice cur off cs).toArray)) : if Region.wanted o (yielded ops a.tmps) = true then Oper.wp P o a w K Q else E := by
  have hw : Region.wanted o (yielded ops a.tmps) = true := by simp [Region.wanted, hgd]
  rw [if_pos hw]
  have hrun := run_copy_sz (P := P) w dT sT o.type elem sz g off dLen dCap ad sLen sCap cur.toArray t cs hu hsz hg k hk hn hsrc (by simpa using hfit) h1
  unfold Oper.wp
  simp [execOp, ho, resolve, invoke, builtin, hd, hs, hrun, Result.andThen]
  have h' : K (a.put o.dst (goInt k)) (w.setRow g (cur.take off ++ (cs ++ cur.drop (off + cs.length))).toArray) := h
  exact h'
/-- A row of the call's own, its cells written out. -/
theorem own_open {w : World} {base : Nat} {e : TypeId} {sz : Nat} {A : Option Addr} {n c : Nat} {xs : List Value} (h : w.ownsRow base e sz (.slice A n c) n xs) (hn : 0 < n ∨ 0 < c) :
    ∃ g cur, A = some ⟨g, 0, none⟩ ∧ base ≤ g ∧ w.heap[g]? = some (.cells (cur : List Value).toArray e (0, 0)) ∧ n ≤ c ∧ c ≤ maxLen ∧ cur.length = c * sz ∧ cur.take (n * sz) = xs := by
  rcases h.2 with ⟨e, _⟩ | ⟨g, cap, cur, e, h1, h2, h3, h4, h5, h6⟩
  · injection e with e1 e2 e3
    omega
  · injection e with e1 _ e3
    subst e3
    exact ⟨g, cur.toList, e1, h1, by simpa using h2, h3, h4, by simpa using h5, h6⟩
theorem own_shut {w : World} {base g : Nat} {e : TypeId} {sz : Nat} {n c : Nat} {cur xs : List Value} (hb : base ≤ g) (hg : w.heap[g]? = some (.cells cur.toArray e (0, 0))) (hn : n ≤ c) (hc : c ≤ maxLen) (hl : cur.length = c * sz) (hx : cur.take (n * sz) = xs) :
    w.ownsRow base e sz (.slice (some ⟨g, 0, none⟩) n c) n xs := by
  refine ⟨?_, .inr ⟨g, c, cur.toArray, rfl, hb, hg, hn, hc, by simpa using hl, by simpa using hx⟩⟩
  rw [← hx, List.length_take, hl]
  exact Nat.min_eq_left (Nat.mul_le_mul_right _ hn)
theorem grown_row {w : World} (g : Nat) (cs : Array Value) : w.grownBy (w.setRow g cs) (some g) :=
  ⟨rfl, rfl, rfl, by simp [World.setRow], fun k _ hk => setRow_other w g k cs (fun e => hk (by rw [e]))⟩
theorem grown_alloc (w : World) (o : Obj) (row : Option Nat) : w.grownBy (w.alloc o) row :=
  ⟨rfl, rfl, rfl, by simp, fun k hk _ => Below.heap_alloc w o k hk⟩
theorem grown_trans {w w1 w2 : World} {row : Option Nat} (h1 : w.grownBy w1 row) (h2 : w1.grownBy w2 row) : w.grownBy w2 row :=
  ⟨h2.os.trans h1.os, h2.tape.trans h1.tape, h2.output.trans h1.output, Nat.le_trans h1.size h2.size, fun k hk hn => (h2.block k (Nat.lt_of_lt_of_le hk h1.size) hn).trans (h1.block k hk hn)⟩
theorem splice_take {cur : List Value} {off : Nat} {cs : List Value} (h : off + cs.length ≤ cur.length) : (splice cur off cs).take (off + cs.length) = cur.take off ++ cs := by
  unfold splice
  rw [← List.append_assoc, List.take_left' (by rw [List.length_append, List.length_take]; omega)]
/-- What was shifted up by one, and one laid between. -/
theorem shift_one {cur a b x : List Value} {i n s : Nat} (hcur : cur.take (n * s) = a ++ b) (ha : a.length = i * s) (hb : b.length = (n - i) * s) (hx : x.length = s) (hi : i ≤ n) (hl : (n + 1) * s ≤ cur.length) :
    (splice (splice cur ((i + 1) * s) b) (i * s) x).take ((n + 1) * s) = a ++ x ++ b := by
  have e1 : (i + 1) * s = i * s + s := Nat.succ_mul i s
  have e2 : (n + 1) * s = n * s + s := Nat.succ_mul n s
  have e3 : (n - i) * s + i * s = n * s := by rw [← Nat.add_mul, Nat.sub_add_cancel hi]
  have h1 : (i + 1) * s + b.length = (n + 1) * s := by omega
  have ht : cur.take (i * s) = a := by
    have h := congrArg (List.take (i * s)) hcur
    rwa [List.take_take, Nat.min_eq_left (by omega), List.take_left' ha] at h
  have hs1 := splice_take (cur := cur) (off := (i + 1) * s) (cs := b) (by omega)
  rw [h1] at hs1
  have hlen : (splice cur ((i + 1) * s) b).length = cur.length := length_splice _ _ _ (by omega)
  unfold splice at hs1 hlen ⊢
  generalize cur.take ((i + 1) * s) ++ (b ++ cur.drop ((i + 1) * s + b.length)) = c1 at hs1 hlen
  have hc1 : c1.take (i * s) = a := by
    have h := congrArg (List.take (i * s)) hs1
    rw [List.take_take, Nat.min_eq_left (by omega), List.take_append_of_le_length (by rw [List.length_take]; omega), List.take_take, Nat.min_eq_left (by omega), ht] at h
    exact h
  have hd1 : (c1.drop (i * s + s)).take (b.length) = b := by
    have h := congrArg (List.drop (i * s + s)) hs1
    rw [List.drop_take, List.drop_left' (by rw [List.length_take]; omega)] at h
    rw [show (n + 1) * s - (i * s + s) = b.length by omega] at h
    exact h
  rw [hc1, hx]
  have : a ++ (x ++ c1.drop (i * s + s)) = (a ++ x) ++ c1.drop (i * s + s) := by rw [List.append_assoc]
  rw [this, List.take_append, List.take_of_length_le (by rw [List.length_append]; omega)]
  congr 1
  rw [show (n + 1) * s - (a ++ x).length = b.length by rw [List.length_append]; omega]
  exact hd1
/-- What stood ahead, one, what stood behind. -/
theorem grow_one {cur a b x : List Value} {i n s : Nat} (hcur : cur.take (i * s) = a) (hb : b.length = (n - i) * s) (hx : x.length = s) (hi : i ≤ n) (hl : (n + 1) * s ≤ cur.length) :
    (splice (splice cur (i * s) x) ((i + 1) * s) b).take ((n + 1) * s) = a ++ x ++ b := by
  have e1 : (i + 1) * s = i * s + s := Nat.succ_mul i s
  have e2 : (n + 1) * s = n * s + s := Nat.succ_mul n s
  have e3 : (n - i) * s + i * s = n * s := by rw [← Nat.add_mul, Nat.sub_add_cancel hi]
  have h1 := splice_take (cur := cur) (off := i * s) (cs := x) (by omega)
  rw [hcur, hx] at h1
  have hlen : (splice cur (i * s) x).length = cur.length := length_splice _ _ _ (by omega)
  have h2 := splice_take (cur := splice cur (i * s) x) (off := (i + 1) * s) (cs := b) (by omega)
  rw [show (i + 1) * s + b.length = (n + 1) * s by omega] at h2
  rw [h2, e1, h1]
end Go.Proofs.YtmhekoalhlfjoaaGreatDoor

/- cmp.Compare, cmp.Or, coin.Compare: the walks. Conditions: named in each theorem. -/
namespace Go.Proofs.YtmhekoalhlfjoaaGreatDoor
open Go.RowKit Go.ChangeShapes Go.WideShapes Go.ChangeAt

/-- Which of two numbers is ahead. -/
def cmpI (x y : Int) : Int := if x < y then -1 else if y < x then 1 else 0
theorem cnan_any (x : Int) (w : World) : Calls Tryz.prog 100 #[.int .i64 x] w (fun e w' => e = .returned (.bool false) ∧ w' = w) := by
  go_enter Tryz.func100, Tryz.ntmps100
  go_wp2
  go_ret
  exact ⟨by simp, rfl⟩
theorem cmp_any (x y : Int) (w : World) : Calls Tryz.prog 93 #[.int .i64 x, .int .i64 y] w (fun e w' => e = .returned (.int .i64 (cmpI x y)) ∧ w' = w) := by
  unfold cmpI
  by_cases h1 : x < y
  · rw [if_pos h1]
    go_enter Tryz.func93, Tryz.ntmps93
    go_wp2_with (go_at_call 100; refine (cnan_any _ _).mono ?_; rintro e w' ⟨rfl, rfl⟩)
    go_ret
    exact ⟨rfl, rfl⟩
  · rw [if_neg h1]
    by_cases h2 : y < x
    · rw [if_pos h2]
      go_enter Tryz.func93, Tryz.ntmps93
      go_wp2_with (go_at_call 100; refine (cnan_any _ _).mono ?_; rintro e w' ⟨rfl, rfl⟩)
      go_ret
      exact ⟨rfl, rfl⟩
    · rw [if_neg h2]
      go_enter Tryz.func93, Tryz.ntmps93
      go_wp2_with (go_at_call 100; refine (cnan_any _ _).mono ?_; rintro e w' ⟨rfl, rfl⟩)
      go_ret
      exact ⟨rfl, rfl⟩
def orL : List Int → Int
  | [] => 0
  | a :: r => if a ≠ 0 then a else orL r
theorem orL_at {zs : List Int} {i : Nat} (h : i < zs.length) : orL (zs.drop i) = if nth zs i ≠ 0 then nth zs i else orL (zs.drop (i + 1)) := by
  rw [nth_get h, List.drop_eq_getElem_cons h]
  rfl
set_option maxHeartbeats 4000000 in
set_option maxRecDepth 100000 in
theorem or_any (zs : List Int) (A : Option Addr) (n c : Nat) (hn : n ≤ 1000) (w : World) (h : ISl w w.heap.size A n zs) :
    Calls Tryz.prog 91 #[.slice A n c] w (fun e w' => e = .returned (.int .i64 (orL zs)) ∧ w' = w) := by
  have hl := ISl.len h
  obtain ⟨R, hR⟩ : ∃ R, R = orL zs := ⟨_, rfl⟩
  rw [← hR]
  have HR := aside hR
  have HL := aside hl
  have H := aside h
  clear hR hl h
  go_enter Tryz.func91, Tryz.ntmps91
  go_wp2
  go_loopw [8] (fun v8 wr => ∃ i : Nat, i ≤ n ∧ v8 = .int .i64 i ∧ wr = w ∧ Hid (R = orL (zs.drop i))) (fun v8 _ => n - (Go.RowKit.intOf v8).toNat)
  case atStart => exact ⟨0, Nat.zero_le _, rfl, rfl, HR⟩
  case round =>
    obtain ⟨i, hi, rfl, hw, HI⟩ := hrel
    try subst hw
    by_cases hin : i < n
    · obtain ⟨b, o, hAe, hbl, hc⟩ := ISl.at_ H.out hin
      have e := orL_at (zs := zs) (i := i) (by have := HL.out; omega)
      have i0 : (i : Int) < (n : Int) := by omega
      obtain ⟨x, hx⟩ : ∃ x, x = nth zs i := ⟨_, rfl⟩
      rw [← hx] at hc e
      by_cases hz : x = 0
      · rw [if_neg (by simp [hz])] at e
        have HI2 : Hid (R = orL (zs.drop (i + 1))) := aside (HI.out.trans e)
        subst hAe
        have hz2 : (x != 0) = false := by simp [hz]
        clear e hbl hx
        subst hz
        go_wp2
        exact ⟨⟨i + 1, by omega, by go_num, by trivial, HI2⟩, by simp [Go.RowKit.intOf]; omega⟩
      · rw [if_pos hz] at e
        have hRx := HI.out.trans e
        subst hAe
        have hz2 : (x != 0) = true := by simp [hz]
        have HRx := aside hRx
        clear e hbl hx hRx
        go_wp2
        (try simp only [Exit.inBlock, Exit.then])
        refine bodyPost_ret (v := .int .i64 x) (by simp only [results, Tryz.results91]; go_simp) rfl ?_
        exact ⟨by rw [HRx.out], rfl⟩
    · obtain rfl : n = i := by omega
      have e : zs.drop n = [] := List.drop_of_length_le (by have := HL.out; omega)
      have HRx : Hid (R = 0) := aside (by rw [HI.out, e]; rfl)
      have i0 : ((n : Int) < (n : Int)) = False := by simp
      clear e
      go_wp2
      (try simp only [Exit.inBlock, Exit.then])
      refine bodyPost_ret (v := .int .i64 0) (by simp only [results, Tryz.results91]; go_simp) rfl ?_
      exact ⟨by rw [HRx.out], rfl⟩
/-- A place's cells. -/
def plC (tx : List Nat) (at_ : Int) : List Value := digC tx ++ [.int .i64 at_]
theorem plC_len (tx : List Nat) (at_ : Int) : (plC tx at_).length = 33 := by simp [plC, digC_len]
theorem plC_at (tx : List Nat) (at_ : Int) : (plC tx at_)[32]? = some (.int .i64 at_) := by
  unfold plC
  rw [List.getElem?_append_right (by rw [digC_len]; exact Nat.le_refl _), digC_len]
  rfl
theorem plC_tx (tx : List Nat) (at_ : Int) {j : Nat} (h : j < 32) : (plC tx at_)[j]? = some (.int .u8 ((tx.getD j 0 : Nat) : Int)) := by
  unfold plC
  rw [List.getElem?_append_left (by rw [digC_len]; exact h)]
  unfold digC
  rw [List.getElem?_map, List.getElem?_range h]
  rfl
/-- Which of two places is ahead. -/
def cmpP (tx : List Nat) (a : Int) (tx' : List Nat) (a' : Int) : Int := orL [cmpY tx tx', cmpI a a']
set_option maxHeartbeats 20000000 in
set_option maxRecDepth 100000 in
theorem cmpP_any (tx tx' : List Nat) (at_ at' : Int) (hx : tx.length = 32) (hx' : tx'.length = 32) (w : World) :
    Calls Tryz.prog 73 #[.agg (plC tx at_).toArray, .agg (plC tx' at').toArray] w (fun e w' => e = .returned (.int .i64 (cmpP tx at_ tx' at')) ∧ Below w.heap.size w w') := by
  have B1 : Hid (Below w.heap.size w ((w.alloc (.cells (plC tx at_).toArray 59)).alloc (.cells (plC tx' at').toArray 59))) := aside (((Below.refl _ _).alloc (Nat.le_refl _) _).alloc (by simp) _)
  have D0 : Hid (((w.alloc (.cells (plC tx at_).toArray 59)).alloc (.cells (plC tx' at').toArray 59)).heap[w.heap.size]? = some (.cells (plC tx at_).toArray 59 (0, 0))) := aside ((Below.heap_alloc _ _ _ (by simp)).trans (heap_alloc_new w _))
  have D1 : Hid (((w.alloc (.cells (plC tx at_).toArray 59)).alloc (.cells (plC tx' at').toArray 59)).heap[w.heap.size + 1]? = some (.cells (plC tx' at').toArray 59 (0, 0))) := aside (by
    have h := heap_alloc_new (w.alloc (.cells (plC tx at_).toArray 59)) (.cells (plC tx' at').toArray 59)
    rwa [show (w.alloc (.cells (plC tx at_).toArray 59)).heap.size = w.heap.size + 1 by simp] at h)
  go_enter Tryz.func73, Tryz.ntmps73
  go_wp2_with fail
  generalize ((w.alloc (.cells (plC tx at_).toArray 59)).alloc (.cells (plC tx' at').toArray 59)) = w1 at B1 D0 D1 ⊢
  obtain ⟨B0, hB0⟩ : ∃ B0, B0 = w.heap.size := ⟨_, rfl⟩
  have EB := aside hB0
  simp only [← hB0] at D0 D1 ⊢
  clear hB0
  have l0 : B0 < w1.heap.size := (Array.getElem?_eq_some_iff.1 D0.out).1
  have l1 : B0 + 1 < w1.heap.size := (Array.getElem?_eq_some_iff.1 D1.out).1
  have p0 : w1.cell? ⟨B0, 32, none⟩ = some (.int .i64 at_) := by rw [cell_of_row _ _ 32 _ _ _ D0.out, List.getElem?_toArray]; exact plC_at _ _
  have p1 : w1.cell? ⟨B0 + 1, 32, none⟩ = some (.int .i64 at') := by rw [cell_of_row _ _ 32 _ _ _ D1.out, List.getElem?_toArray]; exact plC_at _ _
  have Y0 : YSl w1.drew w1.drew.heap.size (some ⟨B0, 0, none⟩) 32 tx := YSl.of hx l0 fun k hk => by
    rw [Nat.zero_add]
    show w1.cell? _ = _
    rw [cell_of_row _ _ k _ _ _ D0.out, List.getElem?_toArray]
    exact plC_tx _ _ hk
  have Y1 : YSl w1.drew w1.drew.heap.size (some ⟨B0 + 1, 0, none⟩) 32 tx' := YSl.of hx' l1 fun k hk => by
    rw [Nat.zero_add]
    show w1.cell? _ = _
    rw [cell_of_row _ _ k _ _ _ D1.out, List.getElem?_toArray]
    exact plC_tx _ _ hk
  have HBC := aside (bcmp_any tx tx' (some ⟨B0, 0, none⟩) (some ⟨B0 + 1, 0, none⟩) 32 32 32 32 w1.drew Y0 Y1)
  obtain ⟨r1, hr1⟩ : ∃ r, r = cmpY tx tx' := ⟨_, rfl⟩
  have HCI := aside (cmp_any at_ at')
  have HCE : Hid (orL [r1, cmpI at_ at'] = cmpP tx at_ tx' at') := aside (by rw [hr1]; rfl)
  rw [← hr1] at HBC
  obtain ⟨r2, hr2⟩ : ∃ r, r = cmpI at_ at' := ⟨_, rfl⟩
  rw [← hr2] at HCI HCE
  have HOR : Hid (Calls Tryz.prog 91 #[.slice (some ⟨w1.heap.size, 0, none⟩) 2 2] (w1.alloc (.cells #[.int .i64 r1, .int .i64 r2] 3)).drew (fun e w' => e = .returned (.int .i64 (orL [r1, r2])) ∧ w' = (w1.alloc (.cells #[.int .i64 r1, .int .i64 r2] 3)).drew)) := aside (or_any [r1, r2] (some ⟨w1.heap.size, 0, none⟩) 2 2 (by decide) _ ⟨rfl, fun _ => ⟨w1.heap.size, 0, rfl, by show w1.heap.size < (w1.alloc _).heap.size; simp, fun j u hu => by
    show (w1.alloc _).cell? _ = _
    rw [Nat.zero_add, cell_of_row _ _ j _ _ _ (heap_alloc_new w1 _), List.getElem?_toArray]
    exact hu⟩⟩)
  generalize orL [r1, r2] = R at HOR HCE
  have HS0 : w1.drew.cell? ⟨B0, 32, none⟩ = some (.int .i64 at_) ∧ w1.drew.cell? ⟨B0 + 1, 32, none⟩ = some (.int .i64 at') := ⟨p0, p1⟩
  have HS1 : (w1.alloc (.cells #[.int .i64 r1, .int .i64 r2] 3)).drew.cell? ⟨B0, 32, none⟩ = some (.int .i64 at_) ∧ (w1.alloc (.cells #[.int .i64 r1, .int .i64 r2] 3)).drew.cell? ⟨B0 + 1, 32, none⟩ = some (.int .i64 at') := ⟨(World.cell?_alloc_lt _ _ _ l0).trans p0, (World.cell?_alloc_lt _ _ _ l1).trans p1⟩
  clear Y0 Y1 hr1 hr2 p0 p1 D0 D1
  go_region_held3 (fun X => X.cell? ⟨B0, 32, none⟩ = some (.int .i64 at_) ∧ X.cell? ⟨B0 + 1, 32, none⟩ = some (.int .i64 at'))
    (first | exact HS0 | exact HS1)
    (first | (go_at_call 92; refine HBC.out.mono ?_; rintro e w' ⟨rfl, rfl⟩) | (go_at_call 93; refine (HCI.out _).mono ?_; rintro e w' ⟨rfl, rfl⟩) | (go_at_call 91; refine HOR.out.mono ?_; rintro e w' ⟨rfl, rfl⟩))
  all_goals go_wp2
  all_goals go_ret
  all_goals exact ⟨by rw [← HCE.out] <;> rfl, below_drawn (B1.out.alloc B1.out.size _) 1⟩
end Go.Proofs.YtmhekoalhlfjoaaGreatDoor
