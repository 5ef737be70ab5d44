/- lanes: two channels that read alike are told alike; what both sides tell, in one form. Conditions: named in each theorem. -/
import Derived.Test.YtpkclbemgmaahaaDoorLaneRc
import Derived.Test.YtpkclbemgmaahaaDoorLaneRd
import Derived.Test.YtpkclbemgmaahaaDoorLaneRe
import Derived.Test.YtpkclbemgmaahaaDoorLaneRg
import Derived.Test.YtpkclbemgmaahaaDoorLaneC1
import Derived.Test.YtpkclbemgmaahaaDoorLaneC2
import Derived.Test.YtpkclbemgmaahaaDoorLaneC3
import Derived.Deep.QuietTactic
import Derived.BigQuiet
namespace Go.Proofs.YtpkclbemgmaahaaDoor
open Go.RowKit Go.ChangeShapes Go.WideShapes Go.ChangeAt

set_option maxHeartbeats 8000000 in
set_option maxRecDepth 100000 in
theorem lanes_any (ps : List (Int × Int)) (A A' : Option Addr) (n c c' : Nat) (cl tu wh : Int) (ch : Bool) (w : World) (hp : PSl w w.heap.size A n ps) (hp' : PSl w w.heap.size A' n ps) (hn : n ≤ 100) :
    Calls Tryd.prog 10 #[.agg #[.slice A n c, .int .i64 cl, .int .i64 tu, .int .i64 wh, .bool ch], .agg #[.slice A' n c', .int .i64 cl, .int .i64 tu, .int .i64 wh, .bool ch]] w (fun e w' => e = .returned (.bool true) ∧ Below w.heap.size w w') := by
  have hpe := pair_eq
  go_enter Tryd.func10, Tryd.ntmps10
  go_wp2_with fail
  go_loopw [5] (fun v5 wr => ∃ (k : Nat), k ≤ n ∧ v5 = .int .i64 k ∧ Below w.heap.size w wr ∧ w.heap.size + 1 < wr.heap.size ∧ wr.cell? ⟨w.heap.size, 0, none⟩ = some (.slice A n c) ∧ wr.cell? ⟨w.heap.size + 1, 0, none⟩ = some (.slice A' n c')) (fun v5 _ => n - (intOf v5).toNat)
  case atStart => exact ⟨0, Nat.zero_le _, rfl, ((Below.refl _ _).alloc (Nat.le_refl _) _).alloc (by simp) _, by simp, by simp [go_sem, World.cell?_alloc_past], by simp [go_sem, World.cell?_alloc_past]⟩
  case round =>
    obtain ⟨k, hk, rfl, hb, hsz, d0, d1⟩ := hrel
    have hbz := hb.size
    by_cases k1 : k < n
    · obtain ⟨b1, o1, rfl, lt1, x0, x1⟩ := hp.at_ k1
      obtain ⟨b2, o2, rfl, lt2, y0, y1⟩ := hp'.at_ k1
      generalize ps.getD k (0, 0) = p at x0 x1 y0 y1
      obtain ⟨x, y⟩ := p
      simp only [] at x0 x1 y0 y1
      have e0 := (hb.cell (p := ⟨b1, o1 + k * 2, none⟩) lt1).trans x0
      have e1 := (hb.cell (p := ⟨b1, o1 + k * 2 + 1, none⟩) lt1).trans x1
      have f0 := (hb.cell (p := ⟨b2, o2 + k * 2, none⟩) lt2).trans y0
      have f1 := (hb.cell (p := ⟨b2, o2 + k * 2 + 1, none⟩) lt2).trans y1
      have i1 : (k : Int) < (n : Int) := by omega
      have i4 : (0 : Int) ≤ (k : Int) := by omega
      have l0 : w.heap.size < wr.heap.size := by omega
      have l1 : b1 < wr.heap.size := by omega
      have l2 : b2 < wr.heap.size := by omega
      clear x0 x1 y0 y1
      go_wp2_with fail
      go_quiet (fail)
      go_wp2
      exact ⟨⟨k + 1, by omega, rfl, ⟨hb.os, hb.tape, hb.output, hb.size, hb.block⟩, hsz, d0, d1⟩, by simp [intOf]; omega⟩
    · have i1 : ((k : Int) < (n : Int)) = False := by simp only [eq_iff_iff, iff_false]; omega
      have l0 : w.heap.size < wr.heap.size := by omega
      have HB := aside hb
      clear hb
      go_wp2
      go_ret
      exact ⟨rfl, HB.out⟩

/-- The slice lies below N0 or at or behind N. -/
def Off (N0 N : Nat) (A : Option Addr) (n : Nat) : Prop := ∀ b o, A = some ⟨b, o, none⟩ → 0 < n → b < N0 ∨ N ≤ b
/-- What a channel is that a function tells: as it is to be, or the empty one. -/
def ChOut (N0 N : Nat) (q : Int) (n : Nat) (ps : List (Int × Int)) (cl tu wh : Int) (ch : Bool) (w' : World) (v : Value) : Prop :=
  ∃ A' n' c' cl' tu' wh' ch' ps', v = .agg #[.slice A' n' c', .int .i64 cl', .int .i64 tu', .int .i64 wh', .bool ch'] ∧ PSl w' w'.heap.size A' n' ps' ∧ n' ≤ 100 ∧ Off N0 N A' n' ∧
    (n', ps', cl', tu', wh', ch') = if q = 0 then (n, ps, cl, tu, wh, ch) else (0, [], 0, 0, 0, false)
theorem Far.off {N0 N n : Nat} {A : Option Addr} (h : Far N A) : Off N0 N A n := fun b o e _ => .inr (h b o e)
theorem chOut_ok {N0 N : Nat} {q : Int} {n c : Nat} {A : Option Addr} {ps : List (Int × Int)} {cl tu wh : Int} {ch : Bool} {w : World} (hq : q = 0) (hn : n ≤ 100) (h : PSl w w.heap.size A n ps) (ho : Off N0 N A n) : ChOut N0 N q n ps cl tu wh ch w (chV A n c cl tu wh ch) :=
  ⟨A, n, c, cl, tu, wh, ch, ps, rfl, h, hn, ho, by rw [if_pos hq]⟩
theorem chOut_bad {N0 N : Nat} {q : Int} {n : Nat} {ps : List (Int × Int)} {cl tu wh : Int} {ch : Bool} {w : World} (hq : q ≠ 0) : ChOut N0 N q n ps cl tu wh ch w (chV none 0 0 0 0 0 false) :=
  ⟨none, 0, 0, 0, 0, 0, false, [], rfl, Sl.nil_, (by decide), (fun _ _ e _ => nomatch e), (by rw [if_neg hq])⟩
section
variable {N0 N : Nat} {q : Int} {n : Nat} {ps : List (Int × Int)} {cl tu wh : Int} {ch : Bool} {w w' : World} {v : Value}
theorem ChOut.below (h : ChOut N0 N q n ps cl tu wh ch w v) (hb : Below w.heap.size w w') : ChOut N0 N q n ps cl tu wh ch w' v := by
  obtain ⟨A', n', c', cl', tu', wh', ch', ps', rfl, hp, hn, ho, e⟩ := h
  exact ⟨A', n', c', cl', tu', wh', ch', ps', rfl, (Sl.below hp hb).more hb.size, hn, ho, e⟩
theorem PSl.setOff {B m N0 N : Nat} {A : Option Addr} (h : PSl w B A m ps) (ho : Off N0 N A m) {p : Addr} (h0 : N0 ≤ p.block) (h1 : p.block < N) (u : Value) : PSl (w.setCell p u) B A m ps :=
  ⟨Sl.len h, fun hn => by
    obtain ⟨b, off, e, hb, hc⟩ := Sl.cells h hn
    refine ⟨b, off, e, hb, fun j v hj => ?_⟩
    have hN := ho b off e hn
    rw [World.cell?_setCell_far _ _ _ _ (by simp; omega)]
    exact hc j v hj⟩
theorem ChOut.set5 {b : Nat} {v0 v1 v2 v3 v4 : Value} (h : ChOut N0 N q n ps cl tu wh ch w v) (h0 : N0 ≤ b) (h1 : b < N) : ChOut N0 N q n ps cl tu wh ch (set5 w b v0 v1 v2 v3 v4) v := by
  obtain ⟨A', n', c', cl', tu', wh', ch', ps', rfl, hp, hn, ho, e⟩ := h
  refine ⟨A', n', c', cl', tu', wh', ch', ps', rfl, ?_, hn, ho, e⟩
  rw [set5_size]
  unfold Go.Proofs.YtpkclbemgmaahaaDoor.set5
  iterate 5 refine PSl.setOff ?_ ho h0 h1 _
  exact hp
theorem ChOut.alloc (h : ChOut N0 N q n ps cl tu wh ch w v) (o : Obj) : ChOut N0 N q n ps cl tu wh ch (w.alloc o) v := h.below ((Below.refl _ _).alloc (Nat.le_refl _) _)
end
/-- Two channels that are told of one thing are told alike by lanes. -/
theorem lanes_out {N0 N M : Nat} {q : Int} {n : Nat} {ps : List (Int × Int)} {cl tu wh : Int} {ch : Bool} {w : World} {v u : Value} (h : ChOut N0 N q n ps cl tu wh ch w v) (k : ChOut N0 M q n ps cl tu wh ch w u) :
    Calls Tryd.prog 10 #[v, u] w (fun e w' => e = .returned (.bool true) ∧ Below w.heap.size w w') := by
  obtain ⟨A1, n1, c1, cl1, tu1, wh1, ch1, ps1, rfl, hp1, hn1, -, e1⟩ := h
  obtain ⟨A2, n2, c2, cl2, tu2, wh2, ch2, ps2, rfl, hp2, hn2, -, e2⟩ := k
  have e := e1.trans e2.symm
  simp only [Prod.mk.injEq] at e
  obtain ⟨rfl, rfl, rfl, rfl, rfl, rfl⟩ := e
  exact lanes_any ps1 A1 A2 n1 c1 c2 cl1 tu1 wh1 ch1 w hp1 hp2 hn1

theorem new_out (N0 : Nat) (a b : Int) (w : World) : Calls Tryd.prog 6 #[.int .i64 a, .int .i64 b] w (fun e w' => Below w.heap.size w w' ∧ ∃ v, e = .returned (.tuple #[v, errV (addQ a b)]) ∧ ChOut N0 w.heap.size (addQ a b) 1 [(a, b)] 0 0 0 false w' v) := by
  refine (new_any a b w).mono ?_
  rintro e w' ⟨hb, ⟨hq, A, c, rfl, hp, hf⟩ | ⟨hq, rfl⟩⟩
  · exact ⟨hb, _, by rw [hq, errV_0], chOut_ok hq (by decide) hp hf.off⟩
  · exact ⟨hb, _, rfl, chOut_bad hq⟩
section
variable (N0 : Nat) (ps : List (Int × Int)) (A : Option Addr) (n c : Nat) (cl tu wh : Int) (ch : Bool)
theorem pay_out (fr m : Int) (w : World) (hp : PSl w w.heap.size A n ps) : Calls Tryd.prog 12 #[.agg #[.slice A n c, .int .i64 cl, .int .i64 tu, .int .i64 wh, .bool ch], .int .i64 fr, .int .i64 m] w
    (fun e w' => Below w.heap.size w w' ∧ ∃ v, e = .returned (.tuple #[v, errV (payQ n ps cl tu wh ch fr m)]) ∧ ChOut N0 w.heap.size (payQ n ps cl tu wh ch fr m) (n + 1) (payD n ps fr m) cl tu wh ch w' v) := by
  refine (pay_any ps A n c cl tu wh ch fr m w hp).mono ?_
  rintro e w' ⟨hb, ⟨hq, A', c', rfl, hp', hf⟩ | ⟨hq, rfl⟩⟩
  · have hn := (turnsQ_ok (checkQ_ok (payQ_ok hq).1).1).2.1
    exact ⟨hb, _, by rw [hq, errV_0], chOut_ok hq (by omega) hp' hf.off⟩
  · exact ⟨hb, _, rfl, chOut_bad hq⟩
theorem turned_out (fr m : Int) (w : World) (hp : PSl w w.heap.size A n ps) : Calls Tryd.prog 11 #[.agg #[.slice A n c, .int .i64 cl, .int .i64 tu, .int .i64 wh, .bool ch], .int .i64 fr, .int .i64 m] w
    (fun e w' => Below w.heap.size w w' ∧ ∃ v, e = .returned (.tuple #[v, .int .i64 (payQ n ps cl tu wh ch fr m)]) ∧ ChOut N0 w.heap.size (payQ n ps cl tu wh ch fr m) (n + 1) (payD n ps fr m) cl tu wh ch w' v) := by
  refine (turned_any ps A n c cl tu wh ch fr m w hp).mono ?_
  rintro e w' ⟨hb, A', c', rfl, hp'⟩
  by_cases hq : payQ n ps cl tu wh ch fr m = 0
  · have hn := (turnsQ_ok (checkQ_ok (payQ_ok hq).1).1).2.1
    exact ⟨hb, _, rfl, by rw [show outV (payQ n ps cl tu wh ch fr m) A' (n + 1) c' cl tu wh ch = chV A' (n + 1) c' cl tu wh ch by rw [hq, outV_ok]]; exact chOut_ok hq (by omega) (hp' hq).1 (hp' hq).2.off⟩
  · exact ⟨hb, _, rfl, by rw [outV_bad hq]; exact chOut_bad hq⟩
theorem close_out (who turn now : Int) (w : World) (hp : PSl w w.heap.size A n ps) : Calls Tryd.prog 14 #[.agg #[.slice A n c, .int .i64 cl, .int .i64 tu, .int .i64 wh, .bool ch], .int .i64 who, .int .i64 turn, .int .i64 now] w
    (fun e w' => Below w.heap.size w w' ∧ ∃ v, e = .returned (.tuple #[v, errV (closeQ n ps cl tu wh ch who turn now)]) ∧ ChOut N0 w.heap.size (closeQ n ps cl tu wh ch who turn now) n ps (who + 1) turn now false w' v) := by
  refine (close_any ps A n c cl tu wh ch who turn now w hp).mono ?_
  rintro e w' ⟨hb, ⟨hq, A', c', rfl, hp', hf⟩ | ⟨hq, rfl⟩⟩
  · have hn := (turnsQ_ok (checkQ_ok (closeQ_ok hq).1).1).2.1
    exact ⟨hb, _, by rw [hq, errV_0], chOut_ok hq (by omega) hp' hf.off⟩
  · exact ⟨hb, _, rfl, chOut_bad hq⟩
theorem shut_out (who turn now : Int) (w : World) (hp : PSl w w.heap.size A n ps) (hA : ∀ b o, A = some ⟨b, o, none⟩ → 0 < n → b < N0) : Calls Tryd.prog 13 #[.agg #[.slice A n c, .int .i64 cl, .int .i64 tu, .int .i64 wh, .bool ch], .int .i64 who, .int .i64 turn, .int .i64 now] w
    (fun e w' => Below w.heap.size w w' ∧ ∃ v, e = .returned (.tuple #[v, .int .i64 (closeQ n ps cl tu wh ch who turn now)]) ∧ ChOut N0 w.heap.size (closeQ n ps cl tu wh ch who turn now) n ps (who + 1) turn now false w' v) := by
  refine (shut_any ps A n c cl tu wh ch who turn now w hp).mono ?_
  rintro e w' ⟨hb, rfl⟩
  by_cases hq : closeQ n ps cl tu wh ch who turn now = 0
  · have hc := checkQ_ok (closeQ_ok hq).1
    have hn := (turnsQ_ok hc.1).2.1
    have hch : ch = false := (hc.2.2.2.2.2.2.2.1 (closeQ_ok hq).2.2.2.2.2).2.2
    subst hch
    exact ⟨hb, _, rfl, by rw [show outV (closeQ n ps cl tu wh false who turn now) A n c (who + 1) turn now false = chV A n c (who + 1) turn now false by rw [hq, outV_ok]]; exact chOut_ok hq (by omega) (Sl.more (Sl.below hp hb) hb.size) (fun b o e k => .inl (hA b o e k))⟩
  · exact ⟨hb, _, rfl, by rw [outV_bad hq]; exact chOut_bad hq⟩
theorem show_out (who now : Int) (w : World) (hp : PSl w w.heap.size A n ps) : Calls Tryd.prog 16 #[.agg #[.slice A n c, .int .i64 cl, .int .i64 tu, .int .i64 wh, .bool ch], .int .i64 who, .int .i64 now] w
    (fun e w' => Below w.heap.size w w' ∧ ∃ v, e = .returned (.tuple #[v, errV (showQ n ps cl tu wh ch who now)]) ∧ ChOut N0 w.heap.size (showQ n ps cl tu wh ch who now) n ps cl tu wh true w' v) := by
  refine (show_any ps A n c cl tu wh ch who now w hp).mono ?_
  rintro e w' ⟨hb, ⟨hq, A', c', rfl, hp', hf⟩ | ⟨hq, rfl⟩⟩
  · have hn := (turnsQ_ok (checkQ_ok (showQ_ok hq).1).1).2.1
    exact ⟨hb, _, by rw [hq, errV_0], chOut_ok hq (by omega) hp' hf.off⟩
  · exact ⟨hb, _, rfl, chOut_bad hq⟩
theorem shown_out (who now : Int) (w : World) (hp : PSl w w.heap.size A n ps) (hA : ∀ b o, A = some ⟨b, o, none⟩ → 0 < n → b < N0) : Calls Tryd.prog 15 #[.agg #[.slice A n c, .int .i64 cl, .int .i64 tu, .int .i64 wh, .bool ch], .int .i64 who, .int .i64 now] w
    (fun e w' => Below w.heap.size w w' ∧ ∃ v, e = .returned (.tuple #[v, .int .i64 (showQ n ps cl tu wh ch who now)]) ∧ ChOut N0 w.heap.size (showQ n ps cl tu wh ch who now) n ps cl tu wh true w' v) := by
  refine (shown_any ps A n c cl tu wh ch who now w hp).mono ?_
  rintro e w' ⟨hb, rfl⟩
  by_cases hq : showQ n ps cl tu wh ch who now = 0
  · have hn := (turnsQ_ok (checkQ_ok (showQ_ok hq).1).1).2.1
    exact ⟨hb, _, rfl, by rw [show outV (showQ n ps cl tu wh ch who now) A n c cl tu wh true = chV A n c cl tu wh true by rw [hq, outV_ok]]; exact chOut_ok hq (by omega) (Sl.more (Sl.below hp hb) hb.size) (fun b o e k => .inl (hA b o e k))⟩
  · exact ⟨hb, _, rfl, by rw [outV_bad hq]; exact chOut_bad hq⟩
theorem ends_out (now : Int) (w : World) (hp : PSl w w.heap.size A n ps) : Calls Tryd.prog 18 #[.agg #[.slice A n c, .int .i64 cl, .int .i64 tu, .int .i64 wh, .bool ch], .int .i64 now] w
    (fun e w' => Below w.heap.size w w' ∧ ∃ x y, e = .returned (.tuple #[.agg #[.int .i64 x, .int .i64 y], errV (endsQ n ps cl tu wh ch now)]) ∧ (x, y) = if endsQ n ps cl tu wh ch now = 0 then endsD ps cl tu ch else (0, 0)) := by
  refine (ends_any ps A n c cl tu wh ch now w hp).mono ?_
  rintro e w' ⟨hb, ⟨hq, rfl⟩ | ⟨hq, rfl⟩⟩
  · exact ⟨hb, _, _, by rw [hq, errV_0], by rw [if_pos hq]⟩
  · exact ⟨hb, 0, 0, rfl, by rw [if_neg hq]⟩
theorem final_out (now : Int) (w : World) (hp : PSl w w.heap.size A n ps) : Calls Tryd.prog 17 #[.agg #[.slice A n c, .int .i64 cl, .int .i64 tu, .int .i64 wh, .bool ch], .int .i64 now] w
    (fun e w' => Below w.heap.size w w' ∧ ∃ x y, e = .returned (.tuple #[.agg #[.int .i64 x, .int .i64 y], .int .i64 (endsQ n ps cl tu wh ch now)]) ∧ (x, y) = if endsQ n ps cl tu wh ch now = 0 then endsD ps cl tu ch else (0, 0)) := by
  refine (final_any ps A n c cl tu wh ch now w hp).mono ?_
  rintro e w' ⟨hb, rfl⟩
  by_cases hq : endsQ n ps cl tu wh ch now = 0
  · exact ⟨hb, _, _, by rw [show outE (endsQ n ps cl tu wh ch now) (endsD ps cl tu ch) = .agg #[.int .i64 (endsD ps cl tu ch).1, .int .i64 (endsD ps cl tu ch).2] by rw [hq, outE_ok]], by rw [if_pos hq]⟩
  · exact ⟨hb, 0, 0, by rw [outE_bad hq], by rw [if_neg hq]⟩
end
end Go.Proofs.YtpkclbemgmaahaaDoor
