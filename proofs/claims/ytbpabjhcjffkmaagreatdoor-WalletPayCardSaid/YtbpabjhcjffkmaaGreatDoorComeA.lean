/- What comes in: a digest, coins. Conditions: named in each theorem. -/
import Derived.Test.YtbpabjhcjffkmaaGreatDoorCoinA
import Derived.Test.YtbpabjhcjffkmaaGreatDoorTab
namespace Go.Proofs.YtbpabjhcjffkmaaGreatDoor
open Go.RowKit Go.ChangeShapes Go.WideShapes Go.ChangeAt

theorem rounds_of_tab {w : World} (h : TabAt w) : RoundsAt w := by
 obtain ⟨T, fr, h1, h2⟩ := h
 exact ⟨T, fr, h1, h2⟩
theorem byte_of_wf {x : Int} (h : (Lit.int .u8 x).wf = true) : ∃ n : Nat, x = n ∧ n < 256 := by
 have e1 : IntKind.u8.min = 0 := by decide
 have e2 : IntKind.u8.max = 255 := by decide
 simp [Lit.wf, e1, e2] at h
 exact ⟨x.toNat, by omega, by omega⟩
section
variable {H : Type} {en : TypeId × Value → H} {W : World} {spare : Nat → Bool} {held : Bool}
set_option maxRecDepth 100000 in
theorem trod_dig (n : Nat) (cs : List Value) (y : DataW H × List MemPlace) (hl : cs.length = 32)
  (hf : DataW.trod en Tryz.prog W 0 spare held n 23 cs = some y) : ∃ d : List Nat, cs = digC d ∧ d.length = 32 ∧ ∀ x ∈ d, x < 256 := by
 have hC1 : Tryz.prog.cellsOf 5 = 1 := by kernel_rfl
 obtain ⟨xs, m, _, _, _, hlen, hf⟩ := DataW.trod_array Tryz.underlying23 hf
 rw [hC1] at hf
 have hp : ∀ i, i < 32 → ∃ x : Nat, cs[i]? = some (.int .u8 (x : Int)) ∧ x < 256 := by
  intro i hi
  have h := hf i hi
  rw [List.getElem?_eq_getElem (by omega)] at h
  obtain ⟨a, e, _, w⟩ := DataW.trod_int Tryz.underlying5 h
  obtain ⟨x, rfl, hx⟩ := byte_of_wf w
  refine ⟨x, ?_, hx⟩
  have h2 : (cs.drop (i * 1)).take 1 = [cs[i]] := by
   rw [Nat.mul_one, List.drop_eq_getElem_cons (by omega), List.take_succ_cons, List.take_zero]
  rw [h2] at e
  injection e with e
  rw [List.getElem?_eq_getElem (by omega), e]
 letI : Inhabited Nat := ⟨0⟩
 obtain ⟨X, hX⟩ := Go.Deep.choose_lt hp
 refine ⟨(List.range 32).map X, ?_, by simp, ?_⟩
 ·rw [digC_u8s (by simp)]
  apply List.ext_getElem?
  intro i
  by_cases hi : i < 32
  ·rw [(hX i hi).1]
   simp [u8s, hi]
  ·rw [List.getElem?_eq_none (by omega), List.getElem?_eq_none (by simp [u8s]; omega)]
 ·intro x hx
  obtain ⟨i, hi, rfl⟩ := List.mem_map.1 hx
  exact (hX i (List.mem_range.1 hi)).2
set_option maxRecDepth 100000 in
theorem open_dig {r : Reach} {b0 : Nat} {v : Value} {d : DataW H} {p : List MemPlace}
  (hv : Value.okWide Tryz.prog W r b0 23 v) (h : DataW.Trod en Tryz.prog W 0 spare held 23 v d p) : ∃ nm, v = digV nm ∧ nm.length = 32 ∧ ∀ x ∈ nm, x < 256 := by
 have hC : Tryz.prog.cellsOf 23 = 32 := by kernel_rfl
 have hv' : ∃ cs, v = .agg cs ∧ cs.size = Tryz.prog.cellsOf 23 := by
  simp only [Value.okWide, Tryz.underlying23] at hv
  obtain ⟨cs, h1, h2, _⟩ := hv
  exact ⟨cs, h1, h2⟩
 obtain ⟨⟨l⟩, rfl, hsz⟩ := hv'
 rw [hC] at hsz
 obtain ⟨fuel, hf⟩ := h
 obtain ⟨nm, e, hl, hb⟩ := trod_dig fuel l _ (by simpa using hsz) hf
 refine ⟨nm, ?_, hl, hb⟩
 rw [e]
 unfold digV
 rw [← digC_row hl]
set_option maxRecDepth 100000 in
theorem trod_byte (n : Nat) (cs : List Value) (y : DataW H × List MemPlace) (hl : cs.length = 1)
  (hf : DataW.trod en Tryz.prog W 0 spare held n 5 cs = some y) : ∃ x : Nat, cs = byV x ∧ x < 256 := by
 match cs, hl with
 | [c0], _ =>
  obtain ⟨a, e, _, w⟩ := DataW.trod_int Tryz.underlying5 hf
  obtain ⟨x, rfl, hx⟩ := byte_of_wf w
  simp at e
  subst e
  exact ⟨x, rfl, hx⟩
set_option maxRecDepth 100000 in
theorem open_bytes {fuel : Nat} {cs : List Value} {x : DataW H × List MemPlace}
  (h : DataW.trod en Tryz.prog W 0 spare held fuel 67 cs = some x) : ∃ A n c bs, cs = [.slice A n c] ∧ YSl W W.heap.size A n bs ∧ (∀ b ∈ bs, b < 256) := by
 obtain ⟨A, n, c, bs, e, h1, h2, _⟩ := open_recs (Q := fun x => x < 256) Tryz.underlying67 (by kernel_rfl) (by decide) byV_len 0 trod_byte h
 exact ⟨A, n, c, bs, e, h1, h2⟩
set_option maxRecDepth 100000 in
theorem trod_op (n : Nat) (cs : List Value) (y : DataW H × List MemPlace) (hl : cs.length = 3)
  (hf : DataW.trod en Tryz.prog W 0 spare held n 85 cs = some y) : ∃ r : ROp, cs = encR r ∧ (YSl W W.heap.size r.dA r.dn r.data ∧ ∀ b ∈ r.data, b < 256) := by
 have hC1 : Tryz.prog.cellsOf 3 = 1 := by kernel_rfl
 have hC2 : Tryz.prog.cellsOf 67 = 1 := by kernel_rfl
 obtain ⟨xs, m, _, _, _, hlen, hf⟩ := DataW.trod_struct Tryz.underlying85 hf
 match cs, hl with
 | [c0, c1, c2], _ =>
  match xs, hlen with
  | [y0, y1, y2], _ =>
   have h0 := hf 0 _ rfl
   have h1 := hf 1 _ rfl
   have h2 := hf 2 _ rfl
   simp [hC1, hC2] at h0 h1 h2
   obtain ⟨a0, e0, _, _⟩ := DataW.trod_int Tryz.underlying3 h0
   obtain ⟨a1, e1, _, _⟩ := DataW.trod_int Tryz.underlying3 h1
   obtain ⟨A, k, c, bs, e2, g1, g2⟩ := open_bytes h2
   simp at e0 e1 e2
   subst e0 e1 e2
   exact ⟨⟨a0, a1, A, k, c, bs⟩, rfl, g1, g2⟩
set_option maxRecDepth 100000 in
theorem open_lock {fuel : Nat} {cs : List Value} {x : DataW H × List MemPlace}
  (h : DataW.trod en Tryz.prog W 0 spare held fuel 25 cs = some x) : ∃ A n c rs, cs = [.slice A n c] ∧ RSl W W.heap.size A n rs := by
 obtain ⟨A, n, c, rs, e, h1, h2, _⟩ := open_recs (Q := fun r : ROp => YSl W W.heap.size r.dA r.dn r.data ∧ ∀ b ∈ r.data, b < 256) Tryz.underlying25 (by kernel_rfl) (by decide) encR_len noR trod_op h
 exact ⟨A, n, c, rs, e, h1, fun r hr => (h2 r hr).1, fun r hr => (h2 r hr).2⟩
set_option maxRecDepth 100000 in
theorem trod_out (n : Nat) (cs : List Value) (y : DataW H × List MemPlace) (hl : cs.length = 2)
  (hf : DataW.trod en Tryz.prog W 0 spare held n 27 cs = some y) : ∃ a A k c rs, cs = [.int .i64 a, .slice A k c] ∧ RSl W W.heap.size A k rs := by
 have hC1 : Tryz.prog.cellsOf 3 = 1 := by kernel_rfl
 have hC2 : Tryz.prog.cellsOf 25 = 1 := by kernel_rfl
 obtain ⟨xs, m, _, _, _, hlen, hf⟩ := DataW.trod_struct Tryz.underlying27 hf
 match cs, hl with
 | [c0, c1], _ =>
  match xs, hlen with
  | [y0, y1], _ =>
   have h0 := hf 0 _ rfl
   have h1 := hf 1 _ rfl
   simp [hC1, hC2] at h0 h1
   obtain ⟨a0, e0, _, _⟩ := DataW.trod_int Tryz.underlying3 h0
   obtain ⟨A, k, c, rs, e1, g1⟩ := open_lock h1
   simp at e0 e1
   subst e0 e1
   exact ⟨a0, A, k, c, rs, rfl, g1⟩
set_option maxRecDepth 100000 in
theorem trod_place (n : Nat) (cs : List Value) (y : DataW H × List MemPlace) (hl : cs.length = 33)
  (hf : DataW.trod en Tryz.prog W 0 spare held n 55 cs = some y) : ∃ tx a, cs = digC tx ++ [.int .i64 a] ∧ tx.length = 32 ∧ ∀ b ∈ tx, b < 256 := by
 have hC1 : Tryz.prog.cellsOf 3 = 1 := by kernel_rfl
 have hC2 : Tryz.prog.cellsOf 23 = 32 := by kernel_rfl
 obtain ⟨xs, m, _, _, _, hlen, hf⟩ := DataW.trod_struct Tryz.underlying55 hf
 match xs, hlen with
 | [y0, y1], _ =>
  have h0 := hf 0 _ rfl
  have h1 := hf 1 _ rfl
  simp [hC1, hC2] at h0 h1
  obtain ⟨d, e0, hd, hb⟩ := trod_dig m (cs.take 32) y0 (by rw [List.length_take]; omega) h0
  obtain ⟨a, e1, _, _⟩ := DataW.trod_int Tryz.underlying3 h1
  refine ⟨d, a, ?_, hd, hb⟩
  have e2 := List.take_append_drop 32 cs
  rw [← e2, e0]
  congr 1
  rw [← e1, List.take_of_length_le (by rw [List.length_drop]; omega)]
set_option maxRecDepth 100000 in
theorem trod_coin (n : Nat) (cs : List Value) (y : DataW H × List MemPlace) (hl : cs.length = 36)
  (hf : DataW.trod en Tryz.prog W 0 spare held n 57 cs = some y) : ∃ r : RCoin, cs = encC r ∧ (RSl W W.heap.size r.lA r.ln r.lk ∧ r.tx.length = 32 ∧ ∀ b ∈ r.tx, b < 256) := by
 have hC1 : Tryz.prog.cellsOf 3 = 1 := by kernel_rfl
 have hC2 : Tryz.prog.cellsOf 55 = 33 := by kernel_rfl
 have hC3 : Tryz.prog.cellsOf 27 = 2 := by kernel_rfl
 obtain ⟨xs, m, _, _, _, hlen, hf⟩ := DataW.trod_struct Tryz.underlying57 hf
 match xs, hlen with
 | [y0, y1, y2], _ =>
  have h0 := hf 0 _ rfl
  have h1 := hf 1 _ rfl
  have h2 := hf 2 _ rfl
  simp [hC1, hC2, hC3] at h0 h1 h2
  obtain ⟨d, at_, e0, hd, hb⟩ := trod_place m (cs.take 33) y0 (by rw [List.length_take]; omega) h0
  obtain ⟨a, A, k, c, rs, e1, g1⟩ := trod_out m ((cs.drop 33).take 2) y1 (by rw [List.length_take, List.length_drop]; omega) h1
  obtain ⟨ht, e2, _, _⟩ := DataW.trod_int Tryz.underlying3 h2
  refine ⟨⟨d, at_, a, A, k, c, rs, ht⟩, ?_, g1, hd, hb⟩
  have e3 := List.take_append_drop 33 cs
  have e4 := List.take_append_drop 2 (cs.drop 33)
  have e5 : (cs.drop 33).drop 2 = [.int .i64 ht] := by
   rw [List.drop_drop]
   rw [← e2]
   exact (List.take_of_length_le (by rw [List.length_drop]; omega)).symm
  rw [← e3, ← e4, e0, e1, e5]
  simp [encC]
set_option maxRecDepth 100000 in
theorem open_coins {fuel : Nat} {cs : List Value} {x : DataW H × List MemPlace}
  (h : DataW.trod en Tryz.prog W 0 spare held fuel 24 cs = some x) : ∃ A n c rs, cs = [.slice A n c] ∧ CSl W W.heap.size A n rs ∧ (∀ r ∈ rs, ∀ b ∈ r.tx, b < 256) := by
 obtain ⟨A, n, c, rs, e, h1, h2, _⟩ := open_recs (Q := fun r : RCoin => RSl W W.heap.size r.lA r.ln r.lk ∧ r.tx.length = 32 ∧ ∀ b ∈ r.tx, b < 256) Tryz.underlying24 (by kernel_rfl) (by decide) encC_len noC trod_coin h
 exact ⟨A, n, c, rs, e, ⟨h1, fun r hr => (h2 r hr).1, fun r hr => (h2 r hr).2.1⟩, fun r hr => (h2 r hr).2.2⟩
end
end Go.Proofs.YtbpabjhcjffkmaaGreatDoor
