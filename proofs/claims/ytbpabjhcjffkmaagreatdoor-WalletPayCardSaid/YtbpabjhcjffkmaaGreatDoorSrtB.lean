/- A row of places that is sorted in place; slices.swapRangeCmpFunc, slices.rotateCmpFunc. Conditions: named in each theorem. slices.insertionSortCmpFunc over places, the greatest first. Conditions: named in each theorem. -/
import Derived.Test.YtbpabjhcjffkmaaGreatDoorPickN
import Derived.Deep.RegionWith
import Derived.Deep.RegionHeld3
/- A row of places that is sorted in place; slices.swapRangeCmpFunc, slices.rotateCmpFunc. Conditions: named in each theorem. -/
namespace Go.Proofs.YtbpabjhcjffkmaaGreatDoor.Pk
open Go.RowKit Go.ChangeShapes Go.WideShapes Go.ChangeAt

/-- The block g holds the numbers xs, and room behind them. -/
def RowAt (W : World) (g : Nat) (xs : List Int) : Prop := ∃ tl : List Value, W.heap[g]? = some (.cells (xs.map (Value.int .i64) ++ tl).toArray 3 (0, 0))
/-- The block g alone has turned, of those that were there. -/
structure Upon (g : Nat) (W W' : World) : Prop where
 os : W'.os = W.os
 tape : W'.tape = W.tape
 output : W'.output = W.output
 size : W.heap.size ≤ W'.heap.size
 block : ∀ k, k < W.heap.size → k ≠ g → W'.heap[k]? = W.heap[k]?
section
variable {g : Nat} {W W' W'' : World} {xs : List Int}
theorem RowAt.lt (h : RowAt W g xs) : g < W.heap.size := by
 obtain ⟨tl, h⟩ := h
 exact (Array.getElem?_eq_some_iff.1 h).1
theorem RowAt.cell (h : RowAt W g xs) {k : Nat} (hk : k < xs.length) : W.cell? ⟨g, k, none⟩ = some (.int .i64 (nth xs k)) ∧ W.frozen? ⟨g, k, none⟩ = false := by
 obtain ⟨tl, h⟩ := h
 refine ⟨?_, by simp [World.frozen?, h]⟩
 have : (xs.map (Value.int .i64) ++ tl)[k]? = some (.int .i64 (nth xs k)) := by
  rw [List.getElem?_append_left (by simpa using hk), List.getElem?_map, List.getElem?_eq_getElem hk, nth_get hk]
  rfl
 simp [World.cell?, h, this]
theorem RowAt.set (h : RowAt W g xs) {k : Nat} (hk : k < xs.length) (v : Int) : RowAt (W.setCell ⟨g, k, none⟩ (.int .i64 v)) g (xs.set k v) := by
 obtain ⟨tl, h⟩ := h
 refine ⟨tl, ?_⟩
 rw [heap_setCell_same W g k _ 3 _ h]
 simp only [List.setIfInBounds_toArray]
 rw [List.set_append_left _ _ (by simpa using hk), List.map_set]
theorem RowAt.same (h : RowAt W g xs) (hb : W'.heap[g]? = W.heap[g]?) : RowAt W' g xs := by
 obtain ⟨tl, h⟩ := h
 exact ⟨tl, hb.trans h⟩
theorem RowAt.below (h : RowAt W g xs) (hb : Below W.heap.size W W') : RowAt W' g xs := h.same (hb.block g h.lt)
theorem Upon.refl (g : Nat) (W : World) : Upon g W W := ⟨rfl, rfl, rfl, Nat.le_refl _, fun _ _ _ => rfl⟩
theorem Upon.trans (h : Upon g W W') (h' : Upon g W' W'') : Upon g W W'' :=
 ⟨h'.os.trans h.os, h'.tape.trans h.tape, h'.output.trans h.output, Nat.le_trans h.size h'.size, fun k hk hn => (h'.block k (Nat.lt_of_lt_of_le hk h.size) hn).trans (h.block k hk hn)⟩
theorem Upon.of_below (h : Below W.heap.size W W') (g : Nat) : Upon g W W' := ⟨h.os, h.tape, h.output, h.size, fun k hk _ => h.block k hk⟩
theorem Upon.drew (W : World) (g : Nat) : Upon g W W.drew := ⟨rfl, rfl, rfl, Nat.le_refl _, fun _ _ _ => rfl⟩
theorem Upon.set (W : World) (g k : Nat) (u : Value) : Upon g W (W.setCell ⟨g, k, none⟩ u) :=
 have h := (Below.refl 0 W).setCell (p := ⟨g, k, none⟩) (Nat.zero_le _) u
 ⟨h.os, h.tape, h.output, h.size, fun _ _ hn => Below.heap_setCell _ _ _ _ hn⟩
theorem Upon.below {B : Nat} (h : Upon g W W') (hB : B ≤ g) (hW : B ≤ W.heap.size) : Below B W W' := ⟨h.os, h.tape, h.output, h.size, fun k hk => h.block k (by omega) (by omega)⟩
theorem Upon.cell (h : Upon g W W') {p : Addr} (hp : p.block < W.heap.size) (hn : p.block ≠ g) : W'.cell? p = W.cell? p := by
 unfold World.cell?
 rw [h.block p.block hp hn]
/-- Two places of the row are written, ahead of a draw. -/
theorem RowAt.two (h : RowAt W g xs) {a b : Nat} (ha : a < xs.length) (hb : b < xs.length) (u v : Int) : RowAt ((W.setCell ⟨g, a, none⟩ (.int .i64 u)).setCell ⟨g, b, none⟩ (.int .i64 v)).drew g ((xs.set a u).set b v) ∧ Upon g W ((W.setCell ⟨g, a, none⟩ (.int .i64 u)).setCell ⟨g, b, none⟩ (.int .i64 v)).drew := by
 have h1 : RowAt ((W.setCell ⟨g, a, none⟩ (.int .i64 u)).setCell ⟨g, b, none⟩ (.int .i64 v)) g ((xs.set a u).set b v) := (h.set ha u).set (by simpa using hb) v
 exact ⟨h1.same rfl, ((Upon.set _ g a _).trans (Upon.set _ g b _)).trans (Upon.drew _ g)⟩
end
set_option maxHeartbeats 4000000 in
set_option maxRecDepth 100000 in
theorem swapR_any (P U M V Q : List Int) (n : Nat) (hU : U.length = n) (hV : V.length = n) (g len c : Nat) (hlen : (P ++ (U ++ (M ++ (V ++ Q)))).length = len) (hl : len ≤ 1000) (cf : Value) (a b : Nat) (ha : a = P.length) (hb : b = P.length + n + M.length) (W : World) (h : RowAt W g (P ++ (U ++ (M ++ (V ++ Q))))) :
  Calls Tryz.prog 154 #[.slice (some ⟨g, 0, none⟩) len c, .int .i64 a, .int .i64 b, .int .i64 n, cf] W (fun e w' => e = .returned (.tuple #[]) ∧ RowAt w' g (P ++ (V ++ (M ++ (U ++ Q)))) ∧ Upon g W w') := by
 have HS := aside (SwpR.start P U M V Q)
 have HR := aside h
 have hlen2 : a + n ≤ len ∧ b + n ≤ len := by
  simp only [List.length_append] at hlen
  omega
 have HU := aside (Upon.refl g W)
 have hla : (P ++ (U ++ (M ++ (V ++ Q)))).length = len := hlen
 generalize hxs : P ++ (U ++ (M ++ (V ++ Q))) = xs at HS HR hla
 clear hxs h
 have HA := aside (And.intro ha hb)
 have HUV := aside (And.intro hU hV)
 clear hlen ha hb hU hV
 go_enter Tryz.func154, Tryz.ntmps154
 go_wp2
 go_loopw [10] (fun v10 wr => ∃ (i : Nat) (ys : List Int), i ≤ n ∧ v10 = .int .i64 i ∧ Hid (SwpR P U M V Q i ys) ∧ Hid (RowAt wr g ys) ∧ Hid (Upon g W wr) ∧ ys.length = len) (fun v10 _ => n - (Go.RowKit.intOf v10).toNat)
 case atStart => exact ⟨0, xs, Nat.zero_le _, rfl, HS, HR, HU, hla⟩
 case round =>
  clear HS HR HU hla
  obtain ⟨i, ys, hi, rfl, HS, HR, HU, hly⟩ := hrel
  by_cases hin : i < n
  ·have hst := HS.out.step hin HUV.out.1 HUV.out.2 HA.out.1 HA.out.2
   obtain ⟨s1, s2, s3, s4⟩ := hst
   have HS1 := aside s1
   obtain ⟨p1, f1⟩ := HR.out.cell s2
   obtain ⟨p2, f2⟩ := HR.out.cell s3
   have HT := aside (HR.out.two s2 s3 (nth ys (b + i)) (nth ys (a + i)))
   have i0 : (i : Int) < (n : Int) := by omega
   have hw1 : IntKind.i64.wrap ((a : Int) + (i : Int)) = ((a + i : Nat) : Int) := by rw [IntKind.wrap_i64]; omega
   have hw2 : IntKind.i64.wrap ((b : Int) + (i : Int)) = ((b + i : Nat) : Int) := by rw [IntKind.wrap_i64]; omega
   have q1 : ((a + i : Nat) : Int) < (len : Int) := by omega
   have q2 : ((b + i : Nat) : Int) < (len : Int) := by omega
   have hly2 : (((ys.set (a + i) (nth ys (b + i))).set (b + i) (nth ys (a + i))).length = len) := by simpa using hly
   have HLY := aside hly2
   generalize nth ys (b + i) = v at p2 HT HS1 HLY
   generalize nth ys (a + i) = u at p1 HT HS1 HLY
   obtain ⟨A1, hA1⟩ : ∃ q, q = a + i := ⟨_, rfl⟩
   obtain ⟨B1, hB1⟩ : ∃ q, q = b + i := ⟨_, rfl⟩
   rw [← hA1] at hw1 q1 p1 f1 HT HS1 HLY
   rw [← hB1] at hw2 q2 p2 f2 HT HS1 HLY
   have q1n : A1 < len := by omega
   have q2n : B1 < len := by omega
   have ne1 : (A1 = B1) = False := by simp only [eq_iff_iff, iff_false]; omega
   have ne2 : (B1 = A1) = False := by simp only [eq_iff_iff, iff_false]; omega
   clear s1 s2 s3 s4 hly2 hA1 hB1
   go_wp2_with fail
   go_region
   go_wp2
   exact ⟨⟨i + 1, _, hin, by go_num, HS1, aside HT.out.1, aside (HU.out.trans HT.out.2), HLY.out⟩, by simp [Go.RowKit.intOf]; omega⟩
  ·obtain rfl : n = i := by omega
   have i0 : ((n : Int) < (n : Int)) = False := by simp
   have hd := HS.out.done HUV.out.1 HUV.out.2
   subst hd
   clear hly
   go_wp2
   go_end0
   exact ⟨rfl, HR.out, HU.out⟩
set_option maxHeartbeats 4000000 in
set_option maxRecDepth 100000 in
theorem rot_any (A U V B : List Int) (hU0 : 0 < U.length) (hV0 : 0 < V.length) (g len c : Nat) (hlen : (A ++ (U ++ (V ++ B))).length = len) (hl : len ≤ 1000) (cf : Value) (a m b : Nat) (ha : a = A.length) (hm : m = A.length + U.length) (hb : b = A.length + U.length + V.length) (W : World) (h : RowAt W g (A ++ (U ++ (V ++ B)))) :
  Calls Tryz.prog 139 #[.slice (some ⟨g, 0, none⟩) len c, .int .i64 a, .int .i64 m, .int .i64 b, cf] W (fun e w' => e = .returned (.tuple #[]) ∧ RowAt w' g (A ++ (V ++ (U ++ B))) ∧ Upon g W w') := by
 have hs := RotS.start A U V B
 rw [← hm] at hs
 have HS := aside hs
 have HR := aside h
 have HU := aside (Upon.refl g W)
 have hlm : m ≤ len ∧ b ≤ len := by
  simp only [List.length_append] at hlen
  omega
 obtain ⟨i0, hi0⟩ : ∃ i, i = U.length := ⟨_, rfl⟩
 obtain ⟨j0, hj0⟩ : ∃ j, j = V.length := ⟨_, rfl⟩
 rw [← hi0] at HS hm hb hU0
 rw [← hj0] at HS hb hV0
 have e1 : IntKind.i64.wrap ((m : Int) - (a : Int)) = (i0 : Int) := by rw [IntKind.wrap_i64]; omega
 have e2 : IntKind.i64.wrap ((b : Int) - (m : Int)) = (j0 : Int) := by rw [IntKind.wrap_i64]; omega
 have hij : i0 + j0 ≤ len := by omega
 have hla : (A ++ (U ++ (V ++ B))).length = len := hlen
 generalize hxs : A ++ (U ++ (V ++ B)) = xs at HS HR hla
 clear hxs h hlen hs hi0 hj0 ha hm hb
 go_enter Tryz.func139, Tryz.ntmps139
 go_wp2
 clear e1 e2
 go_loopw [10, 11] (fun v10 v11 wr => ∃ (i j : Nat) (ys : List Int), v10 = .int .i64 i ∧ v11 = .int .i64 j ∧ 0 < i ∧ 0 < j ∧ i + j ≤ len ∧ Hid (RotS A U V B m i j ys) ∧ Hid (RowAt wr g ys) ∧ Hid (Upon g W wr) ∧ ys.length = len) (fun v10 v11 _ => (Go.RowKit.intOf v10).toNat + (Go.RowKit.intOf v11).toNat)
 case atStart => exact ⟨i0, j0, xs, rfl, rfl, hU0, hV0, hij, HS, HR, HU, hla⟩
 case round =>
  clear HS HR HU hla hij hU0 hV0
  obtain ⟨i, j, ys, rfl, rfl, hi, hj, hij, HS, HR, HU, hly⟩ := hrel
  rcases Nat.lt_trichotomy i j with hlt | heq | hgt
  ·obtain ⟨P, X, M, Y, Q, hys, hX, hY, hp1, hp2, hnx⟩ := HS.out.less hlt
   have hmi : i ≤ m := by
    have := HS.out
    obtain ⟨A', U', V', B', -, -, -, hm', -⟩ := this
    omega
   have HN := aside hnx
   have ne : (i : Int) ≠ (j : Int) := by omega
   have ne1 : ((i : Int) != (j : Int)) = true := by simpa using ne
   have ng : ((j : Int) < (i : Int)) = False := by simp only [eq_iff_iff, iff_false]; omega
   have hw1 : IntKind.i64.wrap ((m : Int) - (i : Int)) = ((m - i : Nat) : Int) := by rw [IntKind.wrap_i64]; omega
   have hw2 : IntKind.i64.wrap ((m : Int) + (j : Int)) = (m : Int) + (j : Int) := by rw [IntKind.wrap_i64]; omega
   have hw3 : IntKind.i64.wrap ((m : Int) + (j : Int) - (i : Int)) = ((m + j - i : Nat) : Int) := by rw [IntKind.wrap_i64]; omega
   have hw4 : IntKind.i64.wrap ((j : Int) - (i : Int)) = ((j - i : Nat) : Int) := by rw [IntKind.wrap_i64]; omega
   have hll : (P ++ (Y ++ (M ++ (X ++ Q)))).length = len := by
    rw [hys] at hly
    simp only [List.length_append] at hly ⊢
    omega
   have HLL := aside hll
   subst hys
   have HC := aside (swapR_any P X M Y Q i hX hY g len c hly hl cf (m - i) (m + j - i) hp1 hp2 wr HR.out)
   obtain ⟨p, hp⟩ : ∃ p, p = m - i := ⟨_, rfl⟩
   obtain ⟨q, hq⟩ : ∃ q, q = m + j - i := ⟨_, rfl⟩
   obtain ⟨r, hr⟩ : ∃ r, r = j - i := ⟨_, rfl⟩
   have hr2 := hr
   rw [← hp] at hw1 HC
   rw [← hq] at hw3 HC
   rw [← hr] at hw4 HN
   have hri : 0 < r ∧ i + r ≤ len ∧ r < j := by omega
   clear hp hq hr hr2 hX hY hp1 hp2 hnx hll hly hmi hlt
   go_wp2_with fail
   refine HC.out.mono ?_
   rintro e w1 ⟨rfl, hr1, hu1⟩
   have HR1 := aside hr1
   have HU1 := aside (HU.out.trans hu1)
   clear hr1 hu1 HC
   go_wp2
   exact ⟨⟨i, r, _, rfl, rfl, hi, hri.1, hri.2.1, HN, HR1, HU1, HLL.out⟩, by simp [Go.RowKit.intOf]; omega⟩
  ·subst heq
   obtain ⟨P, X, Y, Q, hys, hX, hY, hp1, hp2, hfin⟩ := HS.out.last
   have hmi : i ≤ m := by omega
   have ne1 : ((i : Int) != (i : Int)) = false := by simp
   have hw1 : IntKind.i64.wrap ((m : Int) - (i : Int)) = ((m - i : Nat) : Int) := by rw [IntKind.wrap_i64]; omega
   have hll : (P ++ (X ++ ([] ++ (Y ++ Q)))).length = len := by rw [← hys]; exact hly
   subst hys
   have HC := swapR_any P X [] Y Q i hX hY g len c hll hl cf (m - i) m hp1 hp2 wr HR.out
   rw [hfin] at HC
   have HC := aside HC
   obtain ⟨p, hp⟩ : ∃ p, p = m - i := ⟨_, rfl⟩
   rw [← hp] at hw1 HC
   clear hp hX hY hp1 hp2 hfin hll hly hmi
   go_wp2_with fail
   refine HC.out.mono ?_
   rintro e w1 ⟨rfl, hr1, hu1⟩
   have HR1 := aside hr1
   have HU1 := aside (HU.out.trans hu1)
   clear hr1 hu1 HC
   go_wp2
   go_end0
   exact ⟨rfl, HR1.out, HU1.out⟩
  ·obtain ⟨P, X, M, Y, Q, hys, hX, hY, hp1, hp2, hnx⟩ := HS.out.more hgt
   have hmi : i ≤ m := by
    have := HS.out
    obtain ⟨A', U', V', B', -, -, -, hm', -⟩ := this
    omega
   have HN := aside hnx
   have ne : (i : Int) ≠ (j : Int) := by omega
   have ne1 : ((i : Int) != (j : Int)) = true := by simpa using ne
   have ng : ((j : Int) < (i : Int)) := by omega
   have hw1 : IntKind.i64.wrap ((m : Int) - (i : Int)) = ((m - i : Nat) : Int) := by rw [IntKind.wrap_i64]; omega
   have hw4 : IntKind.i64.wrap ((i : Int) - (j : Int)) = ((i - j : Nat) : Int) := by rw [IntKind.wrap_i64]; omega
   have hll : (P ++ (Y ++ (M ++ (X ++ Q)))).length = len := by
    rw [hys] at hly
    simp only [List.length_append] at hly ⊢
    omega
   have HLL := aside hll
   subst hys
   have HC := aside (swapR_any P X M Y Q j hX hY g len c hly hl cf (m - i) m hp1 hp2 wr HR.out)
   obtain ⟨p, hp⟩ : ∃ p, p = m - i := ⟨_, rfl⟩
   obtain ⟨r, hr⟩ : ∃ r, r = i - j := ⟨_, rfl⟩
   rw [← hp] at hw1 HC
   rw [← hr] at hw4 HN
   have hri : 0 < r ∧ r + j ≤ len ∧ r < i := by omega
   clear hp hr hX hY hp1 hp2 hnx hll hly hmi hgt
   go_wp2_with fail
   refine HC.out.mono ?_
   rintro e w1 ⟨rfl, hr1, hu1⟩
   have HR1 := aside hr1
   have HU1 := aside (HU.out.trans hu1)
   clear hr1 hu1 HC
   go_wp2
   exact ⟨⟨r, j, _, rfl, rfl, hri.1, hj, hri.2.1, HN, HR1, HU1, HLL.out⟩, by simp [Go.RowKit.intOf]; omega⟩
end Go.Proofs.YtbpabjhcjffkmaaGreatDoor.Pk

/- slices.insertionSortCmpFunc over places, the greatest first. Conditions: named in each theorem. -/
namespace Go.Proofs.YtbpabjhcjffkmaaGreatDoor.Pk
open Go.RowKit Go.ChangeShapes Go.WideShapes Go.ChangeAt

/-- What cmp.Compare tells. -/
def cmpI (x y : Int) : Int := if x < y then -1 else if y < x then 1 else 0
theorem cmpI_neg {x y : Int} : cmpI x y < 0 ↔ x < y := by
 unfold cmpI
 split
 ·omega
 ·split <;> omega
/-- The comparison that is handed in: at places that are there it compares what lies at them, the greater one first. -/
def CmpC (g : Nat) (W : World) (nb : Nat) (gf : Int → Int) (Ok : Int → Prop) : Prop := ∀ W' x y, Upon g W W' → Ok x → Ok y →
 Calls Tryz.prog 66 #[.int .i64 x, .int .i64 y, .pointer (some ⟨nb, 0, none⟩)] W' (fun e w' => e = .returned (.int .i64 (cmpI (gf y) (gf x))) ∧ Below W'.heap.size W' w')
abbrev cmpV (nb : Nat) : Value := .func (.func 66) #[] #[.pointer (some ⟨nb, 0, none⟩)]
theorem CmpC.step {g nb : Nat} {W W' : World} {gf : Int → Int} {Ok : Int → Prop} (h : CmpC g W nb gf Ok) (hu : Upon g W W') : CmpC g W' nb gf Ok := fun W2 x y h2 hx hy => h W2 x y (hu.trans h2) hx hy
theorem InsJ.mem {gf : Int → Int} {A X B xs : List Int} {i j : Nat} (h : InsJ gf A X B i j xs) {k : Nat} (h1 : A.length ≤ k) (h2 : k ≤ i) : nth xs k ∈ X := by
 have hl := h.len
 obtain ⟨S1, S2, y, T, rfl, hj, hi, hp, hT, -, -⟩ := h
 have hk : k < (A ++ (S1 ++ y :: (S2 ++ (T ++ B)))).length := by omega
 rw [nth_app2 h1]
 have e : S1 ++ y :: (S2 ++ (T ++ B)) = (S1 ++ y :: S2) ++ (T ++ B) := by simp
 have hlt : k - A.length < (S1 ++ y :: S2).length := by simp only [List.length_append, List.length_cons]; omega
 rw [e, nth_app1 hlt]
 have hm := nth_mem hlt
 have hy : y ∈ X := by
  have : y ∈ X.drop (S1 ++ S2).length := by rw [← hT]; simp
  exact List.mem_of_mem_drop this
 rcases List.mem_append.1 hm with hm | hm
 ·exact List.mem_of_mem_take (hp.mem_iff.1 (List.mem_append.2 (.inl hm)))
 ·rcases List.mem_cons.1 hm with hm | hm
  ·rw [hm]; exact hy
  ·exact List.mem_of_mem_take (hp.mem_iff.1 (List.mem_append.2 (.inr hm)))
set_option maxHeartbeats 16000000 in
set_option maxRecDepth 100000 in
theorem ins_any (A X B : List Int) (gf : Int → Int) (Ok : Int → Prop) (hX : Rise X) (hOk : ∀ x ∈ X, Ok x) (g nb len c : Nat) (hlen : (A ++ (X ++ B)).length = len) (hl : len ≤ 1000) (a b : Nat) (ha : a = A.length) (hb : b = A.length + X.length) (W : World) (hc : CmpC g W nb gf Ok) (h : RowAt W g (A ++ (X ++ B))) :
  Calls Tryz.prog 126 #[.slice (some ⟨g, 0, none⟩) len c, .int .i64 a, .int .i64 b, cmpV nb] W (fun e w' => e = .returned (.tuple #[]) ∧ (∃ S, RowAt w' g (A ++ (S ++ B)) ∧ S.Perm X ∧ S.Pairwise (LtG gf)) ∧ Upon g W w') := by
 have hlb : b ≤ len ∧ a ≤ b := by
  simp only [List.length_append] at hlen
  omega
 have hwa : IntKind.i64.wrap ((a : Int) + 1) = ((a + 1 : Nat) : Int) := by rw [IntKind.wrap_i64]; omega
 by_cases h0 : X.length = 0
 ·have hX0 : X = [] := List.eq_nil_of_length_eq_zero h0
  subst hX0
  have hab : ((a : Int) + 1 < (b : Int)) = False := by simp only [eq_iff_iff, iff_false, List.length_nil] at hb ⊢; omega
  have hab2 : (((a + 1 : Nat) : Int) < (b : Int)) = False := by simp only [eq_iff_iff, iff_false, List.length_nil] at hb ⊢; omega
  have HR := aside h
  clear h hX hOk hlen ha hb h0 hc
  go_enter Tryz.func126, Tryz.ntmps126
  go_wp2
  refine wp_loop_rounds 1 ?_
  rw [rounds_succ]
  go_wp2
  go_end0
  exact ⟨rfl, ⟨[], HR.out, List.Perm.refl _, List.Pairwise.nil⟩, Upon.refl g _⟩
 ·have HS := aside (InsO.start (g := gf) (A := A) (B := B) (Nat.pos_of_ne_zero h0))
  have HR := aside h
  have HU := aside (Upon.refl g W)
  have HCC := aside hc
  have HX := aside hX
  have HOK := aside hOk
  have hla : (A ++ (X ++ B)).length = len := hlen
  have hab0 : a < b := by omega
  have HAB := aside (And.intro ha hb)
  rw [← ha] at HS
  generalize hxs : A ++ (X ++ B) = xs at HS HR hla
  clear hxs h hlen hX hOk hc ha hb h0
  go_enter Tryz.func126, Tryz.ntmps126
  go_wp2
  go_loopw [8] (fun v8 wr => ∃ (i : Nat) (ys : List Int), a + 1 ≤ i ∧ i ≤ b ∧ v8 = .int .i64 i ∧ Hid (InsO gf A X B i ys) ∧ Hid (RowAt wr g ys) ∧ Hid (Upon g W wr) ∧ ys.length = len) (fun v8 _ => b - (Go.RowKit.intOf v8).toNat)
  case atStart => exact ⟨a + 1, xs, Nat.le_refl _, hab0, by go_num, HS, HR, HU, hla⟩
  case round =>
   clear HS HR HU hla hwa
   obtain ⟨i, ys, hi1, hi2, rfl, HS, HR, HU, hly⟩ := hrel
   by_cases hin : i < b
   ·have i0 : (i : Int) < (b : Int) := by omega
    have HJ := aside (HS.out.inner (by have := HAB.out.1; have := HAB.out.2; omega))
    clear HS
    go_wp2_with fail
    go_loopw [9] (fun v9 wq => ∃ (j : Nat) (zs : List Int), a ≤ j ∧ j ≤ i ∧ v9 = .int .i64 j ∧ Hid (InsJ gf A X B i j zs) ∧ Hid (RowAt wq g zs) ∧ Hid (Upon g W wq) ∧ zs.length = len) (fun v9 _ => (Go.RowKit.intOf v9).toNat)
    case atStart => exact ⟨i, ys, by omega, Nat.le_refl _, rfl, HJ, HR, HU, hly⟩
    case round =>
     clear HJ HR HU hly
     obtain ⟨j, zs, hj1, hj2, rfl, HJ, HR, HU, hly⟩ := hrel
     by_cases hja : a < j
     ·obtain ⟨k, hjk⟩ : ∃ k, j = k + 1 := ⟨j - 1, by omega⟩
      obtain ⟨p1, f1⟩ := HR.out.cell (k := j) (by omega)
      obtain ⟨p2, f2⟩ := HR.out.cell (k := k) (by omega)
      have hA := HAB.out.1
      have m1 := HOK.out _ (HJ.out.mem (k := j) (by omega) (by omega))
      have m2 := HOK.out _ (HJ.out.mem (k := k) (by omega) (by omega))
      have hmv : gf (nth zs k) < gf (nth zs j) → InsJ gf A X B i k ((zs.set j (nth zs k)).set k (nth zs j)) := fun hl => by
       have hJ := HJ.out
       rw [hjk] at hJ hl ⊢
       exact hJ.move HX.out (by omega) hl
      have hst : ¬ gf (nth zs k) < gf (nth zs j) → InsO gf A X B (i + 1) zs := fun hl => HJ.out.stop HX.out (.inr (by rw [show j - 1 = k by omega]; exact hl))
      have HMV := aside hmv
      have HST := aside hst
      have hlz : ((zs.set j (nth zs k)).set k (nth zs j)).length = len := by simpa using hly
      have HLZ := aside hlz
      have HTW : Hid (∀ W', RowAt W' g zs → RowAt ((W'.setCell ⟨g, j, none⟩ (.int .i64 (nth zs k))).setCell ⟨g, k, none⟩ (.int .i64 (nth zs j))).drew g ((zs.set j (nth zs k)).set k (nth zs j)) ∧ Upon g W' ((W'.setCell ⟨g, j, none⟩ (.int .i64 (nth zs k))).setCell ⟨g, k, none⟩ (.int .i64 (nth zs j))).drew) := aside (fun W' h => h.two (by omega) (by omega) _ _)
      have HCL : Hid (∀ W', RowAt W' g zs → W'.cell? ⟨g, j, none⟩ = some (.int .i64 (nth zs j)) ∧ W'.cell? ⟨g, k, none⟩ = some (.int .i64 (nth zs k)) ∧ W'.frozen? ⟨g, j, none⟩ = false ∧ W'.frozen? ⟨g, k, none⟩ = false) := aside (fun W' h => ⟨(h.cell (by omega)).1, (h.cell (by omega)).1, (h.cell (by omega)).2, (h.cell (by omega)).2⟩)
      generalize nth zs j = y at p1 m1 HMV HST HLZ HTW HCL
      generalize nth zs k = z at p2 m2 HMV HST HLZ HTW HCL
      have HM1 := aside m1
      have HM2 := aside m2
      have HJK := aside hjk
      have j0 : (a : Int) < (j : Int) := by omega
      have hwk : IntKind.i64.wrap ((j : Int) - 1) = (k : Int) := by rw [IntKind.wrap_i64]; omega
      have jl : (j : Int) < (len : Int) := by omega
      have kl : (k : Int) < (len : Int) := by omega
      have jn : j < len := by omega
      have kn : k < len := by omega
      have ne1 : (j = k) = False := by simp only [eq_iff_iff, iff_false]; omega
      have ne2 : (k = j) = False := by simp only [eq_iff_iff, iff_false]; omega
      have hrd : RowAt wr.drew g zs := HR.out.same rfl
      have HRD := aside hrd
      have hs0 := HCL.out _ hrd
      have HS0 : wr.drew.cell? ⟨g, j, none⟩ = some (.int .i64 y) ∧ wr.drew.cell? ⟨g, k, none⟩ = some (.int .i64 z) := ⟨hs0.1, hs0.2.1⟩
      obtain ⟨r, hr⟩ : ∃ r, r = cmpI (gf z) (gf y) := ⟨_, rfl⟩
      have HRR := aside hr
      have HC2 : Hid (∀ W', Upon g W W' → Calls Tryz.prog 66 #[.int .i64 y, .int .i64 z, .pointer (some ⟨nb, 0, none⟩)] W' (fun e w' => e = .returned (.int .i64 r) ∧ Below W'.heap.size W' w')) := aside (fun W' hu => by rw [hr]; exact HCC.out W' y z hu HM1.out HM2.out)
      clear hmv hst hlz hjk hA m1 m2 hrd hs0 hr HJ f1 f2 p1 p2
      go_wp2_with fail
      go_region_held3 (fun X => X.cell? ⟨g, j, none⟩ = some (.int .i64 y) ∧ X.cell? ⟨g, k, none⟩ = some (.int .i64 z))
       (with_reducible (first | exact HS0 | exact HS1))
       (first | (go_at_call 66; refine ((HC2.out _ (HU.out.trans (Upon.drew _ g))).mono ?_); rintro e w4 ⟨rfl, hb⟩; have HR4 := aside (HRD.out.below hb); have HU4 := aside ((HU.out.trans (Upon.drew _ g)).trans (Upon.of_below hb g)); have hs4 := HCL.out _ HR4.out; have HS1 : w4.cell? ⟨g, j, none⟩ = some (.int .i64 y) ∧ w4.cell? ⟨g, k, none⟩ = some (.int .i64 z) := ⟨hs4.1, hs4.2.1⟩; clear hb))
      clear HS0 HS1
      obtain ⟨c1, c2, c3, c4⟩ := hs4
      by_cases hlt : r < 0
      ·have hgl := cmpI_neg.1 (HRR.out ▸ hlt)
       have HN := aside (HMV.out hgl)
       have HT := aside (HTW.out w4 HR4.out)
       clear hgl HST HMV
       go_wp2_with fail
       go_region
       go_wp2
       exact ⟨⟨k, _, by have := HJK.out; omega, by have := HJK.out; omega, rfl, HN, aside HT.out.1, aside (HU4.out.trans HT.out.2), HLZ.out⟩, by have := HJK.out; simp [Go.RowKit.intOf]; omega⟩
      ·have hge : ¬ gf z < gf y := fun h => by
        have h2 := cmpI_neg.2 h
        rw [← HRR.out] at h2
        omega
       have HN := aside (HST.out (by omega))
       clear hge
       have i2 : (i : Int) + 1 ≤ (b : Int) := by omega
       have hwi : IntKind.i64.wrap ((i : Int) + 1) = ((i + 1 : Nat) : Int) := by rw [IntKind.wrap_i64]; omega
       clear HST HMV c1 c2 c3 c4
       go_wp2
       exact ⟨⟨i + 1, zs, by omega, by omega, by go_num, HN, HR4, HU4, hly⟩, by simp [Go.RowKit.intOf]; omega⟩
     ·obtain rfl : a = j := by omega
      have HN := aside (HJ.out.stop HX.out (.inl HAB.out.1))
      have j0 : ((a : Int) < (a : Int)) = False := by simp
      have hwi : IntKind.i64.wrap ((i : Int) + 1) = ((i + 1 : Nat) : Int) := by rw [IntKind.wrap_i64]; omega
      have HR4 : Hid (RowAt wr.drew g zs) := aside (HR.out.same rfl)
      have HU4 := aside (HU.out.trans (Upon.drew wr g))
      clear HJ
      go_wp2_with fail
      go_region
      go_wp2
      exact ⟨⟨i + 1, zs, by omega, by omega, by go_num, HN, HR4, HU4, hly⟩, by simp [Go.RowKit.intOf]; omega⟩
   ·obtain rfl : b = i := by omega
    have i0 : ((b : Int) < (b : Int)) = False := by simp
    have hd : ∃ S, ys = A ++ (S ++ B) ∧ S.Perm X ∧ S.Pairwise (LtG gf) := by
     have h := HS.out
     rw [HAB.out.2] at h
     exact h.done
    obtain ⟨S, rfl, hp, hs⟩ := hd
    have HP := aside hp
    have HSo := aside hs
    clear HS hp hs hly
    go_wp2
    go_end0
    exact ⟨rfl, ⟨S, HR.out, HP.out, HSo.out⟩, HU.out⟩
end Go.Proofs.YtbpabjhcjffkmaaGreatDoor.Pk
