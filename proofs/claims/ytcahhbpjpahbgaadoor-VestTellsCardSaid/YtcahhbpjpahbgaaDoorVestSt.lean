/- vest.Steps: what it returns for every grant and every list of times. Condition: the list holds numbers of int's range (each slice of ints does). -/
import Derived.Test.YtcahhbpjpahbgaaDoorVest
import Derived.Test.YtcahhbpjpahbgaaDoorMem
namespace Go.Proofs.YtcahhbpjpahbgaaDoor
open Go.RowKit Go.ChangeShapes Go.WideShapes Go.ChangeAt

def TimeOk (n : Int) : Prop := 0 ≤ n ∧ n ≤ 4294967296
/-- The times ahead of place i are right, and rise. -/
def FineTo (ts : List Int) (i : Nat) : Prop := ∀ j, j < i → TimeOk (nth ts j) ∧ (0 < j → nth ts (j - 1) ≤ nth ts j)
def lastV (t s c l : Int) (ts : List Int) (k : Nat) : Int := if k = 0 then 0 else vested t s c l (nth ts (k - 1))
def stepAt (t s c l : Int) (ts : List Int) (k : Nat) : Int := vested t s c l (nth ts k) - lastV t s c l ts k
def stepsTo (t s c l : Int) (ts : List Int) (k : Nat) : List Int := (List.range k).map (stepAt t s c l ts)
theorem stepsTo_len (t s c l : Int) (ts : List Int) (k : Nat) : (stepsTo t s c l ts k).length = k := by simp [stepsTo]
theorem stepsTo_succ (t s c l : Int) (ts : List Int) (k : Nat) : stepsTo t s c l ts (k + 1) = stepsTo t s c l ts k ++ [stepAt t s c l ts k] := by simp [stepsTo, List.range_succ]

def StepsErr (t s c l : Int) (ts : List Int) (k : Int) : Prop :=
  (¬ GOk t s c l ∧ k = 2) ∨ (GOk t s c l ∧ 100 < ts.length ∧ k = 4) ∨
  (GOk t s c l ∧ ts.length ≤ 100 ∧ ∃ i, i < ts.length ∧ FineTo ts i ∧ ((¬ TimeOk (nth ts i) ∧ k = 2) ∨ (TimeOk (nth ts i) ∧ 0 < i ∧ nth ts i < nth ts (i - 1) ∧ k = 8)))

def PostSteps (t s c l : Int) (ts : List Int) (w : World) (e : Ending) (w' : World) : Prop :=
  ∃ A n c' er, e = .returned (.tuple #[.slice A n c', er]) ∧ Below w.heap.size w w' ∧
    ((GOk t s c l ∧ ts.length ≤ 100 ∧ FineTo ts ts.length ∧ er = .nilIface ∧ n = ts.length ∧ n ≤ c' ∧ c' ≤ maxLen ∧ ISl w' w'.heap.size A n (stepsTo t s c l ts ts.length)) ∨
     (∃ k, StepsErr t s c l ts k ∧ er = .iface 26 (.int .i64 k) ∧ n = 0 ∧ A = none ∧ c' = 0))

theorem lastV_succ (t s c l : Int) (ts : List Int) (k : Nat) : lastV t s c l ts (k + 1) = vested t s c l (nth ts k) := by simp [lastV]
theorem fine_succ {ts : List Int} {k : Nat} (h : FineTo ts k) (h1 : TimeOk (nth ts k)) (h2 : 0 < k → nth ts (k - 1) ≤ nth ts k) : FineTo ts (k + 1) := fun j hj => by
  rcases Nat.lt_or_ge j k with hjk | hjk
  · exact h j hjk
  · obtain rfl : j = k := by omega
    exact ⟨h1, h2⟩
theorem ret_int {k : IntKind} {a b : Int} (h : a = b) : Value.int k a = .int k b := by rw [h]

theorem lastV_bd (t s c l : Int) (ts : List Int) (k : Nat) (h : GOk t s c l) : 0 ≤ lastV t s c l ts k ∧ lastV t s c l ts k ≤ 1073741824 := by
  unfold lastV
  split
  · omega
  · have := vested_bd t s c l (nth ts (k - 1)) h
    have := h.2.1
    omega

set_option maxHeartbeats 4000000 in
theorem steps_any (t s c l : Int) (ts : List Int) (A : Option Addr) (n cap : Nat) (w : World) (hcap : n ≤ cap) (_hmax : cap ≤ maxLen) (hts : ISl w w.heap.size A n ts) :
    Calls Tryd.prog 10 #[.agg #[.int .i64 t, .int .i64 s, .int .i64 c, .int .i64 l], .slice A n cap] w (PostSteps t s c l ts w) := by
  have hlen := hts.len
  have _hm := _hmax
  unfold maxLen at _hm
  go_enter Tryd.func10, Tryd.ntmps10
  go_wp2_with fail
  refine (check_any t s c l _).mono ?_
  rintro e w1 ⟨v, rfl, ⟨hok, rfl⟩ | ⟨hno, rfl⟩, rfl⟩
  · by_cases hn : n ≤ 100
    · have Hlen := aside hlen
      clear hlen
      go_wp2_with fail
      go_loopw [7, 8, 24] (fun v7 v8 v24 wr => ∃ k : Nat, k ≤ n ∧ v24 = .int .i64 k ∧ v8 = .int .i64 (lastV t s c l ts k) ∧ FineTo ts k ∧
          Below (w.heap.size + 1) (w.alloc (.cells #[.int .i64 t, .int .i64 s, .int .i64 c, .int .i64 l] 23)) wr ∧
          wr.ownsRow (w.heap.size + 1) 3 1 v7 k ((stepsTo t s c l ts k).map (Value.int .i64)))
        (fun _ _ v24 _ => n - (intOf v24).toNat)
      case atStart =>
        refine ⟨0, Nat.zero_le _, rfl, rfl, fun j hj => absurd hj (by omega), ?_, ?_⟩
        · exact (Below.refl _ _).alloc (by simp) _
        · exact World.ownsRow_nil _ _ _ _
      case round =>
        obtain ⟨k, hk, rfl, rfl, hfine, hb, hown⟩ := hrel
        by_cases hlt : k < n
        · obtain ⟨b, off, rfl, hbl, hc⟩ := hts.at_ hlt
          obtain ⟨hbc, hbf⟩ := bcell hb
          have hz := hb.size
          simp only [World.size_alloc] at hz
          have hcr : wr.cell? ⟨b, off + k, none⟩ = some (.int .i64 (nth ts k)) := by
            rw [hbc b _ (by omega), World.cell?_alloc_past _ _ _ hbl]; exact hc
          have hzz : w.heap.size < wr.heap.size := hz
          have hz1' : w.heap.size < w.heap.size + 1 := by omega
          go_wp2_with fail
          refine (at_any _ _ _ _ _ _).mono ?_
          rintro e w2 ⟨n2, v2, rfl, hr2, hb2⟩
          have hz2 := hb2.size
          have hown2 := own_below hown hb2
          have hbB : Below (w.heap.size + 1) (w.alloc (.cells #[.int .i64 t, .int .i64 s, .int .i64 c, .int .i64 l] 23)) w2 := hb.trans (hb2.mono hz)
          clear hown hb
          rcases hr2 with ⟨h2, rfl, rfl⟩ | ⟨h2, rfl, rfl⟩
          · have b1 := vested_bd t s c l (nth ts k) hok
            have b2 := lastV_bd t s c l ts k hok
            have b3 := hok.2.1
            obtain ⟨b11, b12⟩ := b1
            obtain ⟨b21, b22⟩ := b2
            rcases Nat.eq_zero_or_pos k with rfl | hk0
            · go_wp2_with (at_builtin; refine wpList_push rfl (.tmp 50) (.tmp 54) 24 rfl (w.heap.size + 1) _ 1 8 Tryd.underlying24 intInfo rfl (by decide) _ _ _ rfl rfl rfl rfl hown2 (by omega) (by unfold maxLen; omega) (by omega) ?_)
              intro A3 c3 w3 hc31 hc32 hown3 hb3 hz3 _
              go_wp2
              refine ⟨⟨1, by omega, rfl, ret_int (lastV_succ t s c l ts 0).symm, fine_succ hfine ⟨h2.2.1, h2.2.2⟩ (by omega), hbB.trans hb3, ?_⟩, by simp [intOf]; omega⟩
              rw [stepsTo_succ, List.map_append]
              exact hown3
            · obtain ⟨m, rfl⟩ : ∃ m, k = m + 1 := ⟨k - 1, by omega⟩
              obtain ⟨hbc2, hbf2⟩ := bcell hbB
              have hcp : w2.cell? ⟨b, off + m, none⟩ = some (.int .i64 (nth ts m)) := by
                obtain ⟨b', off', hA, _, hc'⟩ := hts.at_ (k := m) (by omega)
                simp only [Option.some.injEq, Addr.mk.injEq, and_true] at hA
                obtain ⟨rfl, rfl⟩ := hA
                rw [hbc2 b _ (by omega), World.cell?_alloc_past _ _ _ hbl]; exact hc'
              clear hbc hbf hbc2 hbf2
              by_cases hle : nth ts m ≤ nth ts (m + 1)
              · go_wp2_with (at_builtin; refine wpList_push rfl (.tmp 50) (.tmp 54) 24 rfl (w.heap.size + 1) _ 1 8 Tryd.underlying24 intInfo rfl (by decide) _ _ _ rfl rfl rfl rfl hown2 (by omega) (by unfold maxLen; omega) (by omega) ?_)
                intro A3 c3 w3 hc31 hc32 hown3 hb3 hz3 _
                go_wp2
                refine ⟨⟨m + 1 + 1, by omega, by go_num, ret_int (lastV_succ t s c l ts (m + 1)).symm, fine_succ hfine ⟨h2.2.1, h2.2.2⟩ (fun _ => hle), hbB.trans hb3, ?_⟩, by simp [intOf]; omega⟩
                rw [stepsTo_succ, List.map_append]
                exact hown3
              · have hlt' : nth ts (m + 1) < nth ts m := by omega
                clear hle
                go_wp2
                go_ret2
                go_tidy
                have hl := Hlen.out
                exact ⟨none, 0, 0, _, rfl, ((Below.refl _ _).alloc (Nat.le_refl _) _).trans (hbB.mono (by omega)), .inr ⟨8, .inr (.inr ⟨hok, by omega, m + 1, by omega, hfine, .inr ⟨⟨h2.2.1, h2.2.2⟩, by omega, hlt', rfl⟩⟩), rfl, rfl, rfl, rfl⟩⟩
          · have hl := Hlen.out
            have hno' : ¬ TimeOk (nth ts k) := fun h => h2 ⟨hok, h⟩
            clear h2
            go_wp2
            go_ret2
            go_tidy
            exact ⟨none, 0, 0, _, rfl, ((Below.refl _ _).alloc (Nat.le_refl _) _).trans (hbB.mono (by omega)), .inr ⟨2, .inr (.inr ⟨hok, by omega, k, by omega, hfine, .inl ⟨hno', rfl⟩⟩), rfl, rfl, rfl, rfl⟩⟩
        · obtain ⟨A3, c3, rfl, hc31, hc32⟩ := own_slice hown
          obtain rfl : k = n := by omega
          go_wp2
          go_ret2
          go_tidy
          have hl := Hlen.out
          exact ⟨_, _, _, _, rfl, ((Below.refl _ _).alloc (Nat.le_refl _) _).trans (hb.mono (by omega)), .inl ⟨hok, by omega, by rw [hl]; exact hfine, rfl, hl.symm, hc31, hc32, by rw [hl]; exact Sl.own hown⟩⟩
    · have hn' : 100 < n := by omega
      go_wp2
      go_ret2
      go_tidy
      exact ⟨none, 0, 0, _, rfl, ((Below.refl _ _).alloc (Nat.le_refl _) _).alloc (by simp) _, .inr ⟨4, .inr (.inl ⟨hok, by omega, rfl⟩), rfl, rfl, rfl, rfl⟩⟩
  · go_wp2
    go_ret2
    go_tidy
    exact ⟨none, 0, 0, _, rfl, ((Below.refl _ _).alloc (Nat.le_refl _) _).alloc (by simp) _, .inr ⟨2, .inl ⟨hno, rfl⟩, rfl, rfl, rfl, rfl⟩⟩
end Go.Proofs.YtcahhbpjpahbgaaDoor
