/- bytes.Equal; are two locks the same: the walks. Conditions: named in each theorem. -/
import Derived.Test.YtiigggbghgfdoaaDoorWalB
import Derived.Laws.BytesArg
import Derived.Lib.Bytes
import Derived.Deep.QuietTactic
namespace Go.Proofs.YtiigggbghgfdoaaDoor
open Go.RowKit Go.ChangeShapes Go.WideShapes Go.ChangeAt

/-- Bytes as a string. -/
def strB (xs : List Nat) : ByteArray := strOfNums (xs.map Int.ofNat)
theorem bytes_inj {xs ys : List Nat} (hx : ∀ x ∈ xs, x < 256) (hy : ∀ y ∈ ys, y < 256) (h : (strB xs).toList = (strB ys).toList) : xs = ys := by
  unfold strB at h
  rw [Lib.strOfNums_toList, Lib.strOfNums_toList] at h
  have key : ∀ {zs : List Nat}, (∀ z ∈ zs, z < 256) → (Lib.bytesOf (zs.map Int.ofNat)).map UInt8.toNat = zs := by
    intro zs hz
    unfold Lib.bytesOf
    rw [List.map_map, List.map_map]
    conv => rhs; rw [← List.map_id zs]
    refine List.map_congr_left fun z hm => ?_
    simp only [Function.comp, Int.ofNat_eq_natCast, Int.toNat_natCast, id]
    rw [UInt8.toNat_ofNat']
    exact Nat.mod_eq_of_lt (hz z hm)
  have h2 := congrArg (List.map UInt8.toNat) h
  rwa [key hx, key hy] at h2
theorem convert_bytes {w : World} {B n : Nat} {A : Option Addr} {xs : List Nat} (h : YSl w B A n xs) (c : Nat) : (convert 49 9 (.slice A n c)).run Tryd.prog w = .ok (.string (strB xs)) w := by
  have hl := YSl.len1 h
  rcases Nat.eq_zero_or_pos n with h0 | h0
  · subst h0
    obtain rfl : xs = [] := List.eq_nil_of_length_eq_zero hl
    rw [run_convert_bytes_string w 49 9 5 _ 0 c Tryd.underlying49 Tryd.underlying5 Tryd.underlying9]
    cases A <;> simp [Conv.bytesToString, loadCells]
    all_goals rfl
  · obtain ⟨b, o, rfl, _, hc⟩ := YSl.at1 h h0
    exact run_convert_bytes_arg (P := Tryd.prog) w 49 5 Tryd.underlying49 Tryd.underlying5 b o n c (xs.map Int.ofNat) (by simpa using hl) (fun i hi => by
      rw [hc i hi]
      simp [List.getD_eq_getElem?_getD, List.getElem?_eq_getElem (show i < xs.length by omega)]) _ Tryd.underlying9
theorem beq_any (xs ys : List Nat) (A A' : Option Addr) (n c n' c' : Nat) (w : World) (h : YSl w w.heap.size A n xs) (h' : YSl w w.heap.size A' n' ys) (hx : ∀ x ∈ xs, x < 256) (hy : ∀ y ∈ ys, y < 256) :
    Calls Tryd.prog 55 #[.slice A n c, .slice A' n' c'] w (fun e w' => e = .returned (.bool (decide (xs = ys))) ∧ w' = w) := by
  have h1 := convert_bytes h c
  have h2 := convert_bytes h' c'
  have HE : Hid (((strB xs).toList == (strB ys).toList) = decide (xs = ys)) := aside (by
    by_cases he : xs = ys
    · rw [he]; simp
    · rw [decide_eq_false he]
      exact beq_eq_false_iff_ne.2 fun h => he (bytes_inj hx hy h))
  generalize strB xs = s1 at h1 HE
  generalize strB ys = s2 at h2 HE
  clear h h' hx hy
  go_enter Tryd.func55, Tryd.ntmps55
  go_wp2
  go_ret
  exact ⟨by rw [← HE.out] <;> rfl, rfl⟩
set_option maxHeartbeats 8000000 in
set_option maxRecDepth 100000 in
theorem same1_any (r r' : ROp) (V : Bool) (hV : V = true ↔ r.pl = r'.pl) (w : World) (h : YSl w w.heap.size r.dA r.dn r.data) (h' : YSl w w.heap.size r'.dA r'.dn r'.data) (hx : ∀ x ∈ r.data, x < 256) (hy : ∀ y ∈ r'.data, y < 256) :
    Calls Tryd.prog 54 #[.agg #[.int .i64 r.op, .int .i64 r.n, .slice r.dA r.dn r.dc], .agg #[.int .i64 r'.op, .int .i64 r'.n, .slice r'.dA r'.dn r'.dc]] w (fun e w' => e = .returned (.bool V) ∧ Below w.heap.size w w') := by
  obtain ⟨o1, n1, A1, d1, c1, b1⟩ := r
  obtain ⟨o2, n2, A2, d2, c2, b2⟩ := r'
  have hV2 : V = true ↔ (o1, n1, b1) = (o2, n2, b2) := hV
  clear hV
  dsimp only at h h' hx hy ⊢
  by_cases ho : o1 = o2
  · subst ho
    have hoo : (o1 == o1) = true := by simp
    by_cases hn : n1 = n2
    · subst hn
      have hnn : (n1 == n1) = true := by simp
      have HB2 : Hid (Below w.heap.size w ((w.alloc (.cells #[.int .i64 o1, .int .i64 n1, .slice A1 d1 c1] 51)).alloc (.cells #[.int .i64 o1, .int .i64 n1, .slice A2 d2 c2] 51))) := aside (((Below.refl _ _).alloc (Nat.le_refl _) _).alloc (by simp) _)
      have H1 : Hid (YSl ((w.alloc (.cells #[.int .i64 o1, .int .i64 n1, .slice A1 d1 c1] 51)).alloc (.cells #[.int .i64 o1, .int .i64 n1, .slice A2 d2 c2] 51)) ((w.alloc (.cells #[.int .i64 o1, .int .i64 n1, .slice A1 d1 c1] 51)).alloc (.cells #[.int .i64 o1, .int .i64 n1, .slice A2 d2 c2] 51)).heap.size A1 d1 b1) := aside ((Sl.below h HB2.out).more HB2.out.size)
      have H2 : Hid (YSl ((w.alloc (.cells #[.int .i64 o1, .int .i64 n1, .slice A1 d1 c1] 51)).alloc (.cells #[.int .i64 o1, .int .i64 n1, .slice A2 d2 c2] 51)) ((w.alloc (.cells #[.int .i64 o1, .int .i64 n1, .slice A1 d1 c1] 51)).alloc (.cells #[.int .i64 o1, .int .i64 n1, .slice A2 d2 c2] 51)).heap.size A2 d2 b2) := aside ((Sl.below h' HB2.out).more HB2.out.size)
      have hD : V = decide (b1 = b2) := by
        by_cases hb : b1 = b2
        · rw [decide_eq_true hb]; exact hV2.2 (by rw [hb])
        · rw [decide_eq_false hb]
          cases V with
          | false => rfl
          | true => exact absurd (by have h9 := hV2.1 rfl; simpa using h9) hb
      have hbq := beq_any b1 b2 A1 A2 d1 c1 d2 c2 _ H1.out H2.out hx hy
      rw [← hD] at hbq
      have HBq := aside hbq
      clear h h' hx hy hD hV2 hbq
      go_enter Tryd.func54, Tryd.ntmps54
      go_wp2_with fail
      refine HBq.out.mono ?_
      rintro e w3 ⟨rfl, hw3⟩
      rw [hw3]
      clear hw3 w3
      go_wp2
      go_ret
      exact ⟨rfl, HB2.out⟩
    · have hnn : (n1 == n2) = false := by simp [hn]
      have hD : V = false := by
        cases V with
        | false => rfl
        | true => exact absurd (by have h9 := hV2.1 rfl; simp at h9; exact h9.1) hn
      subst hD
      clear h h' hx hy hn hV2
      go_enter Tryd.func54, Tryd.ntmps54
      go_wp2
      go_ret
      exact ⟨rfl, ((Below.refl _ _).alloc (Nat.le_refl _) _).alloc (by simp) _⟩
  · have hoo : (o1 == o2) = false := by simp [ho]
    have hD : V = false := by
      cases V with
      | false => rfl
      | true => exact absurd (by have h9 := hV2.1 rfl; simp at h9; exact h9.1) ho
    subst hD
    clear h h' hx hy ho hV2
    go_enter Tryd.func54, Tryd.ntmps54
    go_wp2
    go_ret
    exact ⟨rfl, ((Below.refl _ _).alloc (Nat.le_refl _) _).alloc (by simp) _⟩
end Go.Proofs.YtiigggbghgfdoaaDoor
