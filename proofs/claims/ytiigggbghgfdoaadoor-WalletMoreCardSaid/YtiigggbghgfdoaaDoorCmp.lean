/- bytes.Compare, cmp.Compare, coin.Compare: the walks. Conditions: named in each theorem. -/
import Derived.Test.YtiigggbghgfdoaaDoorWalH
import Derived.Laws.Externs
import Derived.Lib.Bytealg
import Derived.Lib.BytesEntry
namespace Go.Proofs.YtiigggbghgfdoaaDoor
open Go.RowKit Go.ChangeShapes Go.WideShapes Go.ChangeAt

/-- Which of two rows of bytes is ahead. -/
def cmpY (xs ys : List Nat) : Int := Lib.compareBytes (Lib.bytesOf (xs.map Int.ofNat)) (Lib.bytesOf (ys.map Int.ofNat))
theorem load_bytes {w : World} {B n : Nat} {A : Option Addr} {xs : List Nat} (h : YSl w B A n xs) (c : Nat) : (Extern.Bytes.bytesOf (.slice A n c)).run Tryd.prog w = .ok (strB xs) w := by
  have hl := YSl.len1 h
  rcases Nat.eq_zero_or_pos n with h0 | h0
  · subst h0
    obtain rfl : xs = [] := List.eq_nil_of_length_eq_zero hl
    cases A <;> rfl
  · obtain ⟨b, o, rfl, _, hc⟩ := YSl.at1 h h0
    have h9 := Lib.run_loadBytesX (P := Tryd.prog) w (xs.map Int.ofNat) ⟨b, o, none⟩ .empty (fun j x hj => by
      have hjl : j < xs.length := by have := (List.getElem?_eq_some_iff.1 hj).1; simpa using this
      rw [add_plain, hc j (by omega)]
      rw [List.getElem?_map, List.getElem?_eq_getElem hjl] at hj
      injection hj with hj
      rw [← hj, List.getD_eq_getElem?_getD, List.getElem?_eq_getElem hjl]
      rfl)
    rw [List.length_map, hl] at h9
    show (Extern.Bytes.loadBytes ⟨b, o, none⟩ n .empty).run Tryd.prog w = _
    rw [h9]
    congr 1
    unfold strB strOfNums Lib.bytesOf
    simp
theorem compare_run {w : World} {B B' n n' : Nat} {A A' : Option Addr} {xs ys : List Nat} (h : YSl w B A n xs) (h' : YSl w B' A' n' ys) (c c' : Nat) : (Extern.BytealgCompare.compare #[.slice A n c, .slice A' n' c']).run Tryd.prog w = .ok (.int .i64 (cmpY xs ys)) w := by
  change Sem.run Tryd.prog (do pure (goInt (Extern.BytealgCompare.cmp (← Extern.Bytes.bytesOf (.slice A n c)) (← Extern.Bytes.bytesOf (.slice A' n' c'))))) w = _
  simp only [Sem.run_bind, load_bytes h c, load_bytes h' c', Sem.run_pure, Result.andThen]
  rw [Lib.cmp_eq]
  rfl
theorem bcmp_any (xs ys : List Nat) (A A' : Option Addr) (n c n' c' : Nat) (w : World) (h : YSl w w.heap.size A n xs) (h' : YSl w w.heap.size A' n' ys) :
    Calls Tryd.prog 24 #[.slice A n c, .slice A' n' c'] w (fun e w' => e = .returned (.int .i64 (cmpY xs ys)) ∧ w' = w) := by
  have hr := compare_run h h' c c'
  generalize cmpY xs ys = r at hr ⊢
  clear h h'
  go_enter Tryd.func24, Tryd.ntmps24
  go_wp2
  rw [run_callFunc_extern Tryd.func40 (by kernel_rfl) (by kernel_rfl) (by kernel_rfl) (e := Extern.BytealgCompare.compare) (by kernel_rfl), hr]
  simp only [Result.andThen]
  rw [Oper.upon_value]
  go_wp2
  go_ret
  exact ⟨rfl, rfl⟩
end Go.Proofs.YtiigggbghgfdoaaDoor
