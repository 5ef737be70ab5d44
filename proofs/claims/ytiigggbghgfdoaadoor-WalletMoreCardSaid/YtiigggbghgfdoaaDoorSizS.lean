/- Small numbers' bytes: size.Of, size.Write. Conditions: named in each theorem. -/
import Derived.Test.YtiigggbghgfdoaaDoorPubB
namespace Go.Proofs.YtiigggbghgfdoaaDoor
open Go.RowKit Go.ChangeShapes Go.WideShapes Go.ChangeAt

/-- How many bytes behind the first one. -/
def wideN (n : Nat) : Nat := if n < 253 then 0 else if n < 65536 then 2 else if n < 4294967296 then 4 else 8
theorem wide_any (n : Nat) (w : World) : Calls Tryd.prog 56 #[.int .i64 n] w (fun e w' => e = .returned (.int .i64 (wideN n : Nat)) ∧ w' = w) := by
  unfold wideN
  by_cases h1 : n < 253
  · have e1 : (n : Int) < 253 := by omega
    rw [if_pos h1]
    clear h1
    go_enter Tryd.func56, Tryd.ntmps56
    go_wp2
    go_ret
    exact ⟨rfl, rfl⟩
  have e1 : ((n : Int) < 253) = False := by simp only [eq_iff_iff, iff_false]; omega
  rw [if_neg h1]
  by_cases h2 : n < 65536
  · have e2 : (n : Int) < 65536 := by omega
    rw [if_pos h2]
    clear h1 h2
    go_enter Tryd.func56, Tryd.ntmps56
    go_wp2
    go_ret
    exact ⟨rfl, rfl⟩
  have e2 : ((n : Int) < 65536) = False := by simp only [eq_iff_iff, iff_false]; omega
  rw [if_neg h2]
  by_cases h3 : n < 4294967296
  · have e3 : (n : Int) < 4294967296 := by omega
    rw [if_pos h3]
    clear h1 h2 h3
    go_enter Tryd.func56, Tryd.ntmps56
    go_wp2
    go_ret
    exact ⟨rfl, rfl⟩
  have e3 : ((n : Int) < 4294967296) = False := by simp only [eq_iff_iff, iff_false]; omega
  rw [if_neg h3]
  clear h1 h2 h3
  go_enter Tryd.func56, Tryd.ntmps56
  go_wp2
  go_ret
  exact ⟨rfl, rfl⟩
/-- The bytes behind the first one. -/
def bigL (n : Nat) : Nat → List Nat
  | 0 => []
  | 2 => [n / 256 % 256, n % 256]
  | 4 => [n / 16777216 % 256, n / 65536 % 256, n / 256 % 256, n % 256]
  | _ => [n / 72057594037927936 % 256, n / 281474976710656 % 256, n / 1099511627776 % 256, n / 4294967296 % 256, n / 16777216 % 256, n / 65536 % 256, n / 256 % 256, n % 256]
/-- The first byte. -/
def headN (n : Nat) : Nat := match wideN n with
  | 0 => n
  | 2 => 253
  | 4 => 254
  | _ => 255
/-- A number's bytes. -/
def sizeL (n : Nat) : List Nat := headN n :: bigL n (wideN n)
theorem wideN_cases (n : Nat) : (n < 253 ∧ wideN n = 0) ∨ (253 ≤ n ∧ wideN n = 2) ∨ (253 ≤ n ∧ wideN n = 4) ∨ (253 ≤ n ∧ wideN n = 8) := by
  unfold wideN
  split
  · exact .inl ⟨by assumption, rfl⟩
  · split
    · exact .inr (.inl ⟨by omega, rfl⟩)
    · split
      · exact .inr (.inr (.inl ⟨by omega, rfl⟩))
      · exact .inr (.inr (.inr ⟨by omega, rfl⟩))
theorem sizeL_small (n : Nat) : ∀ x ∈ sizeL n, x < 256 := by
  intro x hx
  rcases wideN_cases n with ⟨h, e⟩ | ⟨h, e⟩ | ⟨h, e⟩ | ⟨h, e⟩ <;> simp only [sizeL, headN, e, bigL, List.mem_cons, List.not_mem_nil, or_false] at hx
  · omega
  · omega
  · omega
  · omega
theorem sizeL_len (n : Nat) : (sizeL n).length ≤ 9 ∧ 1 ≤ (sizeL n).length := by
  rcases wideN_cases n with ⟨h, e⟩ | ⟨h, e⟩ | ⟨h, e⟩ | ⟨h, e⟩ <;> simp [sizeL, e, bigL]
theorem bigL_len {n d : Nat} (h : d = 0 ∨ d = 2 ∨ d = 4 ∨ d = 8) : (bigL n d).length = d := by
  rcases h with rfl | rfl | rfl | rfl <;> rfl

theorem row_one (w : World) (x : Nat) : (w.alloc (.cells #[.int .u8 (x : Int)] 5)).ownsRow w.heap.size 5 1 (.slice (some ⟨w.heap.size, 0, none⟩) 1 1) 1 ([x].flatMap byV) :=
  ⟨rfl, .inr ⟨w.heap.size, 1, _, rfl, Nat.le_refl _, heap_alloc_new w _, Nat.le_refl _, by decide, rfl, rfl⟩⟩

set_option maxRecDepth 100000 in
theorem sizeS_any (n : Nat) (hn : n < 253) (w : World) : Calls Tryd.prog 46 #[.int .i64 n] w (fun e w' => ∃ G c, e = .returned (.slice G 1 c) ∧ YSl w' w'.heap.size G 1 [n] ∧ Below w.heap.size w w') := by
  have e1 : IntKind.u8.wrap (n : Int) = (n : Int) := by rw [IntKind.wrap_u8]; omega
  have hW := wide_any n
  rw [show wideN n = 0 by unfold wideN; rw [if_pos hn]] at hW
  have HW := aside hW
  clear hW
  go_enter Tryd.func46, Tryd.ntmps46
  go_wp2_with (first
    | (go_at_call 56; refine (HW.out _).mono ?_; rintro e w' ⟨rfl, rfl⟩)
    | fail)
  go_ret
  exact ⟨_, _, rfl, Sl.own (row_one _ _), (Below.refl _ _).alloc (Nat.le_refl _) _⟩
set_option maxRecDepth 100000 in
theorem sizeW_any (n : Nat) (hn : n < 253) (w : World) : Calls Tryd.prog 31 #[.int .i64 n] w (fun e w' => ∃ G c, e = .returned (.tuple #[.slice G 1 c, .nilIface]) ∧ YSl w' w'.heap.size G 1 [n] ∧ Below w.heap.size w w') := by
  have h0 : (0 : Int) ≤ (n : Int) := by omega
  go_enter Tryd.func31, Tryd.ntmps31
  go_wp2_with fail
  refine (sizeS_any n hn _).mono ?_
  rintro e w2 ⟨G, c, rfl, hy, hb⟩
  have HY := aside hy
  have HB := aside hb
  clear hy hb
  go_wp2
  (try simp only [Exit.inBlock, Exit.then])
  refine bodyPost_ret (v := .tuple #[.slice G 1 c, .nilIface]) (by simp only [results, Tryd.results31]; go_simp) rfl ?_
  exact ⟨G, c, rfl, HY.out, HB.out⟩
end Go.Proofs.YtiigggbghgfdoaaDoor
