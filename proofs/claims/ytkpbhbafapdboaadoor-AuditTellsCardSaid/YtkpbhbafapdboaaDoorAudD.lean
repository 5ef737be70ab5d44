/- What two totals make, whatever they are; that of somebody: audit.Node, audit.Leaf: the walks. Conditions: named in each theorem. -/
import Derived.Test.YtkpbhbafapdboaaDoorAudC
namespace Go.Proofs.YtkpbhbafapdboaaDoor
open Go.RowKit Go.ChangeShapes Go.WideShapes Go.ChangeAt

/-- A total: its sum, its digest. -/
abbrev Tot := Int × List Nat
def noTot : Tot := (0, zeroD)
def tV (t : Tot) : Value := totV t.1 t.2
/-- What is told: a total, and an error's number. -/
def tellV (r : Tot × Int) : Value := .tuple #[tV r.1, errA r.2]
/-- What two make. -/
def nodeR (l r : Tot) : Tot × Int := if addQ l.1 r.1 = 0 then ((l.1 + r.1, shaL (nodeT l.1 l.2 r.1 r.2)), 0) else (noTot, addQ l.1 r.1)
theorem outL_small (s : List Nat) : ∀ x ∈ outL s, x < 256 := by
  intro x hx
  obtain ⟨y, -, hy⟩ := List.mem_flatMap.1 hx
  simp only [List.mem_cons, List.not_mem_nil, or_false] at hy
  rcases hy with rfl | rfl | rfl | rfl <;> exact Nat.mod_lt _ (by decide)
theorem shaL_dig (bs : List Nat) : Dig (shaL bs) := ⟨shaL_len bs, outL_small _⟩
theorem zeroD_dig : Dig zeroD := ⟨rfl, fun x hx => by rw [(List.mem_replicate.1 hx).2]; decide⟩
theorem nodeR_dig (l r : Tot) : Dig (nodeR l r).1.2 := by
  unfold nodeR
  split
  · exact shaL_dig _
  · exact zeroD_dig

set_option maxHeartbeats 2000000 in
set_option maxRecDepth 100000 in
theorem node_bad (a b : Int) (x y : List Nat) (hq : addQ a b ≠ 0) (w : World) :
    Calls Tryd.prog 17 #[totV a x, totV b y] w (fun e w' => e = .returned (tellV (noTot, addQ a b)) ∧ Below w.heap.size w w') := by
  have hA := add_any a b
  unfold addV at hA
  rw [if_neg hq] at hA
  have he : errA (addQ a b) = .iface 40 (.int .i64 (addQ a b)) := by unfold errA; rw [if_neg hq]
  unfold tellV
  show Calls _ _ _ _ (fun e w' => e = .returned (.tuple #[totV 0 zeroD, errA (addQ a b)]) ∧ Below w.heap.size w w')
  rw [he] at hA ⊢
  generalize addQ a b = q at hA ⊢
  have HA := aside hA
  clear hA hq he
  go_enter Tryd.func17, Tryd.ntmps17
  go_upto_region 1 with fail
  change Code.wp _ _ _ _ (((w.alloc (.cells (totR a x) 25)).alloc (.cells (totR b y) 25)).alloc (.cells (totR 0 zeroD) 25))
  have T0 := aside (((TotAt.new w a x).alloc (.cells (totR b y) 25)).alloc (.cells (totR 0 zeroD) 25))
  have T1 : Hid (TotAt (((w.alloc (.cells (totR a x) 25)).alloc (.cells (totR b y) 25)).alloc (.cells (totR 0 zeroD) 25)) (w.heap.size + 1) b y) := aside (by
    have h := (TotAt.new (w.alloc (.cells (totR a x) 25)) b y).alloc (.cells (totR 0 zeroD) 25)
    rwa [show (w.alloc (.cells (totR a x) 25)).heap.size = w.heap.size + 1 by simp] at h)
  have T2 : Hid (TotAt (((w.alloc (.cells (totR a x) 25)).alloc (.cells (totR b y) 25)).alloc (.cells (totR 0 zeroD) 25)) (w.heap.size + 1 + 1) 0 zeroD) := aside (by
    have h := TotAt.new ((w.alloc (.cells (totR a x) 25)).alloc (.cells (totR b y) 25)) 0 zeroD
    rwa [show ((w.alloc (.cells (totR a x) 25)).alloc (.cells (totR b y) 25)).heap.size = w.heap.size + 1 + 1 by simp] at h)
  have B1 : Hid (Below w.heap.size w (((w.alloc (.cells (totR a x) 25)).alloc (.cells (totR b y) 25)).alloc (.cells (totR 0 zeroD) 25))) := aside ((((Below.refl _ _).alloc (Nat.le_refl _) _).alloc (by simp) _).alloc (by simp; omega) _)
  have Z1 : Hid ((((w.alloc (.cells (totR a x) 25)).alloc (.cells (totR b y) 25)).alloc (.cells (totR 0 zeroD) 25)).heap.size = w.heap.size + 1 + 1 + 1) := aside (by simp)
  generalize (((w.alloc (.cells (totR a x) 25)).alloc (.cells (totR b y) 25)).alloc (.cells (totR 0 zeroD) 25)) = w1 at T0 T1 T2 B1 Z1 ⊢
  obtain ⟨N, hN⟩ : ∃ N, N = w.heap.size := ⟨_, rfl⟩
  have EN := aside hN
  simp only [← hN] at T0 T1 T2 Z1 ⊢
  have d0 := T0.out.sum
  have d1 := T1.out.sum
  clear hN
  go_wp2_with (first
    | (go_at_call 37; refine (HA.out _).mono ?_; rintro e w2 ⟨rfl, hb2⟩; have HB2 := aside hb2; have T2d : Hid (TotAt w2 (N + 1 + 1) 0 zeroD) := aside (T2.out.below hb2 T2.out.lt); clear hb2)
    | (refine wpList_totz rfl rfl ?_)
    | (refine wpList_store_row rfl 25 (.tmp 4) (.tmp 19) rfl (N + 1 + 1) (totR 0 zeroD) rfl rfl 25 (totR 0 zeroD) T2d.out (totInfo rfl) rfl (totR_one _ _) ?_)
    | fail)
  refine bodyPost_ret (results_cell_tmp rfl _ _ (N + 1 + 1) 25 (totR 0 zeroD) (0, 0) _ rfl (setRow_heap w2 (N + 1 + 1) _ _ _ _ T2d.out) Tryd.underlying25 rfl (totInfo rfl)) rfl ?_
  refine ⟨rfl, ?_⟩
  exact below_setRow (B1.out.trans (HB2.out.mono B1.out.size)) _ (by rw [EN.out]; omega) _
theorem node_any (l r : Tot) (hl : Dig l.2) (hr : Dig r.2) (w : World) (hg : RoundsAt w) :
    Calls Tryd.prog 17 #[tV l, tV r] w (fun e w' => e = .returned (tellV (nodeR l r)) ∧ Below w.heap.size w w') := by
  unfold nodeR
  by_cases hq : addQ l.1 r.1 = 0
  · rw [if_pos hq]
    exact node_ok l.1 r.1 l.2 r.2 hl hr hq w hg
  · rw [if_neg hq]
    exact node_bad l.1 r.1 l.2 r.2 hq w

/-- The text of somebody. -/
def leafT (nm : List Nat) (n : Nat) : List Nat := [25] ++ nm ++ sizeL n
/-- That of somebody. -/
def leafR (nm : List Nat) (n : Int) : Tot × Int := if Mny n then ((n, shaL (leafT nm n.toNat)), 0) else (noTot, 2)
end Go.Proofs.YtkpbhbafapdboaaDoor
