/- Digests: the digest of bytes: the walk. Conditions: named in each theorem. -/
import Derived.Test.YtiigggbghgfdoaaDoorShaF
namespace Go.Proofs.YtiigggbghgfdoaaDoor
open Go.RowKit Go.ChangeShapes Go.WideShapes Go.ChangeAt

/-- A digest, as a value. -/
def digV (l : List Nat) : Value := .agg (rowY l)
set_option maxRecDepth 100000 in
theorem sha_any (bs : List Nat) (A : Option Addr) (n c : Nat) (w : World) (h : YSl w w.heap.size A n bs) (hn : n ≤ 1000000) (hby : ∀ x ∈ bs, x < 256) (hg : RoundsAt w) :
    Calls Tryd.prog 45 #[.slice A n c] w (fun e w' => e = .returned (digV (shaL bs)) ∧ Below w.heap.size w w') := by
  have hlen := YSl.len1 h
  have hr : 1 < w.heap.size := by
    obtain ⟨T, fr, -, h2⟩ := hg
    exact h2
  have HY := aside h
  have HBy := aside hby
  have HG := aside hg
  clear h hby hg
  go_enter Tryd.func45, Tryd.ntmps45
  go_wp2_with fail
  have B1 : Hid (Below w.heap.size w (w.alloc (.cells (rowY (List.replicate 32 0)) 23))) := aside ((Below.refl _ _).alloc (Nat.le_refl _) _)
  have D1 : Hid ((w.alloc (.cells (rowY (List.replicate 32 0)) 23)).heap[w.heap.size]? = some (.cells (rowY (List.replicate 32 0)) 23 (0, 0))) := aside (heap_alloc_new _ _)
  have Hz1 : Hid ((w.alloc (.cells (rowY (List.replicate 32 0)) 23)).heap.size = w.heap.size + 1) := aside (by simp)
  obtain ⟨B0, hB0⟩ : ∃ B0, B0 = w.heap.size := ⟨_, rfl⟩
  have EB := aside hB0
  change Calls _ _ _ (w.alloc (.cells (rowY (List.replicate 32 0)) 23)) _
  simp only [← hB0] at D1 Hz1 ⊢
  generalize w.alloc (.cells (rowY (List.replicate 32 0)) 23) = w0 at B1 D1 Hz1 ⊢
  clear hB0
  refine (new_hash w0).mono ?_
  rintro e w1 ⟨b, rfl, hb, hh, hb1⟩
  have HB1 := aside hb1
  have HH := aside hh
  have HG1 : Hid (RoundsAt w1) := aside (HG.out.below (B1.out.trans (hb1.mono B1.out.size)))
  have hb' : w.heap.size ≤ b := Nat.le_trans B1.out.size hb
  have HY1 : Hid (YSl w1 b A n bs) := aside ((Sl.below HY.out (B1.out.trans (hb1.mono B1.out.size))).more hb')
  have hb0 := Nat.lt_of_lt_of_le hr hb'
  clear hb1 hh hb'
  go_wp2_with fail
  refine (write_any b startL rfl start_small bs A n c w1 HH.out HY1.out hn HBy.out HG1.out hb0).mono ?_
  rintro e w2 ⟨rfl, hb2, G, c2, v0, v1, v2, v3, v4, v5, v6, v7, hv, hh2, hy2⟩
  have HB2 : Hid (Below w0.heap.size w0 w2) := aside (HB1.out.trans (hb2.mono hb))
  have HH2 := aside hh2
  have HY2 := aside hy2
  have HV := aside hv
  have HG2 : Hid (RoundsAt w2) := aside (HG.out.below (B1.out.trans (HB2.out.mono B1.out.size)))
  have HS2 : Hid (Small [v0, v1, v2, v3, v4, v5, v6, v7]) := aside (by rw [← hv]; exact blocksN_small bs start_small _)
  clear hb2 hv hh2 hy2
  go_wp2_with fail
  refine (hsum_any b v0 v1 v2 v3 v4 v5 v6 v7 HS2.out (bs.drop (64 * (n / 64))) G (n % 64) c2 n w2 HH2.out HY2.out (Nat.mod_lt _ (by decide)) hn (fun x hx => HBy.out x (List.mem_of_mem_drop hx)) HG2.out).mono ?_
  rintro e w3 ⟨rfl, hb3⟩
  have hsh : blocksN [v0, v1, v2, v3, v4, v5, v6, v7] (tailL (bs.drop (64 * (n / 64))) n) ((tailL (bs.drop (64 * (n / 64))) n).length / 64) = blocksN (blocksN startL bs (bs.length / 64)) (tailL (bs.drop (64 * (bs.length / 64))) bs.length) ((tailL (bs.drop (64 * (bs.length / 64))) bs.length).length / 64) := by rw [hlen, HV.out]
  have hsh2 : outL (blocksN [v0, v1, v2, v3, v4, v5, v6, v7] (tailL (bs.drop (64 * (n / 64))) n) ((tailL (bs.drop (64 * (n / 64))) n).length / 64)) = shaL bs := by rw [hsh]; rfl
  rw [hsh2]
  have HB3 := aside (HB2.out.trans (hb3.mono HB2.out.size))
  have D3 : Hid (w3.heap[B0]? = some (.cells (rowY (List.replicate 32 0)) 23 (0, 0))) := aside ((HB3.out.block B0 (by rw [Hz1.out]; omega)).trans D1.out)
  have HS9 : Hid ((Tryd.prog.info? 23).map (·.size) = some (rowY (shaL bs)).size) := aside (by rw [rowY_size, shaL_len]; kernel_rfl)
  have HS8 : Hid ((rowY (List.replicate 32 0)).size = (rowY (shaL bs)).size) := aside (by rw [rowY_size, rowY_size, shaL_len]; rfl)
  clear hb3 hsh hsh2
  go_wp2_with (first
    | (refine wpList_store_row rfl 23 (.tmp 2) (.tmp 9) rfl B0 (rowY (shaL bs)) rfl rfl 23 (rowY (List.replicate 32 0)) D3.out HS9.out HS8.out (rowY_one _) ?_)
    | fail)
  refine bodyPost_ret (results_cell_row rfl _ _ B0 23 (rowY (shaL bs)) (0, 0) _ rfl (setRow_heap w3 B0 _ _ _ _ D3.out) Tryd.underlying23 rfl HS9.out) rfl ?_
  refine ⟨rfl, ?_⟩
  rw [← EB.out]
  exact below_setRow (by rw [EB.out]; exact B1.out.trans (HB3.out.mono B1.out.size)) _ (Nat.le_refl _) _
end Go.Proofs.YtiigggbghgfdoaaDoor
