/- WalletPay: what a wallet pays out of any coins, with any seed, so many keys, to any out, with any fee, is what the document says. Conditions: moneyer/sha.rounds and errors.errorType read as the program's text lays them (tied). -/
import Derived.Test.YtbpabjhcjffkmaaGreatDoorPayX
import Derived.Test.YtbpabjhcjffkmaaGreatDoorComeA
import Derived.Test.YtbpabjhcjffkmaaGreatDoorBoth
namespace Go.Proofs.YtbpabjhcjffkmaaGreatDoor
open Go.RowKit Go.ChangeShapes Go.WideShapes Go.ChangeAt

set_option maxRecDepth 100000 in
theorem open_out {H : Type} {en : TypeId × Value → H} {W : World} {spare : Nat → Bool} {held : Bool} {r : Reach} {b0 : Nat} {v : Value} {d : DataW H} {p : List MemPlace}
  (hv : Value.okWide Tryz.prog W r b0 27 v) (h : DataW.Trod en Tryz.prog W 0 spare held 27 v d p) : ∃ a A k c rs, v = .agg #[.int .i64 a, .slice A k c] ∧ RSl W W.heap.size A k rs := by
 have hC : Tryz.prog.cellsOf 27 = 2 := by kernel_rfl
 obtain ⟨⟨l⟩, rfl, hsz⟩ := okWide_struct Tryz.underlying27 hv
 rw [hC] at hsz
 obtain ⟨fuel, hf⟩ := h
 obtain ⟨a, A, k, c, rs, e, h1⟩ := trod_out fuel l _ (by simpa using hsz) hf
 exact ⟨a, A, k, c, rs, by rw [e], h1⟩
set_option maxRecDepth 100000 in
/-- What the law's arguments are. -/
theorem walletPay_walk {H : Type} {enc : TypeId × Value → H} (W : World) (args : Array Value) (ds : List (DataW H)) (ps : List MemPlace) (hg : TabAt W) (hev : ErrVar W)
  (h : LawPre enc Tryz.prog Tryz.f3 W args ds ps) : Calls Tryz.prog 3 args W (LawPost W) := by
 obtain ⟨hA, ⟨base, hval⟩, hlt, hsz⟩ := h
 rw [Tryz.params3] at hA hval hsz
 obtain ⟨v0, l0, d0, m0, p0, r0, ea, rfl, rfl, h0, hA⟩ := trodAll_cons hA
 obtain ⟨v1, l1, d1, m1, p1, r1, rfl, rfl, rfl, h1, hA⟩ := trodAll_cons hA
 obtain ⟨v2, l2, d2, m2, p2, r2, rfl, rfl, rfl, h2, hA⟩ := trodAll_cons hA
 obtain ⟨v3, l3, d3, m3, p3, r3, rfl, rfl, rfl, h3, hA⟩ := trodAll_cons hA
 obtain ⟨v4, l4, d4, m4, p4, r4, rfl, rfl, rfl, h4, hA⟩ := trodAll_cons hA
 obtain ⟨rfl, rfl, rfl⟩ := trodAll_nil hA
 obtain rfl : args = #[v0, v1, v2, v3, v4] := by
  cases args
  simpa using ea
 obtain ⟨da, rfl, hda, hba⟩ := open_dig (hval 0 _ v0 rfl rfl) h0
 obtain ⟨x1, rfl, rfl, rfl, _⟩ := open_int Tryz.underlying3 (hval 1 _ v1 rfl rfl) h1
 obtain ⟨x4, rfl, rfl, rfl, _⟩ := open_int Tryz.underlying3 (hval 4 _ v4 rfl rfl) h4
 obtain ⟨a3, len3, cap3, rfl⟩ := okWide_slice Tryz.underlying24 (hval 2 _ v2 rfl rfl)
 obtain ⟨fu3, hf3⟩ := h2
 obtain ⟨A3, n3, c3, cs, e3, hs3, hb3⟩ := open_coins hf3
 simp [Value.cells] at e3
 obtain ⟨rfl, rfl, rfl⟩ := e3
 obtain ⟨oa, oA, ok, oc, os, rfl, hso⟩ := open_out (hval 3 _ v3 rfl rfl) h3
 exact wpay_any da hda hba x1 cs a3 len3 cap3 oa os oA ok oc x4 W hs3 hb3 hso (rounds_of_tab hg) hev
set_option maxRecDepth 100000 in
theorem walletPay_lifted (os : Os) (started : os.Started) (H : Type) (enc : TypeId × Value → H) :
  ReturnsInHanded {} Tryz.checked os 3 .any (fun w args => (Rows.walletPaySpec.pre enc Tryz.prog Tryz.f3 [] false w args ∧ laidMetH Tryz.prog bothList w) ∧ sizedMet enc Tryz.prog Tryz.f3 (OpenSpec.ofChange Rows.walletPaySpec) false w args)
   (Rows.walletPaySpec.post enc Tryz.prog Tryz.f3 false true false false) :=
 both_lifted (n := 5) #[.agg #[.int .u8 0, .int .u8 0, .int .u8 0, .int .u8 0, .int .u8 0, .int .u8 0, .int .u8 0, .int .u8 0, .int .u8 0, .int .u8 0, .int .u8 0, .int .u8 0, .int .u8 0, .int .u8 0, .int .u8 0, .int .u8 0, .int .u8 0, .int .u8 0, .int .u8 0, .int .u8 0, .int .u8 0, .int .u8 0, .int .u8 0, .int .u8 0, .int .u8 0, .int .u8 0, .int .u8 0, .int .u8 0, .int .u8 0, .int .u8 0, .int .u8 0, .int .u8 0], .int .i64 0, .slice none 0 0, .agg #[.int .i64 0, .slice none 0 0], .int .i64 0] 8 started (by kernel_rfl) Tryz.func3 (by kernel_rfl) (by kernel_rfl) (by kernel_rfl) (by kernel_rfl) (by kernel_rfl)
  rfl (by kernel_rfl) (by kernel_rfl) (by kernel_rfl) (fun ds h => by match ds, h with | [a, b, c, d, e], _ => rfl) walletPay_walk
theorem WalletPay_row : Rows.WalletPaySaid :=
 OpenClaim.holds_of_wide 3 Tryz.f3 rfl rfl rfl rfl rfl rfl rfl ⟨rfl, rfl, rfl, rfl, rfl⟩ rfl rfl rfl rfl rfl (by kernel_rfl) Tryz.func3 (by kernel_rfl)
  (of_decide_eq_true (by kernel_rfl)) (by unfold Func.isWrapper; rw [if_neg (of_decide_eq_false (by kernel_rfl))]; exact ⟨rfl, rfl⟩)
  (fun os started H enc _ => walletPay_lifted os started H enc)
theorem walletPay_noStand : ∀ t ∈ Tryz.f3.params.toList, Tryz.prog.wantsStandIn t = false :=
 List.all_eq_true.1 (show Tryz.f3.params.toList.all (fun t => !Tryz.prog.wantsStandIn t) = true by kernel_rfl) |> fun h t ht => by simpa using h t ht
/-- The statement: the card. -/
theorem WalletPay_holds : Rows.WalletPayCardSaid :=
 Claim7.holds_tied_plain_at .later [] [.data, .handle] true (true, "0876ca4d0f3b095e52c83224f4971bfaf7e186b38cf0a2bcb84bcee0ca18ad14") true
  WalletPay_row (fun _ h => by cases h) (by kernel_rfl) (fun _ h => by cases h) walletPay_row_tie rfl ⟨rfl, rfl⟩ (by kernel_rfl) rfl
  (fun f fn hf hfn => by
   obtain rfl : f = 3 := Option.some.inj ((show Tryz.prog.funcNamed "moneyer/moneyerlaw4.WalletPay" = some 3 by kernel_rfl).symm.trans hf) |>.symm
   obtain rfl : fn = Tryz.f3 := (Option.some.inj (Tryz.func3.symm.trans hfn)).symm
   exact ⟨by kernel_rfl, fun j t ht => walletPay_noStand t (by
    have h2 : (Tryz.f3.params.toList)[j]? = some t := by simpa using ht
    exact List.mem_of_getElem? h2)⟩)
  (by kernel_rfl)
#print axioms WalletPay_holds

end Go.Proofs.YtbpabjhcjffkmaaGreatDoor
