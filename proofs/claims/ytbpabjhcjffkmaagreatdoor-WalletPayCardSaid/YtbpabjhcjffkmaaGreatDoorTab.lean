/- A slice of structs that comes in reads as a list. Conditions: named in each theorem. The frame of every law that reads the table of rounds: as Frame's, and moneyer/sha.rounds reads as the program's text lays it. -/
import Derived.Test.YtbpabjhcjffkmaaGreatDoorRec
import Derived.Deep.Slices
import Derived.Test.YtbpabjhcjffkmaaGreatDoorFrame
import Derived.Lib.LaidTab
import Derived.ChangeVars
import Derived.JoinedOf
import Derived.LaidLaws
import Derived.LaidHandle
import Derived.Stop.Joined
import Derived.Test.YtbpabjhcjffkmaaGreatDoorTie
import Derived.Test.YtbpabjhcjffkmaaGreatDoorCards
import Derived.SevenTiedAt
/- A slice of structs that comes in reads as a list. Conditions: named in each theorem. -/
namespace Go.Proofs.YtbpabjhcjffkmaaGreatDoor
open Go.RowKit Go.ChangeShapes Go.WideShapes Go.ChangeAt

theorem open_recs {H : Type} {en : TypeId × Value → H} {P : Program} {W : World} {spare : Nat → Bool} {held : Bool} {α : Type} {enc : α → List Value} {sz : Nat} {Q : α → Prop} {T E : TypeId} (hu : P.underlying T = some (.slice E)) (hC : P.cellsOf E = sz) (hs : 0 < sz) (hlen : ∀ a, (enc a).length = sz) (d : α)
  (helem : ∀ (n : Nat) (cs : List Value) (y : DataW H × List MemPlace), cs.length = sz → DataW.trod en P W 0 spare held n E cs = some y → ∃ a, cs = enc a ∧ Q a)
  {fuel : Nat} {cs : List Value} {x : DataW H × List MemPlace} (h : DataW.trod en P W 0 spare held fuel T cs = some x) : ∃ A n c xs, cs = [.slice A n c] ∧ FSl enc sz W W.heap.size A n xs ∧ (∀ a ∈ xs, Q a) ∧ ((x.1 = .nil ∧ n = 0) ∨ ∃ el sp, x.1 = .slice el sp ∧ el.length = n) := by
 rcases Go.Deep.open_slice hu h with ⟨rfl, rfl⟩ | ⟨a, len, cap, m, n, D, Pl, rfl, _, hl, _, hm, rfl, hx⟩
 ·exact ⟨none, 0, 0, [], rfl, FSl.nil_, (fun _ h => by cases h), .inl ⟨rfl, rfl⟩⟩
 ·rw [hC] at hx
  have hlm : len ≤ m := by rw [hm]; split <;> omega
  have hp : ∀ i, i < len → ∃ p : α, Q p ∧ ∀ j u, (enc p)[j]? = some u → W.cell? ((a.add (i * sz)).add j) = some u := by
   intro i hi
   obtain ⟨cs', h1, h2⟩ := hx i (by omega)
   obtain ⟨_, hl2, hc⟩ := World.cells?_some h1
   obtain ⟨p, rfl, hq⟩ := helem n cs' _ hl2 h2
   exact ⟨p, hq, fun j u hj => by
    have hj' : j < sz := by
     have := (List.getElem?_eq_some_iff.1 hj).1
     rwa [hlen] at this
    rw [hc j hj', hj]⟩
  letI : Inhabited α := ⟨d⟩
  obtain ⟨X, hX⟩ := Go.Deep.choose_lt hp
  obtain ⟨b, off, spot⟩ := a
  refine ⟨some ⟨b, off, spot⟩, len, cap, (List.range len).map X, rfl, ⟨by rw [flat_len hlen]; simp, fun hn => ?_⟩, fun p hp => ?_, .inr ⟨_, _, rfl, by simp⟩⟩
  ·have hget : ∀ i j u, i < len → (enc (X i))[j]? = some u → W.cell? (((⟨b, off, spot⟩ : Addr).add (i * sz)).add j) = some u := fun i j u hi => (hX i hi).2 j u
   obtain ⟨u0, hu0⟩ : ∃ u0, (enc (X 0))[0]? = some u0 := ⟨_, List.getElem?_eq_getElem (by rw [hlen]; exact hs)⟩
   have c00 := hget 0 0 u0 hn hu0
   have hsp : spot = none := by simpa [Addr.add] using World.cell?_spot c00
   subst hsp
   refine ⟨b, off, rfl, ?_, ?_⟩
   ·have := World.block_lt_of_cell? W _ c00
    simpa [Addr.add] using this
   ·intro j u hu
    have hj : j < len * sz := by
     have := (List.getElem?_eq_some_iff.1 hu).1
     rw [flat_len hlen] at this
     simpa using this
    have hk : j / sz < len := (Nat.div_lt_iff_lt_mul hs).2 hj
    have hr : j % sz < sz := Nat.mod_lt _ hs
    have hdm : j / sz * sz + j % sz = j := by rw [Nat.mul_comm]; exact Nat.div_add_mod j sz
    have hg := flat_get hlen d ((List.range len).map X) (k := j / sz) (j := j % sz) (by simpa using hk) hr
    have he : ((List.range len).map X).getD (j / sz) d = X (j / sz) := by simp [List.getD, hk]
    rw [he, hdm, hu] at hg
    have := hget (j / sz) (j % sz) u hk hg.symm
    rw [add_plain, add_plain] at this
    rw [show off + j / sz * sz + j % sz = off + j by omega] at this
    exact this
  ·obtain ⟨i, hi, rfl⟩ := List.mem_map.1 hp
   exact (hX i (List.mem_range.1 hi)).1
end Go.Proofs.YtbpabjhcjffkmaaGreatDoor

/- The frame of every law that reads the table of rounds: as Frame's, and moneyer/sha.rounds reads as the program's text lays it. -/
namespace Go.Proofs.YtbpabjhcjffkmaaGreatDoor
open Go.RowKit Go.ChangeShapes Go.WideShapes Go.ChangeAt

/-- The table's words. -/
def tableZ : List Int := [1116352408, 1899447441, 3049323471, 3921009573, 961987163, 1508970993, 2453635748, 2870763221, 3624381080, 310598401, 607225278, 1426881987, 1925078388, 2162078206, 2614888103, 3248222580, 3835390401, 4022224774, 264347078, 604807628, 770255983, 1249150122, 1555081692, 1996064986, 2554220882, 2821834349, 2952996808, 3210313671, 3336571891, 3584528711, 113926993, 338241895, 666307205, 773529912, 1294757372, 1396182291, 1695183700, 1986661051, 2177026350, 2456956037, 2730485921, 2820302411, 3259730800, 3345764771, 3516065817, 3600352804, 4094571909, 275423344, 430227734, 506948616, 659060556, 883997877, 958139571, 1322822218, 1537002063, 1747873779, 1955562222, 2024104815, 2227730452, 2361852424, 2428436474, 2756734187, 3204031479, 3329325298]
/-- The list that these rows bear. -/
def tabList : List (String × DataW Unit) := [("moneyer/sha.rounds", Rows.laid_moneyer_sha_rounds)]
theorem tab_named : Tryz.prog.globalNamed "moneyer/sha.rounds" = some 1 := by kernel_rfl
theorem tab_type : (Tryz.prog.globals[1]?).map (·.type) = some 203 := by kernel_rfl
/-- The table stands in memory. -/
def TabAt (w : World) : Prop := ∃ T fr, w.heap[1]? = some (.cells (tableZ.map fun z => Value.int .u32 z).toArray T fr) ∧ 1 < w.heap.size
theorem tab_of_laid {W : World} (h : laidMetH Tryz.prog tabList W) : TabAt W := by
 have h' : laidMet Tryz.prog (("moneyer/sha.rounds", Lib.tabData .u32 tableZ) :: []) W := h
 have ht := Lib.tabIs_of_head tab_named tab_type Tryz.underlying203 Tryz.underlying170 (by kernel_rfl) (by kernel_rfl) h'
 unfold Lib.TabIs World.var? at ht
 rw [tab_named] at ht
 simp only [Option.bind_some] at ht
 cases hb : W.heap[1]? with
 | none => rw [hb] at ht; simp at ht
 | some o =>
  rw [hb] at ht
  cases o <;> simp only [Option.some.injEq, reduceCtorEq] at ht
  subst ht
  exact ⟨_, _, hb, (Array.getElem?_eq_some_iff.1 hb).1⟩

section
variable {H : Type} {enc : TypeId × Value → H}
end
end Go.Proofs.YtbpabjhcjffkmaaGreatDoor
