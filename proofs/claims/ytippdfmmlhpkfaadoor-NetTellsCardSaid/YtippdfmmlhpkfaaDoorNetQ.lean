/- Words for the walks over debts and piles. Conditions: named in each theorem. -/
import Derived.Test.YtippdfmmlhpkfaaDoorNetP
import Derived.Deep.RegionHeld3
import Derived.Deep.RegionLaw
import Derived.Deep.RegionWith
namespace Go.Proofs.YtippdfmmlhpkfaaDoor
open Go.RowKit Go.ChangeShapes Go.WideShapes Go.ChangeAt

theorem debtInfo : (Tryd.prog.info? 41).map (fun i => (i.zero, i.size, i.bytes)) = some (some (.agg #[.int .i64 0, .int .i64 0, .int .i64 0]), 3, 24) := by kernel_rfl
theorem flatD_app (xs : List Db) (f t a : Int) : (xs ++ [(f, t, a)]).flatMap dbV = xs.flatMap dbV ++ #[Value.int .i64 f, .int .i64 t, .int .i64 a].toList := by simp [dbV]
def Three (w : World) (b o : Nat) (f t a : Int) : Prop := w.cell? ⟨b, o, none⟩ = some (.int .i64 f) ∧ w.cell? ⟨b, o + 1, none⟩ = some (.int .i64 t) ∧ w.cell? ⟨b, o + 2, none⟩ = some (.int .i64 a)
theorem three_keep {W W' : World} {b o B : Nat} {f t a : Int} (hb : Below B W W') (l : b < B) (h : W.cell? ⟨b, o, none⟩ = some (.int .i64 f) ∧ W.cell? ⟨b, o + 1, none⟩ = some (.int .i64 t) ∧ W.cell? ⟨b, o + 2, none⟩ = some (.int .i64 a)) : W'.cell? ⟨b, o, none⟩ = some (.int .i64 f) ∧ W'.cell? ⟨b, o + 1, none⟩ = some (.int .i64 t) ∧ W'.cell? ⟨b, o + 2, none⟩ = some (.int .i64 a) :=
  ⟨(hb.cell (p := ⟨b, o, none⟩) l).trans h.1, (hb.cell (p := ⟨b, o + 1, none⟩) l).trans h.2.1, (hb.cell (p := ⟨b, o + 2, none⟩) l).trans h.2.2⟩
theorem three_drew {W : World} {b o : Nat} {f t a : Int} (h : W.cell? ⟨b, o, none⟩ = some (.int .i64 f) ∧ W.cell? ⟨b, o + 1, none⟩ = some (.int .i64 t) ∧ W.cell? ⟨b, o + 2, none⟩ = some (.int .i64 a)) : W.drew.cell? ⟨b, o, none⟩ = some (.int .i64 f) ∧ W.drew.cell? ⟨b, o + 1, none⟩ = some (.int .i64 t) ∧ W.drew.cell? ⟨b, o + 2, none⟩ = some (.int .i64 a) := h
theorem three_alloc_drew {W : World} {c : Obj} {b o : Nat} {f t a : Int} (l : b < W.heap.size) (h : W.cell? ⟨b, o, none⟩ = some (.int .i64 f) ∧ W.cell? ⟨b, o + 1, none⟩ = some (.int .i64 t) ∧ W.cell? ⟨b, o + 2, none⟩ = some (.int .i64 a)) : (W.alloc c).drew.cell? ⟨b, o, none⟩ = some (.int .i64 f) ∧ (W.alloc c).drew.cell? ⟨b, o + 1, none⟩ = some (.int .i64 t) ∧ (W.alloc c).drew.cell? ⟨b, o + 2, none⟩ = some (.int .i64 a) :=
  three_keep (W' := W.alloc c) ((Below.refl _ _).alloc (Nat.le_refl _) c) l h
theorem cells3 {w : World} {g : Nat} {f t a : Int} {T : TypeId} (hg : g = w.heap.size) : ∀ j u, [Value.int .i64 f, .int .i64 t, .int .i64 a][j]? = some u → (w.alloc (.cells #[.int .i64 f, .int .i64 t, .int .i64 a] T)).cell? ⟨g, j, none⟩ = some u := by
  subst hg
  intro j u hj
  refine (World.cell?_alloc_at _ _ _ _ rfl).trans ?_
  simpa using hj
theorem one3 {f t a : Int} : ∀ u ∈ [Value.int .i64 f, .int .i64 t, .int .i64 a], u.oneCell' = true := by
  intro u hu
  simp at hu
  rcases hu with rfl | rfl | rfl <;> rfl
theorem drop_next {ds : List Db} {n k j : Nat} (hn : ds.length = n) (hj : n = j + k + 1) : (ds.drop (n - (k + 1))).reverse = (ds.drop (n - k)).reverse ++ [ds.getD j (0, 0, 0)] := by
  have h1 : n - (k + 1) = j := by omega
  have h2 : n - k = j + 1 := by omega
  rw [h1, h2, List.drop_eq_getElem_cons (by omega), List.reverse_cons, List.getD_eq_getElem?_getD, List.getElem?_eq_getElem (by omega)]
  rfl

theorem total_app (xs : List Ln) (s a : Int) : total (xs ++ [(s, a)]) = total xs + a := by simp [total]
theorem sumOver_none (n : Int) (a : Int) {ks : List Int} (h : n ∉ ks) : sumOver (fun s => if s = n then a else 0) ks = 0 :=
  sumOver_zero fun s hs => if_neg fun (e : s = n) => h (e ▸ hs)
theorem sumOver_bnd {M : Int} {ks : List Int} (hd : ks.Nodup) : ∀ {ls : List Ln}, (∀ l ∈ ls, -M ≤ l.2 ∧ l.2 ≤ M) → 0 ≤ M → -((ls.length : Int) * M) ≤ sumOver (fun s => sumAt s ls) ks ∧ sumOver (fun s => sumAt s ls) ks ≤ (ls.length : Int) * M
  | [], _, _ => by
    have : sumOver (fun s => sumAt s []) ks = 0 := sumOver_zero fun _ _ => rfl
    rw [this]
    simp
  | l :: r, h, hM => by
    have h1 := sumOver_bnd hd (ls := r) (fun x hx => h x (by simp [hx])) hM
    have h2 := h l (by simp)
    have h3 := sumOver_add (fun s => if s = l.1 then l.2 else 0) (fun s => sumAt s r) ks
    have e : (fun s => sumAt s (l :: r)) = fun s => (if s = l.1 then l.2 else 0) + sumAt s r := rfl
    have e2 : ((r.length + 1 : Nat) : Int) * M = (r.length : Int) * M + M := by rw [Int.natCast_add, Int.add_mul]; simp
    rw [e, h3, List.length_cons, e2]
    by_cases hm : l.1 ∈ ks
    · rw [sumOver_one l.1 l.2 hd hm]
      omega
    · rw [sumOver_none l.1 l.2 hm]
      omega
theorem netL_part {ds : List Db} (h : dErr ds = 0) (j : Nat) : -225179981368524800 ≤ total ((netL ds).take j) ∧ total ((netL ds).take j) ≤ 225179981368524800 := by
  obtain ⟨h1, h2⟩ := dErr_zero h
  have hk : ((keysOf (netD ds)).take j).Nodup := List.Pairwise.sublist (List.take_sublist _ _) ((keysOf_perm _).nodup_iff.2 (netD_map ds).facts.1)
  have h3 := sumOver_bnd hk (lns_bnd h2) (by omega)
  have e : total ((netL ds).take j) = sumOver (fun s => sumAt s (lnsOf ds)) ((keysOf (netD ds)).take j) := by
    unfold netL trialOf total sumOver
    rw [← List.map_take, List.map_map]
    congr 1
    refine List.map_congr_left fun x _ => ?_
    simp [netF_eq]
  rw [e]
  rw [lnsOf_len] at h3
  omega
end Go.Proofs.YtippdfmmlhpkfaaDoor
