/- BookOrder: two entries in either order leave the same accounts. No condition. -/
import Derived.Test.YtjoplhpaefngkaaBookO
namespace Go.Proofs.Ytjoplhpaefngkaa
open Go.RowKit Go.ChangeShapes Go.WideShapes Go.ChangeAt

/-- Two maps with the same names, and the same numbers, tell the same. -/
theorem trial_same {w w' : World} {b b' n n' : Nat} {D D' : DataW Unit} {f f' : List UInt8 → Int} (h : MapAt w b n D) (h' : MapAt w' b' n' D') (hk : ∀ x, Maps.has D (kOf x) = Maps.has D' (kOf x)) (hf : ∀ x, f x = f' x) : trialOf D f = trialOf D' f' := by
  obtain ⟨h1, h2⟩ := keys_facts h
  obtain ⟨h3, h4⟩ := keys_facts h'
  have hp : (strKeys D).Perm (strKeys D') := (List.perm_ext_iff_of_nodup h1 h3).2 fun x => by rw [h2 x, h4 x, hk x]
  rw [trialOf, trialOf, keysOf, keysOf, mergeSort_of_perm hp]
  exact List.map_congr_left fun x _ => by rw [hf x]
theorem order_same {w w' : World} {bb bb' : Nat} {D : DataW Unit} {f : List UInt8 → Int} {cnt cnt' : Int} {xs ys : List Ln} (hD : Maps.Tidy D)
    (h : BookAt w bb (putAll (putAll D f xs) (addAll f xs) ys) (addAll (addAll f xs) ys) cnt) (h' : BookAt w' bb' (putAll (putAll D f ys) (addAll f ys) xs) (addAll (addAll f ys) xs) cnt') :
    trialOf (putAll (putAll D f xs) (addAll f xs) ys) (addAll (addAll f xs) ys) = trialOf (putAll (putAll D f ys) (addAll f ys) xs) (addAll (addAll f ys) xs) := by
  obtain ⟨-, ⟨mb, -, h3⟩, -, -, hF⟩ := h
  obtain ⟨-, ⟨mb', -, h3'⟩, -, -, hF'⟩ := h'
  refine trial_same h3 h3' (fun x => ?_) (fun x => addAll_comm f xs ys x)
  have t1 : ∀ (zs : List Ln) (g : List UInt8 → Int) (E : DataW Unit), Maps.Tidy E → Maps.Tidy (putAll E g zs) := by
    intro zs
    induction zs with
    | nil => intro g E h; exact h
    | cons z r ih => intro g E h; exact ih _ _ (h.put (isKey_kOf z.1) _)
  rw [has_putAll _ _ _ _ (t1 _ _ _ hD), has_putAll _ _ _ _ hD, has_putAll _ _ _ _ (t1 _ _ _ hD), has_putAll _ _ _ _ hD, Bool.or_assoc, Bool.or_assoc, Bool.or_comm (xs.any _)]

theorem BookAt.cell0 {w : World} {bb : Nat} {D : DataW Unit} {f : List UInt8 → Int} {cnt : Int} (h : BookAt w bb D f cnt) : ∃ v, w.cell? ⟨bb, 0, none⟩ = some v := by
  obtain ⟨-, ⟨mb, h2, -⟩, -⟩ := h
  exact ⟨_, h2⟩

set_option maxHeartbeats 8000000 in
set_option maxRecDepth 100000 in
theorem order_any (A1 A2 A3 : Option Addr) (n1 n2 n3 p1 p2 p3 : Nat) (xs ys : List Ln) (w : World) (he : ESl w w.heap.size A1 n1) (hx : LSl w w.heap.size A2 n2 xs) (hy : LSl w w.heap.size A3 n3 ys) :
    Calls Try.prog 5 #[.slice A1 n1 p1, .slice A2 n2 p2, .slice A3 n3 p3] w (LawPost w) := by
  have HXs := aside hx
  have HYs := aside hy
  clear hx hy
  go_enter Try.func5, Try.ntmps5
  go_wp2_with fail
  refine (posted_any _).mono ?_
  rintro e w1 ⟨rfl, hb1⟩
  have hz1 := hb1.size
  go_wp2_with fail
  refine (new_any _).mono ?_
  rintro e w2 ⟨ba, rfl, hba, hb2, hBa⟩
  have hza := hBa.lt
  have H2 := aside (hb1.trans (hb2.mono hz1))
  have HBa := aside hBa
  clear hb2 hBa
  go_wp2_with fail
  refine (new_any _).mono ?_
  rintro e w3 ⟨bb, rfl, hbb, hb3, hBb⟩
  have HBa3 := aside (HBa.out.to hb3)
  have HBb := aside hBb
  have H3 := aside (H2.out.trans (hb3.mono H2.out.size))
  have hwa : w.heap.size ≤ ba := by omega
  have hab : ba ≠ bb := by omega
  have hwb : w.heap.size ≤ bb := by have := H2.out.size; omega
  clear hb1 hb3 hBb hbb hz1 hba hza HBa
  by_cases h40 : 40 < n1
  · have h40' : (40 : Int) < (n1 : Int) := by omega
    go_wp2
    go_ret
    exact ⟨rfl, H3.out⟩
  have h40' : ((40 : Int) < (n1 : Int)) = False := by simp only [eq_iff_iff, iff_false]; omega
  go_wp2_with fail
  go_loopw [10] (fun v10 wr => ∃ (k : Nat) (D : DataW Unit) (f : List UInt8 → Int) (cnt : Int), k ≤ n1 ∧ v10 = .int .i64 k ∧ 0 ≤ cnt ∧ cnt ≤ k ∧ Hid (BookAt wr ba D f cnt) ∧ Hid (BookAt wr bb D f cnt) ∧ Below w.heap.size w wr) (fun v10 _ => n1 - (intOf v10).toNat)
  case atStart => exact ⟨0, _, _, 0, Nat.zero_le _, rfl, by omega, by omega, HBa3, HBb, H3.out⟩
  case round =>
    obtain ⟨k, D, f, cnt, hk, rfl, hc0, hc1, HBa, HBb, hb⟩ := hrel
    have hbz := hb.size
    by_cases k1 : k < n1
    · obtain ⟨b, off, Ai, ni, ci, li, rfl, hlt, c0, hli⟩ := he k k1
      have d0 := (hb.cell (p := ⟨b, off + k, none⟩) hlt).trans c0
      have l0 : b < wr.heap.size := by omega
      have i1 : (k : Int) < (n1 : Int) := by omega
      have i4 : (0 : Int) ≤ (k : Int) := by omega
      have HLi := aside ((Sl.below hli hb).more hbz)
      have HLi0 := aside hli
      clear hli
      go_wp2_with fail
      refine (post_book2 li Ai ni ci w.heap.size ba cnt D f _ HLi.out hwa HBa.out (by omega)).mono ?_
      rintro e w4 ⟨hb4, hg4, hp4⟩
      obtain ⟨va, hva⟩ := HBa.out.cell0
      have HBb4 := aside (HBb.out.but hb4.size hg4 hab.symm hva)
      have H4 := aside (hb.trans hb4)
      have hp4' : ∃ v, e = .returned v ∧ ((PostOk 60 D f li ∧ BookAt w4 ba (putAll D f li) (addAll f li) (cnt + 1)) ∨ (¬ PostOk 60 D f li ∧ BookAt w4 ba D f cnt)) := by
        rcases hp4 with ⟨h1, rfl, h2⟩ | ⟨h1, ⟨q, rfl⟩, h2⟩
        · exact ⟨_, rfl, .inl ⟨h1, h2⟩⟩
        · exact ⟨_, rfl, .inr ⟨h1, h2⟩⟩
      obtain ⟨v4, rfl, hp4'⟩ := hp4'
      have HP4 := aside hp4'
      have HLi4 := aside ((Sl.below HLi0.out H4.out).more H4.out.size)
      have e0 := (H4.out.cell (p := ⟨b, off + k, none⟩) hlt).trans c0
      have l4 : b < w4.heap.size := by have := H4.out.size; omega
      clear hb4 hg4 hp4 hp4' hva d0 hb
      go_wp2_with fail
      refine (post_book2 li Ai ni ci w.heap.size bb cnt D f _ HLi4.out hwb HBb4.out (by omega)).mono ?_
      rintro e w5 ⟨hb5, hg5, hp5⟩
      obtain ⟨vb, hvb⟩ := HBb4.out.cell0
      have hp5' : ∃ v D' f' cnt', e = .returned v ∧ BookAt w5 ba D' f' cnt' ∧ BookAt w5 bb D' f' cnt' ∧ 0 ≤ cnt' ∧ cnt' ≤ cnt + 1 := by
        rcases HP4.out with ⟨h1, h2⟩ | ⟨h1, h2⟩
        · rcases hp5 with ⟨-, rfl, h4⟩ | ⟨h3, -⟩
          · exact ⟨_, _, _, _, rfl, h2.but hb5.size hg5 hab hvb, h4, by omega, by omega⟩
          · exact absurd h1 h3
        · rcases hp5 with ⟨h3, -⟩ | ⟨-, ⟨q, rfl⟩, h4⟩
          · exact absurd h3 h1
          · exact ⟨_, _, _, _, rfl, h2.but hb5.size hg5 hab hvb, h4, by omega, by omega⟩
      obtain ⟨v5, D5, f5, cnt5, rfl, hBa5, hBb5, hc5, hc6⟩ := hp5'
      have HBa5 := aside hBa5
      have HBb5 := aside hBb5
      have H5 := aside (H4.out.trans hb5)
      clear hb5 hg5 hp5 hvb hBa5 hBb5 c0 e0
      go_wp2_with fail
      exact ⟨⟨k + 1, D5, f5, cnt5, by omega, rfl, by omega, by omega, HBa5, HBb5, H5.out⟩, by simp [intOf]; omega⟩
    · have i1 : ((k : Int) < (n1 : Int)) = False := by simp only [eq_iff_iff, iff_false]; omega
      have HX0 := aside ((Sl.below HXs.out hb).more hbz)
      have H0 := aside hb
      clear he hb
      go_wp2_with fail
      refine (post_book2 xs A2 n2 p2 w.heap.size ba cnt D f _ HX0.out hwa HBa.out (by omega)).mono ?_
      rintro e w4 ⟨hb4, hg4, ⟨-, rfl, hBa4⟩ | ⟨-, ⟨q, rfl⟩, -⟩⟩
      rotate_left
      · have H4 := aside (H0.out.trans hb4)
        clear hb4 hg4
        go_wp2
        go_ret
        exact ⟨rfl, H4.out⟩
      obtain ⟨va, hva⟩ := HBa.out.cell0
      have HBb4 := aside (HBb.out.but hb4.size hg4 hab.symm hva)
      have HBa4 := aside hBa4
      have H4 := aside (H0.out.trans hb4)
      have HY4 := aside ((Sl.below HYs.out H4.out).more H4.out.size)
      clear hb4 hg4 hva hBa4
      go_wp2_with fail
      refine (post_book2 ys A3 n3 p3 w.heap.size ba _ _ _ _ HY4.out hwa HBa4.out (by omega)).mono ?_
      rintro e w5 ⟨hb5, hg5, ⟨-, rfl, hBa5⟩ | ⟨-, ⟨q, rfl⟩, -⟩⟩
      rotate_left
      · have H5 := aside (H4.out.trans hb5)
        clear hb5 hg5
        go_wp2
        go_ret
        exact ⟨rfl, H5.out⟩
      obtain ⟨va, hva⟩ := HBa4.out.cell0
      have HBb5 := aside (HBb4.out.but hb5.size hg5 hab.symm hva)
      have HBa5 := aside hBa5
      have H5 := aside (H4.out.trans hb5)
      have HY5 := aside ((Sl.below HYs.out H5.out).more H5.out.size)
      clear hb5 hg5 hva hBa5
      go_wp2_with fail
      refine (post_book2 ys A3 n3 p3 w.heap.size bb _ _ _ _ HY5.out hwb HBb5.out (by omega)).mono ?_
      rintro e w6 ⟨hb6, hg6, ⟨-, rfl, hBb6⟩ | ⟨-, ⟨q, rfl⟩, -⟩⟩
      rotate_left
      · have H6 := aside (H5.out.trans hb6)
        clear hb6 hg6
        go_wp2
        go_ret
        exact ⟨rfl, H6.out⟩
      obtain ⟨vb, hvb⟩ := HBb5.out.cell0
      have HBa6 := aside (HBa5.out.but hb6.size hg6 hab hvb)
      have HBb6 := aside hBb6
      have H6 := aside (H5.out.trans hb6)
      have HX6 := aside ((Sl.below HXs.out H6.out).more H6.out.size)
      clear hb6 hg6 hvb hBb6
      go_wp2_with fail
      refine (post_book2 xs A2 n2 p2 w.heap.size bb _ _ _ _ HX6.out hwb HBb6.out (by omega)).mono ?_
      rintro e w7 ⟨hb7, hg7, ⟨-, rfl, hBb7⟩ | ⟨-, ⟨q, rfl⟩, -⟩⟩
      rotate_left
      · have H7 := aside (H6.out.trans hb7)
        clear hb7 hg7
        go_wp2
        go_ret
        exact ⟨rfl, H7.out⟩
      obtain ⟨vb, hvb⟩ := HBb6.out.cell0
      have HBa7 := aside (HBa6.out.but hb7.size hg7 hab hvb)
      have HBb7 := aside hBb7
      have H7 := aside (H6.out.trans hb7)
      have HSame := aside (order_same HBa.out.fine.1.tidy HBa7.out HBb7.out)
      clear hb7 hg7 hvb hBb7
      go_wp2_with fail
      refine (trial_any ba _ _ _ _ HBa7.out).mono ?_
      rintro e w8 ⟨Aa, ca, rfl, hta, hb8⟩
      have HTa := aside hta
      have HBa8 := aside (HBa7.out.to hb8)
      have HBb8 := aside (HBb7.out.to hb8)
      have H8 := aside (H7.out.trans (hb8.mono H7.out.size))
      have ht60 := trial_len HBa7.out.fine
      clear hta hb8
      go_wp2_with fail
      refine (trial_any bb _ _ _ _ HBb8.out).mono ?_
      rintro e w9 ⟨Ab, cb, rfl, htb, hb9⟩
      rw [← HSame.out] at htb ⊢
      have HTb := aside htb
      have HTa9 := aside ((Sl.below HTa.out hb9).more hb9.size)
      have HBa9 := aside (HBa8.out.to hb9)
      have HBb9 := aside (HBb8.out.to hb9)
      have H9 := aside (H8.out.trans (hb9.mono H8.out.size))
      clear htb hb9
      go_wp2_with fail
      refine (lines_same _ _ _ _ _ _ _ HTa9.out HTb.out (by omega)).mono ?_
      rintro e w10 ⟨rfl, q, rfl⟩
      have HBa10 := aside (HBa9.out.drewN q)
      have HBb10 := aside (HBb9.out.drewN q)
      go_wp2_with (first
        | (go_at_call_of 10 (Value.pointer (some ⟨ba, 0, none⟩)); refine (entries_any ba _ _ _ _ HBa10.out).mono ?_; rintro e w' ⟨rfl, rfl⟩)
        | (go_at_call_of 10 (Value.pointer (some ⟨bb, 0, none⟩)); refine (entries_any bb _ _ _ _ HBb10.out).mono ?_; rintro e w' ⟨rfl, rfl⟩)
        | fail)
      go_ret
      exact ⟨by simp, below_drawn H9.out q⟩
end Go.Proofs.Ytjoplhpaefngkaa
