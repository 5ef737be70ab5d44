/- RankParts: the number at a part of all is no less than that at a lesser part; at nothing it is the least, at all of them the greatest; all with as much more are as much more. No condition. -/
import Derived.Test.YtelmllngcbihjaaRankW
import Derived.Deep.QuietTactic
import Derived.BigQuiet
namespace Go.Proofs.Ytelmllngcbihjaa
open Go.RowKit Go.ChangeShapes Go.WideShapes Go.ChangeAt

theorem rank_least {ns : List Int} {r x : Int} (h : IsRank ns 0 r) (hx : x ∈ ns) : r ≤ x := by
  have h0 := h.1
  have h1 : less ns r = 0 := by omega
  have := List.countP_eq_zero.1 h1 x hx
  simp at this; omega
theorem rank_most {ns : List Int} {r x : Int} (h : IsRank ns (ns.length - 1) r) (hx : x ∈ ns) : x ≤ r := by
  have h0 := h.2.1
  have h2 : upTo ns r ≤ ns.length := List.countP_le_length
  have h1 : upTo ns r = ns.length := by omega
  have := List.countP_eq_length.1 h1 x hx
  simpa using this

set_option maxRecDepth 100000 in
set_option maxHeartbeats 4000000 in
theorem parts_any (ns : List Int) (p q d : Int) (A : Option Addr) (n cap : Nat) (w : World) (hs : ISl w w.heap.size A n ns) (hreach : n * 8 ≤ 140737488351232)
    (hwf : ∀ z ∈ ns, -9223372036854775808 ≤ z ∧ z ≤ 9223372036854775807) :
    Calls Try.prog 4 #[.slice A n cap, .int .i64 p, .int .i64 q, .int .i64 d] w (LawPost w) := by
  have Hlen := aside hs.len
  have Hwf := aside hwf
  clear hwf
  go_enter Try.func4, Try.ntmps4
  go_wp2_with fail
  refine (ranked_any _).mono ?_
  rintro e w1 ⟨rfl, hb1⟩
  have hs1 : ISl w1 w1.heap.size A n ns := Sl.more (Sl.below hs hb1) hb1.size
  go_wp2_with fail
  refine (part_any ns p A n cap w1 hs1 hreach).mono ?_
  rintro e w2 ⟨x, v2, rfl, hb2, hr2⟩
  have hs2 : ISl w2 w2.heap.size A n ns := Sl.more (Sl.below hs1 hb2) hb2.size
  have hB2 := hb1.trans (hb2.mono hb1.size)
  go_wp2_with fail
  refine (part_any ns q A n cap w2 hs2 hreach).mono ?_
  rintro e w3 ⟨y, v3, rfl, hb3, hr3⟩
  have hs3 : ISl w3 w3.heap.size A n ns := Sl.more (Sl.below hs2 hb3) hb3.size
  have hB3 := hB2.trans (hb3.mono hB2.size)
  clear hb1 hb2 hb3 hB2 hs1 hs2
  rcases hr2 with ⟨hp0, hp1, hne, rfl, hx⟩ | ⟨h1, rfl, rfl⟩ | ⟨h1, h2, rfl, rfl⟩
  · rcases hr3 with ⟨hq0, hq1, _, rfl, hy⟩ | ⟨h1, rfl, rfl⟩ | ⟨h1, h2, rfl, rfl⟩
    · by_cases hd : 0 ≤ d ∧ d ≤ 1099511627776
      · obtain ⟨hd0, hd1⟩ := hd
        go_wp2_with fail
        refine (part_any ns 0 A n cap w3 hs3 hreach).mono ?_
        rintro e w4 ⟨lo, v4, rfl, hb4, hr4⟩
        have hs4 : ISl w4 w4.heap.size A n ns := Sl.more (Sl.below hs3 hb4) hb4.size
        have hB4 := hB3.trans (hb4.mono hB3.size)
        go_wp2_with fail
        refine (part_any ns 100 A n cap w4 hs4 hreach).mono ?_
        rintro e w5 ⟨hi, v5, rfl, hb5, hr5⟩
        have hs5 : ISl w5 w5.heap.size A n ns := Sl.more (Sl.below hs4 hb5) hb5.size
        have hB5 := hB4.trans (hb5.mono hB4.size)
        clear hb4 hb5 hB4 hB3 hs3 hs4
        rcases hr4 with ⟨_, _, _, rfl, hlo⟩ | ⟨h1, rfl, rfl⟩ | ⟨h1, h2, rfl, rfl⟩
        · rcases hr5 with ⟨_, _, _, rfl, hhi⟩ | ⟨h1, rfl, rfl⟩ | ⟨h1, h2, rfl, rfl⟩
          · have hlo' : ∀ z ∈ ns, lo ≤ z := fun z hz => rank_least (by simpa [idx] using hlo) hz
            have hhi' : ∀ z ∈ ns, z ≤ hi := fun z hz => rank_most (by simpa [idx] using hhi) hz
            have hxy : p ≤ q → x ≤ y := fun h => hx.mono hy (idx_mono (by omega))
            have Hlo := aside hlo'
            have Hhi := aside hhi'
            have Hxy := aside hxy
            have Hz5 := aside hB5.size
            have Hs := aside hs
            clear hlo' hhi' hxy hlo hhi hs
            have key : p ≤ q ∧ x ≤ y ∨ q < p := by
              by_cases h : p ≤ q
              · exact .inl ⟨h, Hxy.out h⟩
              · exact .inr (by omega)
            rcases key with ⟨kq, kx⟩ | kq
            all_goals
              go_wp2_with fail
              go_loopw [18, 19] (fun v18 v19 wr => ∃ k : Nat, k ≤ n ∧ v19 = .int .i64 k ∧ Below w.heap.size w wr ∧ IRow wr w.heap.size v18 ((ns.take k).map (· + d)) ∧ (∀ z ∈ ns.take k, z ≤ 1152921504606846976)) (fun _ v19 _ => n - (intOf v19).toNat)
              case atStart => exact ⟨0, Nat.zero_le _, rfl, hB5, World.ownsRow_nil _ _ _ _, fun z hz => by simp at hz⟩
              case round =>
                obtain ⟨k, hk, rfl, hb, hrow, hle⟩ := hrel
                have hz := hb.size
                by_cases hlt : k < n
                · have hsr : ISl wr wr.heap.size A n ns := by
                    have := hb
                    exact Sl.more (Sl.below (w := w) Hs.out hb) hz
                  obtain ⟨b, off, rfl, hbl, hc⟩ := hsr.at_ hlt
                  have hmem : nth ns k ∈ ns := nth_mem (by have := Hlen.out; omega)
                  have k1 := Hlo.out _ hmem
                  have k2 := Hhi.out _ hmem
                  have k3 := Hwf.out _ hmem
                  have Ht := aside (take_nth (zs := ns) (k := k) (by have := Hlen.out; omega))
                  obtain ⟨gs, hgs⟩ : ∃ gs, gs = (ns.take k).map (· + d) := ⟨_, rfl⟩
                  rw [← hgs] at hrow
                  have hll : gs.length ≤ k := by rw [hgs]; simp; omega
                  have Hgs := aside hgs
                  clear hgs
                  by_cases h60 : nth ns k ≤ 1152921504606846976
                  · have hw1 : wrap64 (nth ns k + d) = nth ns k + d := by unfold wrap64; omega
                    have K3 := aside k3
                    have Hle := aside hle
                    clear k3 hle hmem
                    go_wp2_with (at_builtin; refine wpList_push rfl (.tmp 102) (.tmp 109) 22 rfl w.heap.size _ 1 8 Try.underlying22 intInfo rfl (by decide) _ _ _ rfl rfl rfl rfl hrow (by omega) (by unfold maxLen; omega) (by omega) ?_)
                    intro A3 c3 w6 _ _ hown6 hb6 hz6 _
                    go_wp2
                    refine ⟨⟨k + 1, by omega, by go_num, hb.trans hb6, ?_, ?_⟩, by simp [intOf]; omega⟩
                    · rw [Ht.out, List.map_append, ← Hgs.out]
                      exact IRow.push rfl hown6
                    · rw [Ht.out]
                      intro z hz'
                      rcases List.mem_append.1 hz' with h | h
                      · exact Hle.out z h
                      · simp at h; omega
                  · clear k3 hle hmem
                    go_wp2
                    go_ret
                    exact ⟨rfl, hb⟩
                · obtain rfl : k = n := by omega
                  have hl := Hlen.out
                  rw [List.take_of_length_le (by omega)] at hrow hle
                  obtain ⟨A4, n4, c4, rfl, i4, j4, l4⟩ := hrow.out
                  have hn4 : n4 = k := by have := i4.len; simp at this; omega
                  subst hn4
                  clear hrow
                  have hxm := hle x hx.2.2
                  have hxw := Hwf.out x hx.2.2
                  have hw2 : wrap64 (x + d) = x + d := by unfold wrap64; omega
                  have hne' : ns.map (· + d) ≠ [] := by simpa using hne
                  have Hle := aside hle
                  have Hl := aside hl
                  clear hle hl hxw
                  go_wp2_with fail
                  refine (part_any (ns.map (· + d)) p A4 n4 c4 wr i4 hreach).mono ?_
                  rintro e w6 ⟨z, v6, rfl, hb6, hr6⟩
                  rcases hr6 with ⟨_, _, _, rfl, hz6⟩ | ⟨h1, _, _⟩ | ⟨_, h2, _, _⟩
                  · have hx' := rank_map d hx
                    rw [List.length_map] at hz6
                    obtain rfl : z = x + d := hz6.uniq hx'
                    have hq1 : (x + d == x + d) = true := by simp
                    go_wp2
                    go_ret
                    exact ⟨by simp, hb.trans (hb6.mono hz)⟩
                  · exact absurd h1 hne'
                  · omega
          · exact absurd h1 hne
          · omega
        · exact absurd h1 hne
        · omega
      · have hd' : d < 0 ∨ 1099511627776 < d := by omega
        clear hd
        rcases hd' with hd' | hd'
        all_goals
          go_wp2
          go_ret
          exact ⟨rfl, hB3⟩
    · exact absurd h1 hne
    · go_wp2
      go_ret
      exact ⟨rfl, hB3⟩
  · go_wp2
    go_ret
    exact ⟨rfl, hB3⟩
  · go_wp2
    go_ret
    exact ⟨rfl, hB3⟩

/-- What the law's arguments are. -/
theorem rankParts_walk {H : Type} {enc : TypeId × Value → H} (W : World) (args : Array Value) (ds : List (DataW H)) (ps : List MemPlace)
    (h : LawPre enc Try.prog Try.f4 W args ds ps) : Calls Try.prog 4 args W (LawPost W) := by
  obtain ⟨hA, ⟨base, hval⟩, hlt, hsz⟩ := h
  rw [Try.params4] at hA hval hsz
  obtain ⟨v0, v1, v2, v3, d0, d1, d2, d3, p0, p1, p2, p3, rfl, rfl, rfl, h0, h1, h2, h3⟩ := trodAll_four hA
  obtain ⟨A, n, c', zs, rfl, hc1, hc2, hs, hwf, hx⟩ := open_intSlice (hval 0 _ v0 rfl rfl) h0 (fun x hx => hlt x (by simp [hx]))
  obtain ⟨p, rfl, rfl, rfl, _⟩ := open_int Try.underlying3 (hval 1 _ v1 rfl rfl) h1
  obtain ⟨q, rfl, rfl, rfl, _⟩ := open_int Try.underlying3 (hval 2 _ v2 rfl rfl) h2
  obtain ⟨d, rfl, rfl, rfl, _⟩ := open_int Try.underlying3 (hval 3 _ v3 rfl rfl) h3
  exact parts_any zs p q d A n c' W hs (reach_ints hsz (j := 0) rfl rfl Try.underlying22 (by kernel_rfl) hx) hwf

set_option maxRecDepth 100000 in
theorem rankParts_lifted (os : Os) (started : os.Started) (H : Type) (enc : TypeId × Value → H) :
    ReturnsInHanded {} Try.checked os 4 .any (Rows.rankPartsSpec.pre6 enc Try.prog Try.f4 Rows.rankPartsRow.domain false) (Rows.rankPartsSpec.post enc Try.prog Try.f4 false true false false) :=
  law_lifted (C := Try.checked) (B := 4) (n := 4) Try.own started (by kernel_rfl) Try.func4
      (ChangeSpec.witness6 (enc := enc) (C := Try.checked) false ⟨#[], #[.slice none 0 0, .int .i64 0, .int .i64 0, .int .i64 0], []⟩ 8 (by kernel_rfl) (by kernel_rfl) (by kernel_rfl) (by kernel_rfl))
      rfl Try.underlying4 (by kernel_rfl) Try.laidOut (by kernel_rfl) (by kernel_rfl) (fun ds h => by match ds, h with | [a, b, c, d], _ => rfl) rankParts_walk

/-- The statement. -/
theorem RankParts_holds : Rows.RankPartsSaid :=
  OpenClaim.holds_of_wide 4 Try.f4 rfl rfl rfl rfl rfl rfl rfl ⟨rfl, rfl, rfl, rfl, rfl⟩ rfl rfl rfl rfl rfl (by kernel_rfl) Try.func4 (by kernel_rfl)
    (of_decide_eq_true (by kernel_rfl)) (by unfold Func.isWrapper; first | (rw [if_pos (by decide +kernel)]; kernel_rfl) | (rw [if_neg (by decide +kernel)]; exact ⟨rfl, rfl⟩))
    (fun os started H enc _ => rankParts_lifted os started H enc)
#print axioms RankParts_holds
end Go.Proofs.Ytelmllngcbihjaa
