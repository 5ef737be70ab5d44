/- NetTells: what is netted and settled is what the reference has. Condition: errors.errorType reads as the program's text lays it. -/
import Derived.Test.YtippdfmmlhpkfaaDoorNetH
import Derived.Test.YtippdfmmlhpkfaaDoorNetG
import Derived.Test.YtippdfmmlhpkfaaDoorNetO
import Derived.Test.YtippdfmmlhpkfaaDoorDoor
import Derived.Test.YtippdfmmlhpkfaaDoorErr
namespace Go.Proofs.YtippdfmmlhpkfaaDoor
open Go.RowKit Go.ChangeShapes Go.WideShapes Go.ChangeAt

/-- The piles that are told. -/
noncomputable def toldL (ds : List Db) : List Ln := if nErr ds = 0 then netL ds else []
theorem toldL_len (ds : List Db) : (toldL ds).length ≤ 60 := by
  unfold toldL
  split
  · next h => exact (nErr_zero h).2
  · simp
theorem check_out (ds : List Db) (A : Option Addr) (n c : Nat) (w : World) (h : DSl w w.heap.size A n ds) :
    Calls Tryd.prog 6 #[.slice A n c] w (fun e w' => e = .returned (errOf (dErr ds)) ∧ Below w.heap.size w w') := by
  refine (check_any ds A n c w h).mono ?_
  rintro e w' ⟨⟨h1, rfl⟩ | ⟨h1, rfl⟩, hb⟩
  · exact ⟨by rw [h1]; rfl, hb⟩
  · exact ⟨by rw [errOf_no h1], hb⟩
theorem fault_out (ds : List Db) (A : Option Addr) (n c : Nat) (w : World) (h : DSl w w.heap.size A n ds) :
    Calls Tryd.prog 7 #[.slice A n c] w (fun e w' => e = .returned (.int .i64 (dErr ds)) ∧ Below w.heap.size w w') := by
  refine (debtsFault_any ds A n c w h).mono ?_
  rintro e w' ⟨h1, h2⟩
  exact ⟨h1, by rw [h2]; exact Below.refl _ _⟩
theorem net_out (ds : List Db) (A : Option Addr) (n c : Nat) (w : World) (h : DSl w w.heap.size A n ds) (hI : ∀ d ∈ ds, DbIn d) :
    Calls Tryd.prog 9 #[.slice A n c] w (fun e w' => (∃ A c, e = .returned (.tuple #[.slice A (toldL ds).length c, errOf (nErr ds)]) ∧ PSl w' w'.heap.size A (toldL ds).length (toldL ds)) ∧ Below w.heap.size w w') := by
  refine (net_any ds A n c w h hI).mono ?_
  rintro e w' ⟨⟨h1, A', c', rfl, h2⟩ | ⟨h1, rfl⟩, hb⟩
  · have e1 : toldL ds = netL ds := by unfold toldL; rw [if_pos h1]
    rw [e1]
    exact ⟨⟨A', c', by rw [h1]; rfl, h2⟩, hb⟩
  · have e1 : toldL ds = [] := by unfold toldL; rw [if_neg h1]
    rw [e1]
    exact ⟨⟨none, 0, by rw [errOf_no h1]; rfl, Sl.nil_⟩, hb⟩
theorem netted_out (ds : List Db) (A : Option Addr) (n c : Nat) (w : World) (h : DSl w w.heap.size A n ds) :
    Calls Tryd.prog 8 #[.slice A n c] w (fun e w' => (∃ A c, e = .returned (.tuple #[.slice A (toldL ds).length c, .int .i64 (nErr ds)]) ∧ PSl w' w'.heap.size A (toldL ds).length (toldL ds)) ∧ Below w.heap.size w w') := by
  refine (netted_ref ds A n c w h).mono ?_
  rintro e w' ⟨⟨h1, A', c', rfl, h2⟩ | ⟨h1, rfl⟩, hb⟩
  · have e1 : toldL ds = netL ds := by unfold toldL; rw [if_pos h1]
    rw [e1]
    exact ⟨⟨A', c', by rw [h1], h2⟩, hb⟩
  · have e1 : toldL ds = [] := by unfold toldL; rw [if_neg h1]
    rw [e1]
    exact ⟨⟨none, 0, rfl, Sl.nil_⟩, hb⟩
/-- The debts that are told. -/
def ToldD (ps : List Ln) (out : List Db) : Prop := (rErr ps = 0 ∧ Run ps out) ∨ (rErr ps ≠ 0 ∧ out = [])
theorem ToldD.uniq {ps : List Ln} {a b : List Db} (h : ToldD ps a) (g : ToldD ps b) : a = b := by
  rcases h with ⟨h1, h⟩ | ⟨h1, rfl⟩ <;> rcases g with ⟨g1, g⟩ | ⟨g1, rfl⟩
  · exact h.uniq g
  · exact absurd h1 g1
  · exact absurd g1 h1
  · rfl
theorem settle_out (ps : List Ln) (A : Option Addr) (n c : Nat) (w : World) (h : PSl w w.heap.size A n ps) :
    Calls Tryd.prog 13 #[.slice A n c] w (fun e w' => (∃ A c out, e = .returned (.tuple #[.slice A out.length c, errOf (rErr ps)]) ∧ DSl w' w'.heap.size A out.length out ∧ ToldD ps out ∧ out.length ≤ 60) ∧ Below w.heap.size w w') := by
  refine (settle_any ps A n c w h).mono ?_
  rintro e w' ⟨⟨h1, A', c', own, out, rfl, h2, h3, h4⟩ | ⟨h1, rfl⟩, hb⟩
  · have hr := h3.run [] (.stop h4)
    rw [List.append_nil] at hr
    have hl : out.length ≤ 60 := by
      have e1 := h3.count
      have e2 : nz ps ≤ ps.length := List.countP_le_length
      have e3 := (rErr_zero h1).1
      omega
    exact ⟨⟨A', c', out, by rw [h1]; rfl, h2, .inl ⟨h1, hr⟩, hl⟩, hb⟩
  · exact ⟨⟨none, 0, [], by rw [errOf_no h1]; rfl, Sl.nil_, .inr ⟨h1, rfl⟩, by simp⟩, hb⟩
theorem settled_out (ps : List Ln) (A : Option Addr) (n c : Nat) (w : World) (h : PSl w w.heap.size A n ps) (he : rErr ps = 0) :
    Calls Tryd.prog 12 #[.slice A n c] w (fun e w' => (∃ A c out, e = .returned (.slice A out.length c) ∧ DSl w' w'.heap.size A out.length out ∧ ToldD ps out) ∧ Below w.heap.size w w') := by
  refine (settled_any ps A n c w h he).mono ?_
  rintro e w' ⟨A', c', out, rfl, h2, h3, hb⟩
  exact ⟨⟨A', c', out, rfl, h2, .inl ⟨he, h3⟩⟩, hb⟩

set_option maxHeartbeats 8000000 in
set_option maxRecDepth 100000 in
theorem netTells_any (ds : List Db) (ps : List Ln) (A A2 : Option Addr) (n c n2 c2 : Nat) (w : World) (hg : ErrVar w) (h : DSl w w.heap.size A n ds) (hI : ∀ d ∈ ds, DbIn d) (h2 : PSl w w.heap.size A2 n2 ps) :
    Calls Tryd.prog 3 #[.slice A n c, .slice A2 n2 c2] w (LawPost w) := by
  have HG := aside hg
  have hgl := errVar_lt hg
  have HD := aside h
  have HP := aside h2
  have HI := aside hI
  clear hg h h2 hI
  go_enter Tryd.func3, Tryd.ntmps3
  go_wp2_with fail
  refine (netted_any _).mono ?_
  rintro e w1 ⟨rfl, hb1⟩
  have H1 := aside hb1
  clear hb1
  go_wp2_with fail
  refine (check_out ds A n c _ ((Sl.below HD.out H1.out).more H1.out.size)).mono ?_
  rintro e w2 ⟨rfl, hb2⟩
  have H2 := aside (H1.out.trans (hb2.mono H1.out.size))
  clear hb2
  go_wp2_with fail
  refine (fault_out ds A n c _ ((Sl.below HD.out H2.out).more H2.out.size)).mono ?_
  rintro e w3 ⟨rfl, hb3⟩
  have H3 := aside (H2.out.trans (hb3.mono H2.out.size))
  clear hb3
  go_wp2_with fail
  refine (error_any (dErr ds) (dErr ds) _ (HG.out.below hgl H3.out)).mono ?_
  rintro e w4 ⟨rfl, hb4⟩
  have H4 := aside (H3.out.trans (hb4.mono H3.out.size))
  have hq1 : (dErr ds == dErr ds) = true := by simp
  clear hb4
  go_wp2_with fail
  refine (netted_out ds A n c _ ((Sl.below HD.out H4.out).more H4.out.size)).mono ?_
  rintro e w5 ⟨⟨A5, c5, rfl, hp5⟩, hb5⟩
  have H5 := aside (H4.out.trans (hb5.mono H4.out.size))
  have HP5 := aside hp5
  clear hb5 hp5
  go_wp2_with fail
  refine (net_out ds A n c _ ((Sl.below HD.out H5.out).more H5.out.size) HI.out).mono ?_
  rintro e w6 ⟨⟨A6, c6, rfl, hp6⟩, hb6⟩
  have H6 := aside (H5.out.trans (hb6.mono H5.out.size))
  have HP6 := aside hp6
  have HP56 := aside ((Sl.below HP5.out hb6).more hb6.size)
  clear hb6 hp6
  go_wp2_with fail
  refine (error_any (nErr ds) (nErr ds) _ (HG.out.below hgl H6.out)).mono ?_
  rintro e w7 ⟨rfl, hb7⟩
  have H7 := aside (H6.out.trans (hb7.mono H6.out.size))
  have HP7 := aside ((Sl.below HP6.out hb7).more hb7.size)
  have HP57 := aside ((Sl.below HP56.out hb7).more hb7.size)
  have hq2 : (nErr ds == nErr ds) = true := by simp
  have ht := toldL_len ds
  clear hb7
  go_wp2_with fail
  refine (piles_same (toldL ds) A6 A5 (toldL ds).length c6 c5 _ HP7.out HP57.out (by omega)).mono ?_
  rintro e w8 ⟨rfl, q8, hw8⟩
  have H8 : Hid (Below w.heap.size w w8) := aside (by rw [hw8]; exact below_drawn H7.out q8)
  clear hw8
  go_wp2_with fail
  refine (pilesFault_any ps A2 n2 c2 _ ((Sl.below HP.out H8.out).more H8.out.size)).mono ?_
  rintro e w9 ⟨rfl, hb9⟩
  have H9 := aside (H8.out.trans (hb9.mono H8.out.size))
  have hq3 : (rErr ps == rErr ps) = true := by simp
  clear hb9
  by_cases he : rErr ps = 0
  · have he' : (rErr ps == 0) = true := by simpa using he
    have HE := aside he
    clear he
    go_wp2_with fail
    refine (settled_out ps A2 n2 c2 _ ((Sl.below HP.out H9.out).more H9.out.size) HE.out).mono ?_
    rintro e wa ⟨⟨Aa, ca, out, rfl, hda, hta⟩, hba⟩
    have HTa := aside hta
    have HDa := aside hda
    have Ha := aside (H9.out.trans (hba.mono H9.out.size))
    clear hta hda hba
    go_wp2_with fail
    refine (settle_out ps A2 n2 c2 _ ((Sl.below HP.out Ha.out).more Ha.out.size)).mono ?_
    rintro e wb ⟨⟨Ab, cb, outb, rfl, hdb, htb, hl60⟩, hbb⟩
    obtain rfl := HTa.out.uniq htb
    have HDb := aside hdb
    have HDab := aside ((Sl.below HDa.out hbb).more hbb.size)
    have Hb := aside (Ha.out.trans (hbb.mono Ha.out.size))
    clear htb hdb hbb HTa
    go_wp2_with fail
    refine (error_any (rErr ps) (rErr ps) _ (HG.out.below hgl Hb.out)).mono ?_
    rintro e wc ⟨rfl, hbc⟩
    have Hc := aside (Hb.out.trans (hbc.mono Hb.out.size))
    have hdx := (Sl.below HDb.out hbc).more hbc.size
    have hdy := (Sl.below HDab.out hbc).more hbc.size
    have hnn : ((out.length : Int) != (out.length : Int)) = false := by simp
    clear hbc HDa
    generalize hm : out.length = m at hdx hdy hnn hl60
    go_wp2_with fail
    go_loopw [14] (fun v14 wr => ∃ (k q : Nat), k ≤ m ∧ v14 = .int .i64 k ∧ wr = wc.drewN q) (fun v14 _ => m - (Go.RowKit.intOf v14).toNat)
    case atStart => exact ⟨0, 0, Nat.zero_le _, rfl, rfl⟩
    case round =>
      obtain ⟨k, q, hk, rfl, rfl⟩ := hrel
      by_cases hlt : k < m
      · obtain ⟨b, o, rfl, hb, hc0, hc1, hc2⟩ := DSl.at3 hdx hlt
        obtain ⟨b', o', rfl, hb', hd0, hd1, hd2⟩ := DSl.at3 hdy hlt
        have hi1 : (k : Int) < (m : Int) := by omega
        have hi2 : (0 : Int) ≤ (k : Int) := by omega
        generalize out.getD k (0, 0, 0) = p at hc0 hc1 hc2 hd0 hd1 hd2
        obtain ⟨f, t, a⟩ := p
        simp only [] at hc0 hc1 hc2 hd0 hd1 hd2
        go_wp2_with fail
        go_quiet (fail)
        go_wp2
        exact ⟨⟨k + 1, _, by omega, by go_num, rfl⟩, by simp [Go.RowKit.intOf]; omega⟩
      · obtain rfl : k = m := by omega
        go_wp2
        go_ret
        exact ⟨rfl, below_drawn Hc.out q⟩
  · have he' : (rErr ps == 0) = false := by simpa using he
    have HE := aside he
    clear he
    go_wp2_with fail
    refine (settle_out ps A2 n2 c2 _ ((Sl.below HP.out H9.out).more H9.out.size)).mono ?_
    rintro e wb ⟨⟨Ab, cb, outb, rfl, hdb, htb, hl60⟩, hbb⟩
    obtain rfl : outb = [] := htb.uniq (.inr ⟨HE.out, rfl⟩)
    have Hb := aside (H9.out.trans (hbb.mono H9.out.size))
    clear htb hdb hbb hl60
    go_wp2_with fail
    refine (error_any (rErr ps) (rErr ps) _ (HG.out.below hgl Hb.out)).mono ?_
    rintro e wc ⟨rfl, hbc⟩
    have Hc := aside (Hb.out.trans (hbc.mono Hb.out.size))
    clear hbc
    go_wp2_with fail
    go_loopw [14] (fun v14 wr => v14 = .int .i64 0 ∧ Below w.heap.size w wr) (fun _ _ => 0)
    case atStart => exact ⟨rfl, Hc.out⟩
    case round =>
      obtain ⟨rfl, hb⟩ := hrel
      go_wp2
      go_ret
      exact ⟨rfl, hb⟩
end Go.Proofs.YtippdfmmlhpkfaaDoor
