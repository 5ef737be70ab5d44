/- Plain facts on ranks, no program in sight: the number at a place of the rising order, by how many are less and how many are no more. No condition. -/
import Derived.Test.YtelmllngcbihjaaDoorMem
namespace Go.Proofs.YtelmllngcbihjaaDoor

def less (ns : List Int) (r : Int) : Nat := ns.countP (fun x => decide (x < r))
def upTo (ns : List Int) (r : Int) : Nat := ns.countP (fun x => decide (x ≤ r))
/-- r is the number at place k of ns, rising. -/
def IsRank (ns : List Int) (k : Nat) (r : Int) : Prop := less ns r ≤ k ∧ k < upTo ns r ∧ r ∈ ns

theorem less_mono (ns : List Int) {a b : Int} (h : a ≤ b) : less ns a ≤ less ns b := List.countP_mono_left (fun x _ hx => by simp at *; omega)
theorem upTo_less (ns : List Int) {a b : Int} (h : a < b) : upTo ns a ≤ less ns b := List.countP_mono_left (fun x _ hx => by simp at *; omega)
theorem less_upTo (ns : List Int) (a : Int) : less ns a ≤ upTo ns a := List.countP_mono_left (fun x _ hx => by simp at *; omega)
theorem IsRank.mono {ns : List Int} {j k : Nat} {r q : Int} (h : IsRank ns j r) (h' : IsRank ns k q) (hjk : j ≤ k) : r ≤ q := by
  by_cases hlt : q < r
  · have := upTo_less ns hlt
    have := h.1
    have := h'.2.1
    omega
  · omega
theorem IsRank.uniq {ns : List Int} {k : Nat} {r q : Int} (h : IsRank ns k r) (h' : IsRank ns k q) : r = q :=
  Int.le_antisymm (h.mono h' (Nat.le_refl _)) (h'.mono h (Nat.le_refl _))
theorem IsRank.lt {ns : List Int} {k : Nat} {r : Int} (h : IsRank ns k r) : k < ns.length := Nat.lt_of_lt_of_le h.2.1 (List.countP_le_length)

def lows (ns : List Int) (b : Int) : List Int := ns.filter (fun x => decide (x < b))
def sames (ns : List Int) (b : Int) : List Int := ns.filter (fun x => x == b)
def highs (ns : List Int) (b : Int) : List Int := ns.filter (fun x => decide (b < x))

theorem parts_len (ns : List Int) (b : Int) : (lows ns b).length + (sames ns b).length + (highs ns b).length = ns.length := by
  induction ns with
  | nil => rfl
  | cons x l ih =>
    unfold lows sames highs at *
    rcases Int.lt_trichotomy x b with h | h | h
    · have h1 : (x == b) = false := by simp; omega
      have h2 : ¬ b < x := by omega
      simp [h, h1, h2]; omega
    · subst h; simp; omega
    · have h1 : (x == b) = false := by simp; omega
      have h2 : ¬ x < b := by omega
      simp [h, h1, h2]; omega
theorem sames_pos {ns : List Int} {b : Int} (h : b ∈ ns) : 0 < (sames ns b).length := List.length_pos_of_mem (List.mem_filter.2 ⟨h, by simp⟩)
theorem sames_all {ns : List Int} {b x : Int} (h : x ∈ sames ns b) : x = b := by simpa using (List.mem_filter.1 h).2

theorem less_lows (ns : List Int) (b r : Int) (h : r ≤ b) : less (lows ns b) r = less ns r := by
  unfold less lows
  rw [List.countP_filter]
  exact List.countP_congr (fun x _ => by simp; omega)
theorem upTo_lows (ns : List Int) (b r : Int) (h : r < b) : upTo (lows ns b) r = upTo ns r := by
  unfold upTo lows
  rw [List.countP_filter]
  exact List.countP_congr (fun x _ => by simp; omega)
theorem lows_len (ns : List Int) (b : Int) : (lows ns b).length = less ns b := by unfold less lows; rw [List.countP_eq_length_filter]
theorem upTo_len (ns : List Int) (b : Int) : upTo ns b = (lows ns b).length + (sames ns b).length := by
  unfold upTo lows sames
  induction ns with
  | nil => rfl
  | cons x l ih =>
    rcases Int.lt_trichotomy x b with h | h | h
    · have h1 : (x == b) = false := by simp; omega
      have h2 : x ≤ b := by omega
      simp [h, h1, h2, ih]; omega
    · subst h; simp [ih]; omega
    · have h1 : (x == b) = false := by simp; omega
      have h2 : ¬ x < b := by omega
      have h3 : ¬ x ≤ b := by omega
      simp [h1, h2, h3, ih]
theorem less_highs (ns : List Int) (b r : Int) (h : b < r) : less ns r = upTo ns b + less (highs ns b) r := by
  unfold less upTo highs
  induction ns with
  | nil => rfl
  | cons x l ih =>
    by_cases h1 : x ≤ b
    · have h2 : x < r := by omega
      have h3 : ¬ b < x := by omega
      simp [h1, h2, h3, ih]; omega
    · have h3 : b < x := by omega
      by_cases h2 : x < r
      · simp [h1, h2, h3, ih]; omega
      · simp [h1, h2, h3, ih]
theorem upTo_highs (ns : List Int) (b r : Int) (h : b < r) : upTo ns r = upTo ns b + upTo (highs ns b) r := by
  unfold upTo highs
  induction ns with
  | nil => rfl
  | cons x l ih =>
    by_cases h1 : x ≤ b
    · have h2 : x ≤ r := by omega
      have h3 : ¬ b < x := by omega
      simp [h1, h2, h3, ih]; omega
    · have h3 : b < x := by omega
      by_cases h2 : x ≤ r
      · simp [h1, h2, h3, ih]; omega
      · simp [h1, h2, h3, ih]

theorem rank_low {ns : List Int} {b r : Int} {k : Nat} (h : IsRank (lows ns b) k r) : IsRank ns k r := by
  have hm := List.mem_filter.1 h.2.2
  have hrb : r < b := by simpa using hm.2
  exact ⟨by rw [← less_lows ns b r (by omega)]; exact h.1, by rw [← upTo_lows ns b r hrb]; exact h.2.1, hm.1⟩
theorem rank_same {ns : List Int} {b : Int} {k : Nat} (hb : b ∈ ns) (h1 : (lows ns b).length ≤ k) (h2 : k < (lows ns b).length + (sames ns b).length) : IsRank ns k b :=
  ⟨by rw [← lows_len]; exact h1, by rw [upTo_len]; exact h2, hb⟩
theorem rank_high {ns : List Int} {b r : Int} {k : Nat} (h : IsRank (highs ns b) k r) : IsRank ns (k + ((lows ns b).length + (sames ns b).length)) r := by
  have hm := List.mem_filter.1 h.2.2
  have hrb : b < r := by simpa using hm.2
  have e := upTo_len ns b
  refine ⟨?_, ?_, hm.1⟩
  · rw [less_highs ns b r hrb, e]; have := h.1; omega
  · rw [upTo_highs ns b r hrb, e]; have := h.2.1; omega

/-- There is one at each place. -/
theorem rank_exists (f : Nat) : ∀ (ns : List Int) (k : Nat), ns.length ≤ f → k < ns.length → ∃ r, IsRank ns k r := by
  induction f with
  | zero => intro ns k h1 h2; omega
  | succ f ih =>
    intro ns k h1 h2
    obtain ⟨b, hb⟩ : ∃ b, b ∈ ns := ⟨ns[0]'(by omega), List.getElem_mem _⟩
    have hp := parts_len ns b
    have hs := sames_pos hb
    by_cases hk : k < (lows ns b).length
    · obtain ⟨r, hr⟩ := ih (lows ns b) k (by omega) hk
      exact ⟨r, rank_low hr⟩
    · by_cases hk2 : k < (lows ns b).length + (sames ns b).length
      · exact ⟨b, rank_same hb (by omega) hk2⟩
      · obtain ⟨r, hr⟩ := ih (highs ns b) (k - ((lows ns b).length + (sames ns b).length)) (by omega) (by omega)
        have := rank_high hr
        rw [Nat.sub_add_cancel (by omega)] at this
        exact ⟨r, this⟩

theorem rank_perm {ns ms : List Int} {k : Nat} {r : Int} (h : IsRank ns k r) (hp : ns.Perm ms) : IsRank ms k r :=
  ⟨by unfold less; rw [← hp.countP_eq]; exact h.1, by unfold upTo; rw [← hp.countP_eq]; exact h.2.1, hp.mem_iff.1 h.2.2⟩
theorem rank_map {ns : List Int} {k : Nat} {r : Int} (d : Int) (h : IsRank ns k r) : IsRank (ns.map (· + d)) k (r + d) := by
  refine ⟨?_, ?_, List.mem_map.2 ⟨r, h.2.2, rfl⟩⟩
  · unfold less
    rw [List.countP_map]
    refine Nat.le_trans (Nat.le_of_eq ?_) h.1
    exact List.countP_congr (fun x _ => by simp)
  · unfold upTo
    rw [List.countP_map]
    refine Nat.lt_of_lt_of_le h.2.1 (Nat.le_of_eq ?_)
    exact List.countP_congr (fun x _ => by simp)
def cnt (l : List Int) (v : Int) : Nat := l.countP (fun x => x == v)
theorem cnt_le (l : List Int) (v : Int) : cnt l v ≤ l.length := List.countP_le_length
theorem cnt_snoc (l : List Int) (x v : Int) : cnt (l ++ [x]) v = if x = v then cnt l v + 1 else cnt l v := by
  unfold cnt; by_cases h : x = v <;> simp [List.countP_append, h]

theorem upTo_cnt (l : List Int) (v : Int) : upTo l v = less l v + cnt l v := by
  rw [upTo_len, lows_len]; unfold cnt sames; rw [List.countP_eq_length_filter]
theorem less_snoc (l : List Int) (x v : Int) : less (l ++ [x]) v = if x < v then less l v + 1 else less l v := by
  unfold less; by_cases h : x < v <;> simp [List.countP_append, h]
end Go.Proofs.YtelmllngcbihjaaDoor
