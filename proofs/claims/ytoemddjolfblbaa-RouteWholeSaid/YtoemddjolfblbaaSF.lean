/- The plain law of RouteBack: what was cut is a table, and joined as it was. -/
import Derived.Test.YtoemddjolfblbaaSD
import Derived.Test.YtoemddjolfblbaaE
/- The plain law of RouteBack. -/
set_option linter.unusedVariables false
set_option linter.unusedSimpArgs false
namespace Go.Proofs.Ytoemddjolfblbaa
open Go.RowKit Go.Proofs.YtoemddjolfblbaaW.PrintWords

theorem pat_append_left {a b : List Part} {k : Nat} (h : k < a.length) : pat (a ++ b) k = pat a k := by
  unfold pat
  rw [List.getD_eq_getElem?_getD, List.getD_eq_getElem?_getD, List.getElem?_append_left h]
theorem pat_append_right {a b : List Part} {k : Nat} (h : a.length ≤ k) : pat (a ++ b) k = pat b (k - a.length) := by
  unfold pat
  rw [List.getD_eq_getElem?_getD, List.getD_eq_getElem?_getD, List.getElem?_append_right h]
section
variable {l : List Part} {i : Nat} (at_ : ByteArray) (g : Int)
theorem cut_lo (hi : i < l.length) {k : Nat} (h : k < i) : pat (cutL l i at_ g) k = pat l k := by
  unfold cutL
  rw [List.append_assoc, pat_append_left (by rw [List.length_take]; omega), take_pat h]
theorem cut_at (hi : i < l.length) : pat (cutL l i at_ g) i = ⟨(pat l i).from_, at_, (pat l i).group⟩ := by
  unfold cutL
  rw [List.append_assoc, pat_append_right (by rw [List.length_take]; omega), List.length_take, Nat.min_eq_left (by omega), Nat.sub_self]
  rfl
theorem cut_new (hi : i < l.length) : pat (cutL l i at_ g) (i + 1) = ⟨at_, (pat l i).to_, g⟩ := by
  unfold cutL
  rw [List.append_assoc, pat_append_right (by rw [List.length_take]; omega), List.length_take, Nat.min_eq_left (by omega), Nat.add_sub_cancel_left]
  rfl
theorem cut_hi (hi : i < l.length) {k : Nat} (h : i < k) : pat (cutL l i at_ g) (k + 1) = pat l k := by
  unfold cutL
  rw [pat_append_right (by rw [List.length_append, List.length_take]; simp; omega), pat_drop, List.length_append, List.length_take, Nat.min_eq_left (by omega)]
  congr 1
  simp
  omega
end
theorem cut_right {l : List Part} (h : RightL l) {at_ : ByteArray} {g : Int} {i : Nat} (hi : At l at_ i) (hne : (pat l i).from_ ≠ at_) (hs : at_.size ≤ 32) (hg : g ≠ 0) (hl : l.length < 64) : RightL (cutL l i at_ g) := by
  have hil := hi.lt
  have hlen := cut_length hil at_ g
  have lt1 : ltB (pat l i).from_ at_ := by
    rcases ltB_tri (pat l i).from_ at_ with h1 | h1 | h1
    · exact h1
    · exact absurd h1 hne
    · exact absurd h1 hi.from_
  refine ⟨by omega, by omega, ?_, ?_, ?_, ?_, ?_, ?_⟩
  · rcases Nat.eq_zero_or_pos i with h0 | h0
    · have := cut_at at_ g hil
      rw [h0] at this ⊢
      rw [this]
      exact h.head
    · rw [cut_lo at_ g hil h0]; exact h.head
  · have hx : (pat (cutL l i at_ g) l.length).to_ = ⟨#[]⟩ := by
      rcases Nat.lt_or_ge (i + 1) l.length with h0 | h0
      · have := cut_hi at_ g hil (k := l.length - 1) (by omega)
        rw [show l.length - 1 + 1 = l.length by omega] at this
        rw [this]
        exact h.last
      · have e : l.length = i + 1 := by omega
        rw [e, cut_new at_ g hil]
        have := h.last
        rw [e, Nat.add_sub_cancel] at this
        exact this
    rw [hlen, Nat.add_sub_cancel]
    exact hx
  · intro k hk
    rcases Nat.lt_trichotomy k i with h1 | h1 | h1
    · rw [cut_lo at_ g hil h1]; exact h.group k (by omega)
    · subst h1; rw [cut_at at_ g hil]; exact h.group k hil
    · obtain ⟨m, rfl⟩ : ∃ m, k = m + 1 := ⟨k - 1, by omega⟩
      rcases Nat.eq_or_lt_of_le (show i ≤ m by omega) with h2 | h2
      · subst h2; rw [cut_new at_ g hil]; exact hg
      · rw [cut_hi at_ g hil h2]; exact h.group m (by omega)
  · intro k hk
    rcases Nat.lt_trichotomy k i with h1 | h1 | h1
    · rw [cut_lo at_ g hil h1]; exact h.size k (by omega)
    · subst h1; rw [cut_at at_ g hil]; exact h.size k hil
    · obtain ⟨m, rfl⟩ : ∃ m, k = m + 1 := ⟨k - 1, by omega⟩
      rcases Nat.eq_or_lt_of_le (show i ≤ m by omega) with h2 | h2
      · subst h2; rw [cut_new at_ g hil]; exact hs
      · rw [cut_hi at_ g hil h2]; exact h.size m (by omega)
  · intro k hk
    rcases Nat.lt_trichotomy k i with h1 | h1 | h1
    · rw [cut_lo at_ g hil h1]
      rcases Nat.eq_or_lt_of_le (show k + 1 ≤ i by omega) with h2 | h2
      · rw [h2, cut_at at_ g hil, ← h2]; exact h.joint k (by omega)
      · rw [cut_lo at_ g hil h2]; exact h.joint k (by omega)
    · subst h1; rw [cut_at at_ g hil, cut_new at_ g hil]
    · obtain ⟨m, rfl⟩ : ∃ m, k = m + 1 := ⟨k - 1, by omega⟩
      rw [cut_hi at_ g hil (k := m + 1) (by omega)]
      rcases Nat.eq_or_lt_of_le (show i ≤ m by omega) with h2 | h2
      · subst h2; rw [cut_new at_ g hil]; exact h.joint i (by omega)
      · rw [cut_hi at_ g hil h2]; exact h.joint m (by omega)
  · intro k hk
    rcases Nat.lt_trichotomy k i with h1 | h1 | h1
    · rw [cut_lo at_ g hil h1]
      rcases Nat.eq_or_lt_of_le (show k + 1 ≤ i by omega) with h2 | h2
      · rw [h2, cut_at at_ g hil, ← h2]; exact h.rise k (by omega)
      · rw [cut_lo at_ g hil h2]; exact h.rise k (by omega)
    · subst h1; rw [cut_at at_ g hil, cut_new at_ g hil]; exact lt1
    · obtain ⟨m, rfl⟩ : ∃ m, k = m + 1 := ⟨k - 1, by omega⟩
      rw [cut_hi at_ g hil (k := m + 1) (by omega)]
      rcases Nat.eq_or_lt_of_le (show i ≤ m by omega) with h2 | h2
      · subst h2; rw [cut_new at_ g hil]; exact hi.next (i + 1) (by omega) (by omega)
      · rw [cut_hi at_ g hil h2]; exact h.rise m (by omega)
theorem is_at {l : List Part} (h : RightL l) {at_ : ByteArray} {i : Nat} (hi : i < l.length) (e : (pat l i).from_ = at_) : At l at_ i ∧ isL l at_ = true ∧ plI l at_ = (i : Int) := by
  have ha : At l at_ i := ⟨hi, by rw [e]; exact ltB_irrefl _, fun m h1 h2 => by rw [← e]; exact h.lt h1 h2⟩
  obtain ⟨j, hp, hj, his⟩ := place_at h at_
  obtain rfl := hj.unique h ha
  exact ⟨ha, his.2 e, hp⟩
theorem cut_join {l : List Part} (h : RightL l) {at_ : ByteArray} {g : Int} {i : Nat} (hi : At l at_ i) (hne : (pat l i).from_ ≠ at_) (hs : at_.size ≤ 32) (hg : g ≠ 0) (hl : l.length < 64) :
    joinK (cutL l i at_ g) at_ = 0 ∧ joinR (cutL l i at_ g) at_ = l := by
  have hil := hi.lt
  have hR := cut_right h hi hne hs hg hl
  have hlen := cut_length hil at_ g
  obtain ⟨_, h2, h3⟩ := is_at hR (i := i + 1) (by omega) (by rw [cut_new at_ g hil])
  have h4 : (plI (cutL l i at_ g) at_).toNat = i + 1 := by rw [h3]; rfl
  have hk : joinK (cutL l i at_ g) at_ = 0 := by
    unfold joinK
    rw [(rightB_iff _).2 hR, if_pos rfl, h2, h4]
    simp
  refine ⟨hk, ?_⟩
  unfold joinR
  rw [if_pos hk, h4, ← JL_full (by omega)]
  unfold JL wider
  rw [Nat.add_sub_cancel, cut_at at_ g hil, cut_new at_ g hil]
  have e1 : (cutL l i at_ g).take i = l.take i := by
    unfold cutL
    rw [List.append_assoc, List.take_left' (by rw [List.length_take]; omega)]
  have e2 : (cutL l i at_ g).drop (i + 1 + 1) = l.drop (i + 1) := by
    unfold cutL
    rw [List.drop_left' (by rw [List.length_append, List.length_take]; simp; omega)]
  have hx : pat l i = l[i] := by simp [pat, List.getD_eq_getElem?_getD, List.getElem?_eq_getElem hil]
  have e3 : (⟨(pat l i).from_, (pat l i).to_, (pat l i).group⟩ : Part) = l[i] := hx
  have e4 : (l.drop (i + 1)).take ((cutL l i at_ g).length - (i + 1 + 1)) = l.drop (i + 1) := List.take_of_length_le (by rw [List.length_drop, hlen]; omega)
  simp only
  rw [e1, e2, e4, e3, ← List.drop_eq_getElem_cons hil, List.take_append_drop]
theorem find_pat {l : List Part} (h : RightL l) {row : ByteArray} {r : Nat} (hr : At l row r) : findL l row = pat l r := by
  obtain ⟨j, hp, hj, _⟩ := place_at h row
  obtain rfl := hj.unique h hr
  unfold findL getL
  rw [(rightB_iff l).2 h, if_pos rfl, hp]
  rfl
theorem partEq_iff {p q : Part} : partEq p q = true ↔ p = q := by
  unfold partEq
  simp only [Bool.and_eq_true]
  constructor
  · rintro ⟨h1, h2, h3⟩
    have h1 := (eqB_iff _ _).1 h1
    have h2 := (eqB_iff _ _).1 h2
    have h3 := eq_of_beq h3
    cases p; cases q
    simp only at h1 h2 h3
    rw [h1, h2, h3]
  · rintro rfl
    simp
theorem back_law {l : List Part} (h : RightL l) {at_ row : ByteArray} {g : Int} {i : Nat} (hi : At l at_ i) (hne : (pat l i).from_ ≠ at_) (hs : at_.size ≤ 32) (hg : g ≠ 0) (hl : l.length < 64) :
    (belowB row at_ = false ∧ partEq (findL l row) (findL l at_) = true ∧ (findL (cutL l i at_ g) row).group = g) ∨
    (belowB row at_ = true ∧ (findL (cutL l i at_ g) row).group = (findL l row).group) ∨
    (belowB row at_ = false ∧ partEq (findL l row) (findL l at_) = false ∧ (findL (cutL l i at_ g) row).group = (findL l row).group) := by
  have hil := hi.lt
  have hR := cut_right h hi hne hs hg hl
  have hlen := cut_length hil at_ g
  obtain ⟨r, _, hr, _⟩ := place_at h row
  have hrl := hr.lt
  rw [find_pat h hr, find_pat h hi]
  have hns : ∀ k, At (cutL l i at_ g) row k → findL (cutL l i at_ g) row = pat (cutL l i at_ g) k := fun k hk => find_pat hR hk
  have hlo : ltB (pat l i).from_ at_ := by
    rcases ltB_tri (pat l i).from_ at_ with h1 | h1 | h1
    · exact h1
    · exact absurd h1 hne
    · exact absurd h1 hi.from_
  have hnext : ∀ k, i < k → k < l.length → ltB at_ (pat l k).from_ := hi.next
  rcases Nat.lt_trichotomy r i with h1 | h1 | h1
  · -- ahead of the cut
    have hrow : ltB row at_ := lt_of_lt_le (hr.next i h1 hil) hi.from_
    refine .inr (.inl ⟨(belowB_iff _ _).2 hrow, ?_⟩)
    rw [hns r ⟨by omega, by rw [cut_lo at_ g hil h1]; exact hr.from_, ?_⟩, cut_lo at_ g hil h1]
    intro k hk hk2
    have hx := hR.le (i := r + 1) (j := k) (by omega) hk2
    refine lt_of_lt_le ?_ hx
    rcases Nat.eq_or_lt_of_le (show r + 1 ≤ i by omega) with h2 | h2
    · rw [h2, cut_at at_ g hil]
      exact hr.next i h1 hil
    · rw [cut_lo at_ g hil h2]
      exact hr.next (r + 1) (by omega) (by omega)
  · subst h1
    rcases Bool.eq_false_or_eq_true (belowB row at_) with hb | hb
    · refine .inr (.inl ⟨hb, ?_⟩)
      have hrow := (belowB_iff _ _).1 hb
      rw [hns r ⟨by omega, by rw [cut_at at_ g hil]; exact hr.from_, ?_⟩, cut_at at_ g hil]
      intro k hk hk2
      refine lt_of_lt_le ?_ (hR.le (i := r + 1) (j := k) (by omega) hk2)
      rw [cut_new at_ g hil]
      exact hrow
    · refine .inl ⟨hb, partEq_iff.2 rfl, ?_⟩
      have hrow := (belowB_false _ _).1 hb
      rw [hns (r + 1) ⟨by omega, by rw [cut_new at_ g hil]; exact hrow, ?_⟩, cut_new at_ g hil]
      intro k hk hk2
      obtain ⟨m, rfl⟩ : ∃ m, k = m + 1 := ⟨k - 1, by omega⟩
      rw [cut_hi at_ g hil (by omega)]
      exact hr.next m (by omega) (by omega)
  · have hrow : ¬ ltB row at_ := fun hx => hr.from_ (lt_of_lt_le hx (by
      intro hy
      exact ltB_asymm hy (hnext r h1 hrl)))
    refine .inr (.inr ⟨(belowB_false _ _).2 hrow, ?_, ?_⟩)
    · rw [← Bool.not_eq_true, partEq_iff]
      intro e
      have := h.lt h1 hrl
      rw [e] at this
      exact ltB_irrefl _ this
    · rw [hns (r + 1) ⟨by omega, by rw [cut_hi at_ g hil h1]; exact hr.from_, ?_⟩, cut_hi at_ g hil h1]
      intro k hk hk2
      obtain ⟨m, rfl⟩ : ∃ m, k = m + 1 := ⟨k - 1, by omega⟩
      rw [cut_hi at_ g hil (by omega)]
      exact hr.next m (by omega) (by omega)
end Go.Proofs.Ytoemddjolfblbaa
