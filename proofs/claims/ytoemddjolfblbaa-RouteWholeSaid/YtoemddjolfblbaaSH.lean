/- The plain law of RouteOnce: how many of the parts that cover some rows hold a row, and whose they are. -/
import Derived.Test.YtoemddjolfblbaaSF
import Derived.Test.YtoemddjolfblbaaSA
import Derived.Test.YtoemddjolfblbaaV
/- The plain law of RouteOnce. -/
set_option linter.unusedVariables false
set_option linter.unusedSimpArgs false
namespace Go.Proofs.Ytoemddjolfblbaa
open Go.RowKit Go.Proofs.YtoemddjolfblbaaW.PrintWords

def cntP : List Part → ByteArray → Nat
  | [], _ => 0
  | p :: r, row => (if hasP p row then 1 else 0) + cntP r row
theorem cntP_append (a b : List Part) (row : ByteArray) : cntP (a ++ b) row = cntP a row + cntP b row := by
  induction a with
  | nil => simp [cntP]
  | cons x a ih => simp only [List.cons_append, cntP, ih]; omega
theorem cntP_take {l : List Part} {i : Nat} (hi : i < l.length) (row : ByteArray) : cntP (l.take (i + 1)) row = cntP (l.take i) row + (if hasP (pat l i) row then 1 else 0) := by
  rw [← pat_take hi, cntP_append]
  simp [cntP]
theorem cntP_le (l : List Part) (row : ByteArray) : cntP l row ≤ l.length := by
  induction l with
  | nil => simp [cntP]
  | cons x a ih => simp only [cntP, List.length_cons]; split <;> omega
theorem hasP_iff (p : Part) (row : ByteArray) : hasP p row = true ↔ (¬ ltB row p.from_ ∧ (p.to_ = ⟨#[]⟩ ∨ ltB row p.to_)) := by
  unfold hasP hasB
  simp only [Bool.and_eq_true, Bool.not_eq_true', belowB_false, Bool.or_eq_true, emptyB, belowB_iff]
theorem hasB_iff (f t row : ByteArray) : hasB f t row = true ↔ (¬ ltB row f ∧ (t = ⟨#[]⟩ ∨ ltB row t)) := by
  unfold hasB
  simp only [Bool.and_eq_true, Bool.not_eq_true', belowB_false, Bool.or_eq_true, emptyB, belowB_iff]
theorem lt_mxB (a b c : ByteArray) : ¬ ltB c (mxB a b) ↔ (¬ ltB c a ∧ ¬ ltB c b) := by
  unfold mxB
  rcases Bool.eq_false_or_eq_true (belowB a b) with h | h
  · rw [h, if_pos rfl]
    have h1 := (belowB_iff _ _).1 h
    exact ⟨fun h2 => ⟨fun h3 => h2 (ltB_trans h3 h1), h2⟩, fun h2 => h2.2⟩
  · rw [h, if_neg (by simp)]
    have h1 := (belowB_false _ _).1 h
    exact ⟨fun h2 => ⟨h2, fun h3 => h2 (lt_of_lt_le h3 h1)⟩, fun h2 => h2.1⟩
theorem end_iff (e t row : ByteArray) : (endB e t = ⟨#[]⟩ ∨ ltB row (endB e t)) ↔ ((e = ⟨#[]⟩ ∨ ltB row e) ∧ (t = ⟨#[]⟩ ∨ ltB row t)) := by
  rcases endB_cases e t with ⟨h1, h2, h3⟩ | ⟨h1, h2⟩
  · rw [h1]
    constructor
    · rintro (h | h)
      · exact absurd h h2
      · refine ⟨?_, .inr h⟩
        rcases h3 with h3 | h3
        · exact .inl h3
        · exact .inr (ltB_trans h h3)
    · exact fun h => h.2
  · rw [h1]
    constructor
    · intro h
      refine ⟨h, ?_⟩
      rcases h2 with h2 | ⟨h2, h3⟩
      · exact .inl h2
      · rcases h with h | h
        · exact absurd h h2
        · exact .inr (lt_of_lt_le h h3)
    · exact fun h => h.1
theorem has_cut (p : Part) (f t row : ByteArray) : hasP (cutP p f t) row = (hasP p row && hasB f t row) := by
  rw [Bool.eq_iff_iff, Bool.and_eq_true, hasP_iff, hasP_iff, hasB_iff]
  unfold cutP
  simp only
  rw [lt_mxB, end_iff]
  constructor
  · rintro ⟨⟨h1, h2⟩, h3, h4⟩; exact ⟨⟨h1, h3⟩, h2, h4⟩
  · rintro ⟨⟨h1, h3⟩, h2, h4⟩; exact ⟨⟨h1, h2⟩, h3, h4⟩
theorem keep_has {p : Part} {f t row : ByteArray} (h : hasP (cutP p f t) row = true) : keepB p f t = true := by
  rw [keepB_iff]
  rw [hasP_iff] at h
  unfold cutP at h
  simp only at h
  obtain ⟨h1, h2⟩ := h
  rcases h2 with h2 | h2
  · exact .inl h2
  · rw [lt_mxB] at h1
    exact .inr ⟨lt_of_le_lt h1.1 h2, lt_of_le_lt h1.2 h2⟩
theorem cnt_refG (f t row : ByteArray) : ∀ l : List Part, cntP (refG l f t) row = if hasB f t row then cntP l row else 0 := by
  intro l
  induction l with
  | nil => simp [refG, cntP]
  | cons p r ih =>
    unfold refG
    rcases Bool.eq_false_or_eq_true (keepB p f t) with h | h
    · rw [h, if_pos rfl]
      simp only [cntP, ih, has_cut]
      rcases Bool.eq_false_or_eq_true (hasB f t row) with h2 | h2 <;> simp [h2]
    · rw [h, if_neg (by simp), ih]
      have h3 : hasP (cutP p f t) row = false := by
        rcases Bool.eq_false_or_eq_true (hasP (cutP p f t) row) with h3 | h3
        · rw [keep_has h3] at h; cases h
        · exact h3
      rw [has_cut] at h3
      rcases Bool.eq_false_or_eq_true (hasB f t row) with h2 | h2
      · rw [h2, Bool.and_true] at h3
        simp [h2, cntP, h3]
      · simp [h2]
theorem grp_refG (f t row : ByteArray) : ∀ l : List Part, ∀ x ∈ refG l f t, hasP x row = true → ∃ p ∈ l, hasP p row = true ∧ x.group = p.group := by
  intro l
  induction l with
  | nil => intro x hx; simp [refG] at hx
  | cons p r ih =>
    intro x hx hh
    unfold refG at hx
    split at hx
    · rcases List.mem_cons.1 hx with hx | hx
      · subst hx
        rw [has_cut, Bool.and_eq_true] at hh
        exact ⟨p, List.mem_cons_self, hh.1, rfl⟩
      · obtain ⟨q, hq, h1, h2⟩ := ih x hx hh
        exact ⟨q, List.mem_cons_of_mem _ hq, h1, h2⟩
    · obtain ⟨q, hq, h1, h2⟩ := ih x hx hh
      exact ⟨q, List.mem_cons_of_mem _ hq, h1, h2⟩
theorem cnt_one {l : List Part} (h : RightL l) (row : ByteArray) : cntP l row = 1 := by
  obtain ⟨r, _, hr, _⟩ := place_at h row
  have key : ∀ k, k ≤ l.length → cntP (l.take k) row = if r < k then 1 else 0 := by
    intro k
    induction k with
    | zero => intro _; simp [cntP]
    | succ k ih =>
      intro hk
      rw [cntP_take (by omega), ih (by omega), hasP_at h hr (by omega)]
      rcases Nat.lt_trichotomy r k with h1 | h1 | h1
      · rw [if_pos h1, if_neg (by simp; omega), if_pos (by omega)]
      · subst h1; simp
      · rw [if_neg (by omega), if_neg (by simp; omega), if_neg (by omega)]
  have := key l.length (Nat.le_refl _)
  rw [List.take_length, if_pos hr.lt] at this
  exact this
theorem pat_mem {l : List Part} {k : Nat} (hk : k < l.length) : pat l k ∈ l := by
  have e : pat l k = l[k] := by simp [pat, List.getD_eq_getElem?_getD, List.getElem?_eq_getElem hk]
  rw [e]
  exact List.getElem_mem hk
theorem mem_pat {l : List Part} {p : Part} (h : p ∈ l) : ∃ k, k < l.length ∧ p = pat l k := by
  obtain ⟨k, hk, rfl⟩ := List.mem_iff_getElem.1 h
  exact ⟨k, hk, by simp [pat, List.getD_eq_getElem?_getD, List.getElem?_eq_getElem hk]⟩
/-- All that the law asks of what covers some rows. -/
theorem once_law {l : List Part} (h : RightL l) {f t row : ByteArray} (hk : coverK l f t = 0) :
    cntP (coverR l f t) row = (if hasB f t row then 1 else 0) ∧ ∀ k, k < (coverR l f t).length → hasP (pat (coverR l f t) k) row = true → (pat (coverR l f t) k).group = (findL l row).group := by
  have e : coverR l f t = refG l f t := by rw [cover_eq]; unfold refCoverR; rw [if_pos hk]
  rw [e]
  refine ⟨by rw [cnt_refG, cnt_one h], fun k hk2 hh => ?_⟩
  obtain ⟨p, hp, h1, h2⟩ := grp_refG f t row l _ (pat_mem hk2) hh
  obtain ⟨m, hm, rfl⟩ := mem_pat hp
  rw [h2, find_pat h ((has_iff h row hm).1 h1)]
theorem find_from {l : List Part} (h : RightL l) (row : ByteArray) : belowB row (findL l row).from_ = false := by
  obtain ⟨r, _, hr, _⟩ := place_at h row
  rw [find_pat h hr, belowB_false]
  exact hr.from_
end Go.Proofs.Ytoemddjolfblbaa
