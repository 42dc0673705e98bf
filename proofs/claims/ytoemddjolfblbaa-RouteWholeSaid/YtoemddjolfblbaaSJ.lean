/- The plain law of RouteWhole: what covers two stretches, one behind the other, covers both together. -/
import Derived.Test.YtoemddjolfblbaaSH
/- The plain law of RouteWhole. -/
set_option linter.unusedVariables false
set_option linter.unusedSimpArgs false
set_option linter.unusedSectionVars false
namespace Go.Proofs.Ytoemddjolfblbaa
open Go.RowKit Go.Proofs.YtoemddjolfblbaaW.PrintWords

def no0 : ByteArray := ⟨#[]⟩
theorem refG_append (f t : ByteArray) (a b : List Part) : refG (a ++ b) f t = refG a f t ++ refG b f t := by
  induction a with
  | nil => rfl
  | cons x a ih =>
    simp only [List.cons_append, refG, ih]
    split <;> rfl
theorem refG_congr {f t f' t' : ByteArray} {l : List Part} (h : ∀ p ∈ l, keepB p f t = keepB p f' t' ∧ cutP p f t = cutP p f' t') : refG l f t = refG l f' t' := by
  induction l with
  | nil => rfl
  | cons x a ih =>
    unfold refG
    obtain ⟨h1, h2⟩ := h x List.mem_cons_self
    rw [ih (fun p hp => h p (List.mem_cons_of_mem _ hp)), h1, h2]
theorem refG_none {f t : ByteArray} {l : List Part} (h : ∀ p ∈ l, keepB p f t = false) : refG l f t = [] := by
  induction l with
  | nil => rfl
  | cons x a ih =>
    unfold refG
    rw [ih (fun p hp => h p (List.mem_cons_of_mem _ hp)), h x List.mem_cons_self]
    rfl
theorem refG_one (p : Part) (f t : ByteArray) : refG [p] f t = if keepB p f t then [cutP p f t] else [] := by
  unfold refG
  rfl
theorem mxB_left {a b : ByteArray} (h : ¬ ltB a b) : mxB a b = a := by unfold mxB; rw [(belowB_false _ _).2 h]; rfl
theorem mxB_right {a b : ByteArray} (h : ltB a b) : mxB a b = b := by unfold mxB; rw [(belowB_iff _ _).2 h]; rfl
theorem endB_none (e : ByteArray) : endB e ⟨#[]⟩ = e := by
  rcases endB_cases e ⟨#[]⟩ with ⟨_, h, _⟩ | ⟨h, _⟩
  · exact absurd rfl h
  · exact h
theorem keep_false {p : Part} {f t : ByteArray} (h1 : endB p.to_ t ≠ ⟨#[]⟩) (h2 : ¬ (ltB p.from_ (endB p.to_ t) ∧ ltB f (endB p.to_ t))) : keepB p f t = false := by
  rw [← Bool.not_eq_true, keepB_iff]
  rintro (h | h)
  · exact h1 h
  · exact h2 h
section
variable {F M T : ByteArray} (hFM : ltB F M) (hMT : T = ⟨#[]⟩ ∨ ltB M T)
include hFM hMT
theorem whole_before {p : Part} (h1 : p.to_ ≠ ⟨#[]⟩) (h2 : ¬ ltB M p.to_) : keepB p M T = false ∧ keepB p F M = keepB p F T ∧ cutP p F M = cutP p F T := by
  have e1 : endB p.to_ M = p.to_ := by
    rcases endB_cases p.to_ M with ⟨_, _, h⟩ | ⟨h, _⟩
    · rcases h with h | h
      · exact absurd h h1
      · exact absurd h h2
    · exact h
  have e2 : endB p.to_ T = p.to_ := by
    rcases endB_cases p.to_ T with ⟨_, h0, h⟩ | ⟨h, _⟩
    · rcases h with h | h
      · exact absurd h h1
      · rcases hMT with h3 | h3
        · exact absurd h3 h0
        · exact absurd (ltB_trans h3 h) h2
    · exact h
  refine ⟨keep_false (by rw [e2]; exact h1) (by rw [e2]; exact fun h => h2 h.2), ?_, ?_⟩
  · unfold keepB; rw [e1, e2]
  · unfold cutP; rw [e1, e2]
theorem whole_after {p : Part} (h1 : ¬ ltB p.from_ M) : keepB p F M = false ∧ keepB p F T = keepB p M T ∧ cutP p F T = cutP p M T := by
  have hM : M ≠ ⟨#[]⟩ := lt_ne_empty hFM
  have e1 : mxB p.from_ F = p.from_ := mxB_left (fun h => h1 (ltB_trans h hFM))
  have e2 : mxB p.from_ M = p.from_ := mxB_left h1
  refine ⟨?_, ?_, ?_⟩
  · rcases endB_cases p.to_ M with ⟨h, _, _⟩ | ⟨h, h2⟩
    · exact keep_false (by rw [h]; exact hM) (by rw [h]; exact fun h3 => h1 h3.1)
    · rcases h2 with h2 | ⟨h2, h3⟩
      · exact absurd h2 hM
      · exact keep_false (by rw [h]; exact h2) (by rw [h]; exact fun h4 => h1 (lt_of_lt_le h4.1 h3))
  · unfold keepB; rw [e1, e2]
  · unfold cutP; rw [e1, e2]
theorem whole_mid {p : Part} (h1 : ltB p.from_ M) (h2 : p.to_ = ⟨#[]⟩ ∨ ltB M p.to_) : keepB p F M = true ∧ keepB p M T = true ∧ keepB p F T = true ∧ cutP p F T = ⟨(cutP p F M).from_, (cutP p M T).to_, (cutP p F M).group⟩ ∧ (cutP p F M).group = (cutP p M T).group := by
  have hM : M ≠ ⟨#[]⟩ := lt_ne_empty hFM
  have e1 : endB p.to_ M = M := by
    rcases endB_cases p.to_ M with ⟨h, _, _⟩ | ⟨_, h⟩
    · exact h
    · rcases h with h | ⟨h3, h4⟩
      · exact absurd h hM
      · rcases h2 with h2 | h2
        · exact absurd h2 h3
        · exact absurd h2 h4
  have e2 : endB p.to_ T = ⟨#[]⟩ ∨ ltB M (endB p.to_ T) := by
    rcases endB_cases p.to_ T with ⟨h, h0, _⟩ | ⟨h, _⟩
    · rw [h]
      rcases hMT with h3 | h3
      · exact absurd h3 h0
      · exact .inr h3
    · rw [h]; exact h2
  refine ⟨?_, ?_, ?_, rfl, rfl⟩
  · rw [keepB_iff, e1]; exact .inr ⟨h1, hFM⟩
  · rw [keepB_iff]
    rcases e2 with e2 | e2
    · exact .inl e2
    · exact .inr ⟨ltB_trans h1 e2, e2⟩
  · rw [keepB_iff]
    rcases e2 with e2 | e2
    · exact .inl e2
    · exact .inr ⟨ltB_trans h1 e2, ltB_trans hFM e2⟩
/-- The two stretches and both together. -/
theorem whole_refG {l : List Part} (h : RightL l) :
    refG l F M ++ refG l M T = refG l F T ∨ ∃ a' x y b', refG l F M = a' ++ [x] ∧ refG l M T = y :: b' ∧ x.group = y.group ∧ refG l F T = a' ++ ⟨x.from_, y.to_, x.group⟩ :: b' := by
  obtain ⟨r, _, hr, _⟩ := place_at h M
  have hrl := hr.lt
  have hx : pat l r = l[r] := by simp [pat, List.getD_eq_getElem?_getD, List.getElem?_eq_getElem hrl]
  have hl : l = l.take r ++ [pat l r] ++ l.drop (r + 1) := by
    rw [hx, List.append_assoc, List.singleton_append, ← List.drop_eq_getElem_cons hrl, List.take_append_drop]
  have hb : ∀ p ∈ l.take r, keepB p M T = false ∧ keepB p F M = keepB p F T ∧ cutP p F M = cutP p F T := by
    intro p hp
    obtain ⟨k, hk, rfl⟩ := mem_pat hp
    rw [List.length_take] at hk
    rw [take_pat (by omega)]
    rcases h.end_ (k := k) (by omega) with ⟨h1, _⟩ | ⟨_, h2, h3⟩
    · omega
    · refine whole_before hFM hMT (lt_ne_empty h3) ?_
      rw [h2]
      intro h4
      exact hr.from_ (lt_of_lt_le h4 (h.le (by omega) hrl))
  have ha : ∀ p ∈ l.drop (r + 1), keepB p F M = false ∧ keepB p F T = keepB p M T ∧ cutP p F T = cutP p M T := by
    intro p hp
    obtain ⟨k, hk, rfl⟩ := mem_pat hp
    rw [List.length_drop] at hk
    rw [pat_drop]
    exact whole_after hFM hMT (ltB_asymm (hr.next _ (by omega) (by omega)))
  have eb1 : refG (l.take r) M T = [] := refG_none fun p hp => (hb p hp).1
  have eb2 : refG (l.take r) F M = refG (l.take r) F T := refG_congr fun p hp => (hb p hp).2
  have ea1 : refG (l.drop (r + 1)) F M = [] := refG_none fun p hp => (ha p hp).1
  have ea2 : refG (l.drop (r + 1)) F T = refG (l.drop (r + 1)) M T := refG_congr fun p hp => (ha p hp).2
  have split3 : ∀ f t, refG l f t = refG (l.take r) f t ++ refG [pat l r] f t ++ refG (l.drop (r + 1)) f t := fun f t => by
    rw [← refG_append, ← refG_append, ← hl]
  rw [split3 F M, split3 M T, split3 F T, eb1, ← eb2, ea1, ea2, refG_one, refG_one, refG_one]
  by_cases h0 : ltB (pat l r).from_ M
  · obtain ⟨k1, k2, k3, k4, k5⟩ := whole_mid hFM hMT h0 (by
      rcases h.end_ hrl with ⟨_, h2⟩ | ⟨h1, h2, _⟩
      · exact .inl h2
      · rw [h2]; exact .inr (hr.next _ (by omega) h1))
    rw [k1, k2, k3]
    refine .inr ⟨refG (l.take r) F M, _, _, refG (l.drop (r + 1)) M T, ?_, ?_, k5, ?_⟩
    · simp
    · simp
    · rw [← k4]; simp
  · obtain ⟨k1, k2, k3⟩ := whole_after hFM hMT h0
    rw [k1, k2, k3]
    refine .inl ?_
    simp
end
theorem refG_all {l : List Part} (h : RightL l) : refG l ⟨#[]⟩ ⟨#[]⟩ = l := by
  have key : ∀ p ∈ l, keepB p ⟨#[]⟩ ⟨#[]⟩ = true ∧ cutP p ⟨#[]⟩ ⟨#[]⟩ = p := by
    intro p hp
    obtain ⟨k, hk, rfl⟩ := mem_pat hp
    have e1 : mxB (pat l k).from_ ⟨#[]⟩ = (pat l k).from_ := mxB_left (not_lt_empty _)
    refine ⟨?_, ?_⟩
    · rw [keepB_iff, endB_none]
      rcases h.end_ hk with ⟨_, h2⟩ | ⟨_, _, h3⟩
      · exact .inl h2
      · refine .inr ⟨h3, ?_⟩
        rcases ltB_tri ⟨#[]⟩ (pat l k).to_ with h4 | h4 | h4
        · exact h4
        · exact absurd h4.symm (lt_ne_empty h3)
        · exact absurd h4 (not_lt_empty _)
    · unfold cutP
      rw [e1, endB_none]
  have gen : ∀ m : List Part, (∀ p ∈ m, keepB p ⟨#[]⟩ ⟨#[]⟩ = true ∧ cutP p ⟨#[]⟩ ⟨#[]⟩ = p) → refG m ⟨#[]⟩ ⟨#[]⟩ = m := by
    intro m
    induction m with
    | nil => intro _; rfl
    | cons x m ih =>
      intro hm
      obtain ⟨h1, h2⟩ := hm x List.mem_cons_self
      unfold refG
      rw [h1, if_pos rfl, h2, ih fun p hp => hm p (List.mem_cons_of_mem _ hp)]
  exact gen l key
theorem cover_zero {l : List Part} (h : RightL l) {f t : ByteArray} (hf : f.size ≤ 32) (ht : t.size ≤ 32) : coverK l f t = 0 ∧ coverR l f t = refG l f t := by
  have hk : coverK l f t = 0 := by unfold coverK; rw [(rightB_iff l).2 h, if_pos rfl, if_neg (by omega)]
  refine ⟨hk, ?_⟩
  rw [cover_eq]
  unfold refCoverR
  rw [if_pos hk]
/-- All that the law asks. -/
theorem whole_law {l : List Part} (h : RightL l) {F M T : ByteArray} (hF : F.size ≤ 32) (hM : M.size ≤ 32) (hT : T.size ≤ 32) (h1 : belowB F M = true) (h2 : T.toList.isEmpty = true ∨ belowB M T = true) :
    coverR l F M ++ coverR l M T = coverR l F T ∨ ∃ a' x y b', coverR l F M = a' ++ [x] ∧ coverR l M T = y :: b' ∧ x.group = y.group ∧ coverR l F T = a' ++ ⟨x.from_, y.to_, x.group⟩ :: b' := by
  rw [(cover_zero h hF hM).2, (cover_zero h hM hT).2, (cover_zero h hF hT).2]
  exact whole_refG ((belowB_iff _ _).1 h1) (h2.imp (emptyB _).1 (belowB_iff _ _).1) h
end Go.Proofs.Ytoemddjolfblbaa
