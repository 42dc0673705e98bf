/- Plain laws of Cover: what the program tells is what the reference tells. -/
import Derived.Test.YtoemddjolfblbaaU
set_option linter.unusedVariables false
set_option linter.unusedSimpArgs false
namespace Go.Proofs.Ytoemddjolfblbaa
open Go.RowKit Go.Proofs.YtoemddjolfblbaaW.PrintWords

theorem emB_iff (a : ByteArray) : emB a = true ↔ a = ⟨#[]⟩ := emptyB a
theorem emB_false (a : ByteArray) : emB a = false ↔ a ≠ ⟨#[]⟩ := by rw [← Bool.not_eq_true, emB_iff]
theorem not_lt_empty (a : ByteArray) : ¬ ltB a ⟨#[]⟩ := empty_le ((emptyB _).2 rfl)
theorem lt_ne_empty {a b : ByteArray} (h : ltB a b) : b ≠ ⟨#[]⟩ := fun e => by subst e; exact not_lt_empty a h
theorem mxB_lt (a b c : ByteArray) : ltB (mxB a b) c ↔ ltB a c ∧ ltB b c := by
  unfold mxB
  rcases Bool.eq_false_or_eq_true (belowB a b) with h | h
  · rw [h]
    have h' := (belowB_iff a b).1 h
    exact ⟨fun hc => ⟨ltB_trans h' hc, hc⟩, fun hc => hc.2⟩
  · rw [h]
    have h' := (belowB_false a b).1 h
    exact ⟨fun hc => ⟨hc, lt_of_le_lt h' hc⟩, fun hc => hc.1⟩
/-- The cut end: t where it is an end and stands ahead. -/
theorem endB_cases (e t : ByteArray) : (endB e t = t ∧ t ≠ ⟨#[]⟩ ∧ (e = ⟨#[]⟩ ∨ ltB t e)) ∨ (endB e t = e ∧ (t = ⟨#[]⟩ ∨ (e ≠ ⟨#[]⟩ ∧ ¬ ltB t e))) := by
  unfold endB
  rcases Bool.eq_false_or_eq_true (emB t) with h | h
  · rw [h]
    exact .inr ⟨rfl, .inl ((emB_iff t).1 h)⟩
  · rcases Bool.eq_false_or_eq_true (emB e) with h2 | h2
    · rw [h, h2]
      exact .inl ⟨rfl, (emB_false t).1 h, .inl ((emB_iff e).1 h2)⟩
    · rcases Bool.eq_false_or_eq_true (belowB t e) with h3 | h3
      · rw [h, h2, h3]
        exact .inl ⟨rfl, (emB_false t).1 h, .inr ((belowB_iff t e).1 h3)⟩
      · rw [h, h2, h3]
        exact .inr ⟨rfl, .inr ⟨(emB_false e).1 h2, (belowB_false t e).1 h3⟩⟩
theorem keepB_iff (p : Part) (f t : ByteArray) : keepB p f t = true ↔ (endB p.to_ t = ⟨#[]⟩ ∨ (ltB p.from_ (endB p.to_ t) ∧ ltB f (endB p.to_ t))) := by
  unfold keepB
  rw [Bool.or_eq_true, emB_iff, belowB_iff, mxB_lt]
theorem outB_iff (p : Part) (f t : ByteArray) : outB p f t = true ↔ (t ≠ ⟨#[]⟩ ∧ ¬ (ltB p.from_ t ∧ ltB f t)) := by
  unfold outB
  rw [Bool.and_eq_true, Bool.not_eq_true', emB_false, Bool.not_eq_true', belowB_false, mxB_lt]

/-- A right table: a part's end stands behind its begin. -/
theorem RightL.end_ {l : List Part} (h : RightL l) {k : Nat} (hk : k < l.length) : (k + 1 = l.length ∧ (pat l k).to_ = ⟨#[]⟩) ∨ (k + 1 < l.length ∧ (pat l k).to_ = (pat l (k + 1)).from_ ∧ ltB (pat l k).from_ (pat l k).to_) := by
  rcases Nat.lt_or_ge (k + 1) l.length with h1 | h1
  · have e := h.joint k h1
    exact .inr ⟨h1, e.symm, by rw [← e]; exact h.rise k h1⟩
  · have h2 := h.last
    rw [show l.length - 1 = k by omega] at h2
    exact .inl ⟨by omega, h2⟩
theorem keep_ahead {l : List Part} (h : RightL l) {f t : ByteArray} {i k : Nat} (hi : At l f i) (hk : k < i) : keepB (pat l k) f t = false := by
  rw [← Bool.not_eq_true, keepB_iff]
  have hil := hi.lt
  rcases h.end_ (k := k) (by omega) with ⟨h1, _⟩ | ⟨h1, h2, h3⟩
  · omega
  have hle : ¬ ltB f (pat l k).to_ := by
    rw [h2]
    exact le_trans (h.le (by omega) hil) hi.from_
  rcases endB_cases (pat l k).to_ t with ⟨e, ht, h4⟩ | ⟨e, h4⟩
  · rw [e]
    rintro (h5 | h5)
    · exact ht h5
    · rcases h4 with h4 | h4
      · exact lt_ne_empty h3 h4
      · exact hle (ltB_trans h5.2 h4)
  · rw [e]
    rintro (h5 | h5)
    · exact lt_ne_empty h3 h5
    · exact hle h5.2
theorem keep_behind {l : List Part} (h : RightL l) {f t : ByteArray} {i k : Nat} (hi : At l f i) (hk : i ≤ k) (hkl : k < l.length) : keepB (pat l k) f t = !outB (pat l k) f t := by
  have hb : (pat l k).to_ = ⟨#[]⟩ ∨ (ltB (pat l k).from_ (pat l k).to_ ∧ ltB f (pat l k).to_) := by
    rcases h.end_ hkl with ⟨_, h2⟩ | ⟨h1, h2, h3⟩
    · exact .inl h2
    · exact .inr ⟨h3, by rw [h2]; exact hi.next (k + 1) (by omega) h1⟩
  rcases Bool.eq_false_or_eq_true (outB (pat l k) f t) with ho | ho
  · rw [ho, Bool.not_true, ← Bool.not_eq_true, keepB_iff]
    obtain ⟨h1, h2⟩ := (outB_iff _ _ _).1 ho
    rcases endB_cases (pat l k).to_ t with ⟨e, ht, h4⟩ | ⟨e, h4⟩
    · rw [e]
      rintro (h5 | h5)
      · exact ht h5
      · exact h2 h5
    · rw [e]
      rcases h4 with h4 | ⟨h4, h5⟩
      · exact absurd h4 h1
      · rintro (h6 | h6)
        · exact h4 h6
        · exact h2 ⟨lt_of_lt_le h6.1 h5, lt_of_lt_le h6.2 h5⟩
  · rw [ho, Bool.not_false, keepB_iff]
    have h1 : ¬ (t ≠ ⟨#[]⟩ ∧ ¬ (ltB (pat l k).from_ t ∧ ltB f t)) := by rw [← outB_iff, ho]; simp
    rcases endB_cases (pat l k).to_ t with ⟨e, ht, h4⟩ | ⟨e, h4⟩
    · rw [e]
      right
      exact Classical.byContradiction fun hn => h1 ⟨ht, hn⟩
    · rw [e]
      exact hb
theorem out_later {l : List Part} (h : RightL l) {f t : ByteArray} {k m : Nat} (hkm : k ≤ m) (hm : m < l.length) (ho : outB (pat l k) f t = true) : outB (pat l m) f t = true := by
  obtain ⟨h1, h2⟩ := (outB_iff _ _ _).1 ho
  exact (outB_iff _ _ _).2 ⟨h1, fun h3 => h2 ⟨lt_of_le_lt (h.le hkm hm) h3.1, h3.2⟩⟩
theorem refG_out {l : List Part} (h : RightL l) {f t : ByteArray} {i : Nat} (hi : At l f i) : ∀ (d k : Nat), l.length - k = d → i ≤ k → k ≤ l.length → (∀ m, k ≤ m → m < l.length → outB (pat l m) f t = true) → refG (l.drop k) f t = [] := by
  intro d
  induction d with
  | zero => intro k hd hk hkl _; rw [List.drop_eq_nil_of_le (by omega)]; rfl
  | succ d ih =>
    intro k hd hk hkl ho
    have hk2 : k < l.length := by omega
    rw [refG_step hk2, keep_behind h hi hk hk2, ho k (Nat.le_refl _) hk2]
    exact ih (k + 1) (by omega) (by omega) (by omega) (fun m hm => ho m (by omega))
theorem refG_behind {l : List Part} (h : RightL l) {f t : ByteArray} {i : Nat} (hi : At l f i) : ∀ (d k : Nat), l.length - k = d → i ≤ k → k ≤ l.length → refG (l.drop k) f t = covG (l.drop k) f t := by
  intro d
  induction d with
  | zero => intro k hd hk hkl; rw [List.drop_eq_nil_of_le (by omega)]; rfl
  | succ d ih =>
    intro k hd hk hkl
    have hk2 : k < l.length := by omega
    rcases Bool.eq_false_or_eq_true (outB (pat l k) f t) with ho | ho
    · rw [refG_out h hi (d + 1) k hd hk hkl (fun m hm hm2 => out_later h hm hm2 ho), covG_step hk2, ho]
      rfl
    · rw [refG_step hk2, covG_step hk2, keep_behind h hi hk hk2, ho, ih (k + 1) (by omega) (by omega) (by omega)]
      rfl
theorem refG_skip {l : List Part} {f t : ByteArray} {i : Nat} (hi : i ≤ l.length) (hk : ∀ k, k < i → keepB (pat l k) f t = false) : ∀ (d k : Nat), i - k = d → k ≤ i → refG (l.drop k) f t = refG (l.drop i) f t := by
  intro d
  induction d with
  | zero => intro k hd hki; rw [show k = i by omega]
  | succ d ih =>
    intro k hd hki
    rw [refG_step (by omega), hk k (by omega)]
    exact ih (k + 1) (by omega) (by omega)
theorem cover_eq (l : List Part) (f t : ByteArray) : coverR l f t = refCoverR l f t := by
  unfold coverR refCoverR
  by_cases hk : coverK l f t = 0
  · have hR : RightL l := by
      rw [← rightB_iff]
      rcases Bool.eq_false_or_eq_true (rightB l) with h | h
      · exact h
      · unfold coverK at hk; rw [h] at hk; simp at hk
    obtain ⟨i, hp, hi, _⟩ := place_at hR f
    rw [if_pos hk, hp, Int.toNat_natCast]
    rcases Bool.eq_false_or_eq_true (emB t || belowB f t) with hb | hb
    · rw [if_pos ⟨hk, hb⟩]
      have h1 := refG_skip (l := l) (f := f) (t := t) (Nat.le_of_lt hi.lt) (fun k hk => keep_ahead hR hi hk) i 0 rfl (Nat.zero_le _)
      rw [List.drop_zero] at h1
      rw [h1, refG_behind hR hi _ i rfl (Nat.le_refl _) (Nat.le_of_lt hi.lt)]
    · rw [if_neg (by rw [hb]; simp)]
      simp only [Bool.or_eq_false_iff] at hb
      have ht := (emB_false t).1 hb.1
      have hft := (belowB_false f t).1 hb.2
      have h1 := refG_skip (l := l) (f := f) (t := t) (Nat.le_refl _) (fun k hkl => by
        rw [← Bool.not_eq_true, keepB_iff]
        rcases endB_cases (pat l k).to_ t with ⟨e, _, h4⟩ | ⟨e, h4⟩
        · rw [e]
          rintro (h5 | h5)
          · exact ht h5
          · exact hft h5.2
        · rw [e]
          rcases h4 with h4 | ⟨h4, h5⟩
          · exact absurd h4 ht
          · rintro (h6 | h6)
            · exact h4 h6
            · exact hft (lt_of_lt_le h6.2 h5)) l.length 0 rfl (Nat.zero_le _)
      rw [List.drop_zero] at h1
      rw [h1, List.drop_eq_nil_of_le (Nat.le_refl _)]
      rfl
  · rw [if_neg hk, if_neg (by rintro ⟨h, _⟩; exact hk h)]
end Go.Proofs.Ytoemddjolfblbaa
