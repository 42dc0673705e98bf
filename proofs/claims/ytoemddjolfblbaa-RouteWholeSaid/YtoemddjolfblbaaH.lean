/- Plain laws: the order of byte strings is total; what a right table is; where a row stands in it. -/
import Derived.Test.YtoemddjolfblbaaG
/- Plain laws: the order of byte strings; where a row stands in a table. -/
set_option linter.unusedVariables false
set_option linter.unusedSimpArgs false
namespace Go.Proofs.Ytoemddjolfblbaa
open Go.RowKit Go.Proofs.YtoemddjolfblbaaW.PrintWords

theorem cmpL_eq : ∀ x y : List UInt8, cmpL x y = 0 ↔ x = y
  | [], [] => by simp [cmpL]
  | [], _ :: _ => by simp [cmpL]
  | _ :: _, [] => by simp [cmpL]
  | a :: x, b :: y => by
    unfold cmpL
    by_cases h : a = b
    · subst h
      rw [if_pos rfl, cmpL_eq x y]
      simp
    · rw [if_neg h]
      constructor
      · intro e
        split at e <;> omega
      · intro e
        injection e with e1 _
        exact absurd e1 h
theorem cmpL_trans : ∀ x y z : List UInt8, cmpL x y < 0 → cmpL y z < 0 → cmpL x z < 0
  | _, [], [], _, h => by simp [cmpL] at h
  | [], [], _ :: _, h, _ => by simp [cmpL] at h
  | _ :: _, [], _ :: _, h, _ => by simp [cmpL] at h
  | _, _ :: _, [], _, h => by simp [cmpL] at h
  | [], _ :: _, _ :: _, _, _ => by simp [cmpL]
  | a :: x, b :: y, c :: z, h1, h2 => by
    unfold cmpL at h1 h2 ⊢
    by_cases hab : a = b
    · subst hab
      rw [if_pos rfl] at h1
      by_cases hac : a = c
      · subst hac
        rw [if_pos rfl] at h2 ⊢
        exact cmpL_trans x y z h1 h2
      · rw [if_neg hac] at h2 ⊢
        exact h2
    · rw [if_neg hab] at h1
      have hlt : a < b := by
        rcases Classical.em (a < b) with h | h
        · exact h
        · rw [if_neg h] at h1; omega
      have hlt' : a.toNat < b.toNat := hlt
      by_cases hbc : b = c
      · subst hbc
        rw [if_neg hab, if_pos hlt]
        omega
      · rw [if_neg hbc] at h2
        have hlt2 : b < c := by
          rcases Classical.em (b < c) with h | h
          · exact h
          · rw [if_neg h] at h2; omega
        have hlt2' : b.toNat < c.toNat := hlt2
        have : a < c := show a.toNat < c.toNat by omega
        have hne : a ≠ c := fun e => by subst e; omega
        rw [if_neg hne, if_pos this]
        omega

def tb (a : ByteArray) : List UInt8 := a.data.toList
theorem tb_toList (a : ByteArray) : a.toList = tb a := Lib.toList_data a
theorem tb_inj {a b : ByteArray} (h : tb a = tb b) : a = b := by
  cases a; cases b; unfold tb at h
  congr
  exact Array.toList_inj.1 h
def ltB (a b : ByteArray) : Prop := cmpL (tb a) (tb b) < 0
theorem belowB_iff (a b : ByteArray) : belowB a b = true ↔ ltB a b := by simp [belowB, cmpAt, ltB, tb]
theorem belowB_false (a b : ByteArray) : belowB a b = false ↔ ¬ ltB a b := by rw [← belowB_iff]; simp
theorem ltB_trans {a b c : ByteArray} (h1 : ltB a b) (h2 : ltB b c) : ltB a c := cmpL_trans _ _ _ h1 h2
theorem ltB_irrefl (a : ByteArray) : ¬ ltB a a := by
  unfold ltB
  rw [(cmpL_eq _ _).2 rfl]
  omega
theorem ltB_tri (a b : ByteArray) : ltB a b ∨ a = b ∨ ltB b a := by
  unfold ltB
  rw [cmpL_swap (tb a) (tb b)]
  rcases cmpL_range (tb a) (tb b) with h | h | h
  · omega
  · exact .inr (.inl (tb_inj ((cmpL_eq _ _).1 h)))
  · omega
theorem ltB_asymm {a b : ByteArray} (h : ltB a b) : ¬ ltB b a := fun h2 => ltB_irrefl a (ltB_trans h h2)
theorem le_trans {a b c : ByteArray} (h1 : ¬ ltB b a) (h2 : ¬ ltB c b) : ¬ ltB c a := fun h => by
  rcases ltB_tri a b with h3 | h3 | h3
  · exact h2 (ltB_trans h h3)
  · subst h3; exact h2 h
  · exact h1 h3
theorem lt_of_lt_le {a b c : ByteArray} (h1 : ltB a b) (h2 : ¬ ltB c b) : ltB a c := by
  rcases ltB_tri b c with h3 | h3 | h3
  · exact ltB_trans h1 h3
  · subst h3; exact h1
  · exact absurd h3 h2
theorem lt_of_le_lt {a b c : ByteArray} (h1 : ¬ ltB b a) (h2 : ltB b c) : ltB a c := by
  rcases ltB_tri a b with h3 | h3 | h3
  · exact ltB_trans h3 h2
  · subst h3; exact h2
  · exact absurd h3 h1
theorem empty_le {a b : ByteArray} (h : a.toList.isEmpty = true) : ¬ ltB b a := by
  rw [tb_toList] at h
  have h' : tb a = [] := by simpa using h
  unfold ltB
  rw [h']
  cases tb b <;> simp [cmpL]
theorem cmpB_lt_iff (a b : ByteArray) : cmpB a b < 0 ↔ ltB a b := by rw [cmpB_cmpL, tb_toList, tb_toList]; rfl
theorem cmpB_eq_iff (a b : ByteArray) : cmpB a b = 0 ↔ a = b := by
  rw [cmpB_cmpL, tb_toList, tb_toList, cmpL_eq]
  exact ⟨tb_inj, fun h => by rw [h]⟩
theorem eqB_iff (a b : ByteArray) : (a.toList == b.toList) = true ↔ a = b := by
  rw [tb_toList, tb_toList]
  simp only [beq_iff_eq]
  exact ⟨tb_inj, fun h => by rw [h]⟩
theorem eqB_false (a b : ByteArray) : (a.toList == b.toList) = false ↔ a ≠ b := by
  rw [← Bool.not_eq_true, eqB_iff]
theorem emptyB (a : ByteArray) : a.toList.isEmpty = true ↔ a = ⟨#[]⟩ := by
  rw [tb_toList]
  constructor
  · intro h
    exact tb_inj (by simpa [tb] using h)
  · rintro rfl
    rfl

/-! ### a right table -/
structure RightL (l : List Part) : Prop where
  pos : 1 ≤ l.length
  most : l.length ≤ 64
  head : (pat l 0).from_ = ⟨#[]⟩
  last : (pat l (l.length - 1)).to_ = ⟨#[]⟩
  group : ∀ k, k < l.length → (pat l k).group ≠ 0
  size : ∀ k, k < l.length → (pat l k).from_.size ≤ 32
  joint : ∀ k, k + 1 < l.length → (pat l (k + 1)).from_ = (pat l k).to_
  rise : ∀ k, k + 1 < l.length → ltB (pat l k).from_ (pat l (k + 1)).from_
theorem rightB_iff (l : List Part) : rightB l = true ↔ RightL l := by
  unfold rightB headB allB
  simp only [Bool.and_eq_true, decide_eq_true_eq, List.all_eq_true, List.mem_range, emptyB]
  constructor
  · rintro ⟨⟨⟨⟨h1, h2⟩, h3⟩, h4⟩, h5⟩
    have h6 : ∀ k, k < l.length → (pat l k).group ≠ 0 ∧ (pat l k).from_.size ≤ 32 ∧ (k = 0 ∨ ((pat l k).from_ = (pat l (k - 1)).to_ ∧ ltB (pat l (k - 1)).from_ (pat l k).from_)) := by
      intro k hk
      have := h5 k hk
      unfold okB at this
      simp only [Bool.and_eq_true, Bool.or_eq_true, decide_eq_true_eq, belowB_iff, eqB_iff, Bool.not_eq_true', beq_eq_false_iff_ne] at this
      exact ⟨this.1.1, this.1.2, this.2⟩
    refine ⟨h1, h2, h3, h4, fun k hk => (h6 k hk).1, fun k hk => (h6 k hk).2.1, fun k hk => ?_, fun k hk => ?_⟩
    · rcases (h6 (k + 1) hk).2.2 with h | h
      · omega
      · simpa using h.1
    · rcases (h6 (k + 1) hk).2.2 with h | h
      · omega
      · simpa using h.2
  · intro h
    refine ⟨⟨⟨⟨h.pos, h.most⟩, h.head⟩, h.last⟩, fun k hk => ?_⟩
    unfold okB
    simp only [Bool.and_eq_true, Bool.or_eq_true, decide_eq_true_eq, belowB_iff, eqB_iff, Bool.not_eq_true', beq_eq_false_iff_ne]
    refine ⟨⟨h.group k hk, h.size k hk⟩, ?_⟩
    rcases Nat.eq_zero_or_pos k with h0 | h0
    · exact .inl h0
    · obtain ⟨m, rfl⟩ : ∃ m, k = m + 1 := ⟨k - 1, by omega⟩
      exact .inr ⟨h.joint m hk, h.rise m hk⟩
theorem RightL.mono {l : List Part} (h : RightL l) : ∀ (d i : Nat), i + d + 1 < l.length → ltB (pat l i).from_ (pat l (i + d + 1)).from_ := by
  intro d
  induction d with
  | zero => intro i hi; exact h.rise i hi
  | succ d ih => intro i hi; exact ltB_trans (ih i (by omega)) (h.rise (i + d + 1) (by omega))
theorem RightL.lt {l : List Part} (h : RightL l) {i j : Nat} (hij : i < j) (hj : j < l.length) : ltB (pat l i).from_ (pat l j).from_ := by
  have := h.mono (j - i - 1) i (by omega)
  rwa [show i + (j - i - 1) + 1 = j by omega] at this
theorem RightL.le {l : List Part} (h : RightL l) {i j : Nat} (hij : i ≤ j) (hj : j < l.length) : ¬ ltB (pat l j).from_ (pat l i).from_ := by
  rcases Nat.lt_or_ge i j with h1 | h1
  · exact ltB_asymm (h.lt h1 hj)
  · obtain rfl : i = j := by omega
    exact ltB_irrefl _

theorem bsr_spec {c : Nat → Int} {n : Nat} (hm : ∀ a b, a ≤ b → b < n → c b < 0 → c a < 0) : ∀ (k i j : Nat), i ≤ j → j ≤ n → j - i < k → (∀ a, a < i → c a < 0) → (∀ a, j ≤ a → a < n → ¬ c a < 0) →
    bsr c k i j ≤ n ∧ (∀ a, a < bsr c k i j → c a < 0) ∧ (∀ a, bsr c k i j ≤ a → a < n → ¬ c a < 0)
  | 0, i, j, hij, hj, hk, h1, h2 => by omega
  | k + 1, i, j, hij, hj, hk, h1, h2 => by
    unfold bsr
    by_cases h : i < j
    · rw [if_pos h]
      by_cases hc : c ((i + j) / 2) < 0
      · rw [if_pos hc]
        exact bsr_spec hm k _ j (by omega) hj (by omega) (fun a ha => hm a ((i + j) / 2) (by omega) (by omega) hc) h2
      · rw [if_neg hc]
        exact bsr_spec hm k i _ (by omega) (by omega) (by omega) h1 (fun a ha hn hca => hc (hm _ a ha hn hca))
    · rw [if_neg h]
      obtain rfl : i = j := by omega
      exact ⟨hj, h1, h2⟩

theorem bsr_le (c : Nat → Int) : ∀ (k i j : Nat), i ≤ j → bsr c k i j ≤ j
  | 0, i, j, h => h
  | k + 1, i, j, h => by
    unfold bsr
    split
    · split
      · exact bsr_le c k _ j (by omega)
      · exact Nat.le_trans (bsr_le c k i _ (by omega)) (by omega)
    · exact h
def bsL (l : List Part) (row : ByteArray) : Nat := bsr (fun i => cmpB (pat l i).from_ row) (l.length + 1) 0 l.length
def isL (l : List Part) (row : ByteArray) : Bool := decide (bsL l row < l.length) && (cmpB (pat l (bsL l row)).from_ row == 0)
/-- Of a right table: the part that has a row. -/
structure At (l : List Part) (row : ByteArray) (i : Nat) : Prop where
  lt : i < l.length
  from_ : ¬ ltB row (pat l i).from_
  next : ∀ k, i < k → k < l.length → ltB row (pat l k).from_
def plI (l : List Part) (row : ByteArray) : Int := if isL l row then (bsL l row : Int) else (bsL l row : Int) - 1
theorem place_at {l : List Part} (h : RightL l) (row : ByteArray) : ∃ i : Nat, plI l row = (i : Int) ∧ At l row i ∧ (isL l row = true ↔ (pat l i).from_ = row) := by
  have hb := bsr_spec (c := fun i => cmpB (pat l i).from_ row) (n := l.length) (fun a b hab hb hc => by
    simp only [cmpB_lt_iff] at hc ⊢
    exact lt_of_le_lt (h.le hab hb) hc) (l.length + 1) 0 l.length (by omega) (Nat.le_refl _) (by omega) (fun a ha => by omega) (fun a ha hn => by omega)
  simp only [cmpB_lt_iff] at hb
  obtain ⟨h1, h2, h3⟩ := hb
  change bsL l row ≤ l.length at h1
  change ∀ a, a < bsL l row → _ at h2
  change ∀ a, bsL l row ≤ a → _ at h3
  unfold plI isL
  by_cases hi : bsL l row < l.length ∧ (pat l (bsL l row)).from_ = row
  · have e : (decide (bsL l row < l.length) && (cmpB (pat l (bsL l row)).from_ row == 0)) = true := by
      simp only [Bool.and_eq_true, decide_eq_true_eq, beq_iff_eq, cmpB_eq_iff]
      exact hi
    rw [e, if_pos rfl]
    refine ⟨bsL l row, rfl, ⟨hi.1, h3 _ (Nat.le_refl _) hi.1 |> fun _ => by rw [hi.2]; exact ltB_irrefl _, fun k hk hk2 => ?_⟩, by simp [hi.2]⟩
    have := h.lt hk hk2
    rwa [hi.2] at this
  · have e : (decide (bsL l row < l.length) && (cmpB (pat l (bsL l row)).from_ row == 0)) = false := by
      rw [← Bool.not_eq_true]
      simp only [Bool.and_eq_true, decide_eq_true_eq, beq_iff_eq, cmpB_eq_iff]
      exact hi
    rw [e, if_neg (by simp)]
    have hpos : 0 < bsL l row := by
      rcases Nat.eq_zero_or_pos (bsL l row) with h0 | h0
      · exfalso
        have h4 := h3 0 (by omega) (by have := h.pos; omega)
        have h5 : ¬ ltB row (pat l 0).from_ := by rw [h.head]; exact empty_le ((emptyB _).2 rfl)
        rcases ltB_tri (pat l 0).from_ row with h6 | h6 | h6
        · exact h4 h6
        · exact hi ⟨by have := h.pos; omega, by rw [h0]; exact h6⟩
        · exact h5 h6
      · exact h0
    refine ⟨bsL l row - 1, by omega, ⟨by omega, ltB_asymm (h2 _ (by omega)), fun k hk hk2 => ?_⟩, ?_⟩
    · rcases ltB_tri row (pat l k).from_ with h6 | h6 | h6
      · exact h6
      · exfalso
        rcases Nat.lt_or_ge (bsL l row) k with h7 | h7
        · have h8 := h.lt h7 hk2
          rw [← h6] at h8
          exact h3 _ (Nat.le_refl _) (by omega) h8
        · obtain rfl : k = bsL l row := by omega
          exact hi ⟨hk2, h6.symm⟩
      · exact absurd h6 (h3 k (by omega) hk2)
    · constructor
      · intro h'; cases h'
      · intro h'
        exact absurd (h2 (bsL l row - 1) (by omega)) (by rw [h']; exact ltB_irrefl _)
theorem At.unique {l : List Part} (h : RightL l) {row : ByteArray} {i j : Nat} (hi : At l row i) (hj : At l row j) : i = j := by
  rcases Nat.lt_trichotomy i j with h1 | h1 | h1
  · exact absurd (hi.next j h1 hj.lt) hj.from_
  · exact h1
  · exact absurd (hj.next i h1 hi.lt) hi.from_
end Go.Proofs.Ytoemddjolfblbaa
