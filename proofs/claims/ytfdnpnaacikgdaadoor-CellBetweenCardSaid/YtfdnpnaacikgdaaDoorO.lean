/- Cell: the order of keys, in plain words. -/
import Derived.Test.YtfdnpnaacikgdaaDoorM
/- The order of keys. -/
set_option linter.unusedVariables false
set_option linter.unusedSimpArgs false
namespace Go.Proofs.YtfdnpnaacikgdaaDoor.PCell
open Go.RowKit Go.Proofs.YtfdnpnaacikgdaaDoorW.PrintWords Go.Proofs.YtfdnpnaacikgdaaDoorW.PrintMore

theorem cmpL_self : ∀ x : List UInt8, cmpL x x = 0
  | [] => rfl
  | a :: x => by unfold cmpL; rw [if_pos rfl]; exact cmpL_self x
theorem cmpL_eq {x y : List UInt8} (h : cmpL x y = 0) : x = y := by
  have := (bytesLess_cmpL x y).2
  rw [h] at this
  simpa using this
theorem cmpL_swap : ∀ x y : List UInt8, cmpL y x = - cmpL x y
  | [], [] => rfl
  | [], _ :: _ => rfl
  | _ :: _, [] => rfl
  | a :: x, b :: y => by
    unfold cmpL
    by_cases h : a = b
    · rw [if_pos h, if_pos h.symm]
      exact cmpL_swap x y
    · rw [if_neg h, if_neg (fun e => h e.symm)]
      by_cases hl : a < b
      · rw [if_pos hl, if_neg (by simp only [UInt8.not_lt]; exact UInt8.le_of_lt hl)]
        rfl
      · rw [if_neg hl, if_pos]
        have h1 : ¬ a.toNat < b.toNat := hl
        have h2 : a.toNat ≠ b.toNat := fun e => h (UInt8.toNat_inj.1 e)
        show b.toNat < a.toNat
        omega
theorem cmpU_swap (a b : Int) : cmpU b a = - cmpU a b := by
  unfold cmpU
  rcases Int.lt_trichotomy a b with h | h | h
  · rw [if_neg (by omega), if_pos h, if_pos h]; rfl
  · rw [if_neg (by omega), if_neg (by omega), if_neg (by omega), if_neg (by omega)]; rfl
  · rw [if_pos h, if_neg (by omega), if_pos h]
def sameCol (r f q r' f' q' : ByteArray) : Prop := r = r' ∧ f = f' ∧ q = q'
theorem keyCmp_same (r f q : ByteArray) (t t' : Int) : keyCmp r f q t r f q t' = cmpU t' t := by
  unfold keyCmp
  rw [cmpL_self, cmpL_self, cmpL_self]
  rfl
theorem keyCmp_other {r f q : ByteArray} {t : Int} {r' f' q' : ByteArray} {t' : Int} (h : ¬ sameCol r f q r' f' q') : keyCmp r f q t r' f' q' t' ≠ 0 ∧ ∀ s s', keyCmp r f q s r' f' q' s' = keyCmp r f q t r' f' q' t' := by
  unfold keyCmp
  by_cases h1 : cmpL r.data.toList r'.data.toList = 0
  · rw [if_pos h1]
    by_cases h2 : cmpL f.data.toList f'.data.toList = 0
    · rw [if_pos h2]
      by_cases h3 : cmpL q.data.toList q'.data.toList = 0
      · exact absurd ⟨Go.WideShapes.bytes_inj (cmpL_eq h1), Go.WideShapes.bytes_inj (cmpL_eq h2), Go.WideShapes.bytes_inj (cmpL_eq h3)⟩ h
      · rw [if_neg h3]
        exact ⟨h3, fun s s' => by rw [if_pos h1, if_pos h2, if_neg h3]⟩
    · rw [if_neg h2]
      exact ⟨h2, fun s s' => by rw [if_pos h1, if_neg h2]⟩
  · rw [if_neg h1]
    exact ⟨h1, fun s s' => by rw [if_neg h1]⟩
theorem keyCmp_swap (r f q : ByteArray) (t : Int) (r' f' q' : ByteArray) (t' : Int) : keyCmp r' f' q' t' r f q t = - keyCmp r f q t r' f' q' t' := by
  unfold keyCmp
  rw [cmpL_swap r.data.toList r'.data.toList, cmpL_swap f.data.toList f'.data.toList, cmpL_swap q.data.toList q'.data.toList, cmpU_swap t' t]
  generalize cmpL r.data.toList r'.data.toList = a
  generalize cmpL f.data.toList f'.data.toList = b
  generalize cmpL q.data.toList q'.data.toList = c
  generalize cmpU t' t = d
  by_cases ha : a = 0
  · rw [if_pos ha, if_pos (by omega)]
    by_cases hb : b = 0
    · rw [if_pos hb, if_pos (by omega)]
      by_cases hc : c = 0
      · rw [if_pos hc, if_pos (by omega)]
      · rw [if_neg hc, if_neg (by omega)]
    · rw [if_neg hb, if_neg (by omega)]
  · rw [if_neg ha, if_neg (by omega)]
theorem col_f (r f q : ByteArray) (t : Int) (r' f' q' : ByteArray) (t' : Int) : ∃ b, cell_Column.f r f q t r' f' q' t' = some b ∧ (b = true ↔ sameCol r f q r' f' q') := by
  refine ⟨_, rfl, ?_⟩
  simp only [Bool.and_eq_true, beq_iff_eq, ByteArray.toList_eq]
  exact ⟨fun h => ⟨Go.WideShapes.bytes_inj h.1, Go.WideShapes.bytes_inj h.2.1, Go.WideShapes.bytes_inj h.2.2⟩, fun h => by obtain ⟨rfl, rfl, rfl⟩ := h; exact ⟨rfl, rfl, rfl⟩⟩
theorem keyCmp_range (r f q : ByteArray) (t : Int) (r' f' q' : ByteArray) (t' : Int) : -1 ≤ keyCmp r f q t r' f' q' t' ∧ keyCmp r f q t r' f' q' t' ≤ 1 := by
  unfold keyCmp cmpU
  have h1 := cmpL_range r.data.toList r'.data.toList
  have h2 := cmpL_range f.data.toList f'.data.toList
  have h3 := cmpL_range q.data.toList q'.data.toList
  split
  · split
    · split
      · split
        · omega
        · split <;> omega
      · omega
    · omega
  · omega
end Go.Proofs.YtfdnpnaacikgdaaDoor.PCell
