/- Cell: the law CellColumns in plain words, and at its call. -/
import Derived.Test.YtfdnpnaacikgdaaDoorM
import Derived.Test.YtfdnpnaacikgdaaDoorPCellx8
/- The law CellColumns. -/
set_option linter.unusedVariables false
set_option linter.unusedSimpArgs false
namespace Go.Proofs.YtfdnpnaacikgdaaDoor.PCell
open Go.RowKit Go.Proofs.YtfdnpnaacikgdaaDoorW.PrintWords Go.Proofs.YtfdnpnaacikgdaaDoorW.PrintMore

theorem cmpL_self : ∀ x : List UInt8, cmpL x x = 0
  | [] => rfl
  | a :: x => by unfold cmpL; rw [if_pos rfl]; exact cmpL_self x
theorem cmpL_eq {x y : List UInt8} (h : cmpL x y = 0) : x = y := by
  have := (bytesLess_cmpL x y).2
  rw [h] at this
  simpa using this
theorem cmpL_swap : ∀ x y : List UInt8, cmpL y x = - cmpL x y
  | [], [] => rfl
  | [], _ :: _ => rfl
  | _ :: _, [] => rfl
  | a :: x, b :: y => by
    unfold cmpL
    by_cases h : a = b
    · rw [if_pos h, if_pos h.symm]
      exact cmpL_swap x y
    · rw [if_neg h, if_neg (fun e => h e.symm)]
      by_cases hl : a < b
      · rw [if_pos hl, if_neg (by simp only [UInt8.not_lt]; exact UInt8.le_of_lt hl)]
        rfl
      · rw [if_neg hl, if_pos]
        have h1 : ¬ a.toNat < b.toNat := hl
        have h2 : a.toNat ≠ b.toNat := fun e => h (UInt8.toNat_inj.1 e)
        show b.toNat < a.toNat
        omega
theorem cmpU_swap (a b : Int) : cmpU b a = - cmpU a b := by
  unfold cmpU
  rcases Int.lt_trichotomy a b with h | h | h
  · rw [if_neg (by omega), if_pos h, if_pos h]; rfl
  · rw [if_neg (by omega), if_neg (by omega), if_neg (by omega), if_neg (by omega)]; rfl
  · rw [if_pos h, if_neg (by omega), if_pos h]
def sameCol (r f q r' f' q' : ByteArray) : Prop := r = r' ∧ f = f' ∧ q = q'
theorem keyCmp_same (r f q : ByteArray) (t t' : Int) : keyCmp r f q t r f q t' = cmpU t' t := by
  unfold keyCmp
  rw [cmpL_self, cmpL_self, cmpL_self]
  rfl
theorem keyCmp_other {r f q : ByteArray} {t : Int} {r' f' q' : ByteArray} {t' : Int} (h : ¬ sameCol r f q r' f' q') : keyCmp r f q t r' f' q' t' ≠ 0 ∧ ∀ s s', keyCmp r f q s r' f' q' s' = keyCmp r f q t r' f' q' t' := by
  unfold keyCmp
  by_cases h1 : cmpL r.data.toList r'.data.toList = 0
  · rw [if_pos h1]
    by_cases h2 : cmpL f.data.toList f'.data.toList = 0
    · rw [if_pos h2]
      by_cases h3 : cmpL q.data.toList q'.data.toList = 0
      · exact absurd ⟨Go.WideShapes.bytes_inj (cmpL_eq h1), Go.WideShapes.bytes_inj (cmpL_eq h2), Go.WideShapes.bytes_inj (cmpL_eq h3)⟩ h
      · rw [if_neg h3]
        exact ⟨h3, fun s s' => by rw [if_pos h1, if_pos h2, if_neg h3]⟩
    · rw [if_neg h2]
      exact ⟨h2, fun s s' => by rw [if_pos h1, if_neg h2]⟩
  · rw [if_neg h1]
    exact ⟨h1, fun s s' => by rw [if_neg h1]⟩
theorem keyCmp_swap (r f q : ByteArray) (t : Int) (r' f' q' : ByteArray) (t' : Int) : keyCmp r' f' q' t' r f q t = - keyCmp r f q t r' f' q' t' := by
  unfold keyCmp
  rw [cmpL_swap r.data.toList r'.data.toList, cmpL_swap f.data.toList f'.data.toList, cmpL_swap q.data.toList q'.data.toList, cmpU_swap t' t]
  generalize cmpL r.data.toList r'.data.toList = a
  generalize cmpL f.data.toList f'.data.toList = b
  generalize cmpL q.data.toList q'.data.toList = c
  generalize cmpU t' t = d
  by_cases ha : a = 0
  · rw [if_pos ha, if_pos (by omega)]
    by_cases hb : b = 0
    · rw [if_pos hb, if_pos (by omega)]
      by_cases hc : c = 0
      · rw [if_pos hc, if_pos (by omega)]
      · rw [if_neg hc, if_neg (by omega)]
    · rw [if_neg hb, if_neg (by omega)]
  · rw [if_neg ha, if_neg (by omega)]
theorem col_f (r f q : ByteArray) (t : Int) (r' f' q' : ByteArray) (t' : Int) : ∃ b, cell_Column.f r f q t r' f' q' t' = some b ∧ (b = true ↔ sameCol r f q r' f' q') := by
  refine ⟨_, rfl, ?_⟩
  simp only [Bool.and_eq_true, beq_iff_eq, ByteArray.toList_eq]
  exact ⟨fun h => ⟨Go.WideShapes.bytes_inj h.1, Go.WideShapes.bytes_inj h.2.1, Go.WideShapes.bytes_inj h.2.2⟩, fun h => by obtain ⟨rfl, rfl, rfl⟩ := h; exact ⟨rfl, rfl, rfl⟩⟩
theorem keyCmp_range (r f q : ByteArray) (t : Int) (r' f' q' : ByteArray) (t' : Int) : -1 ≤ keyCmp r f q t r' f' q' t' ∧ keyCmp r f q t r' f' q' t' ≤ 1 := by
  unfold keyCmp cmpU
  have h1 := cmpL_range r.data.toList r'.data.toList
  have h2 := cmpL_range f.data.toList f'.data.toList
  have h3 := cmpL_range q.data.toList q'.data.toList
  split
  · split
    · split
      · split
        · omega
        · split <;> omega
      · omega
    · omega
  · omega
theorem CellColumns (r f q : ByteArray) (t : Int) (r1 f1 q1 : ByteArray) (t1 : Int) (r' f' q' : ByteArray) (t' : Int) : bulwarklaw04_CellColumns.f 100000 r f q t r1 f1 q1 t1 r' f' q' t' = some true := by
  have hj2 : bulwarklaw04_CellColumns.j2 99998 false r f q t r f q t1 = some true := by
    rw [show (99998 : Nat) = 99997 + 1 from rfl]
    simp only [bulwarklaw04_CellColumns.j2]
    rw [if_neg (by simp), Cmp_f _ _ _ _ _ _ _ _ _ (by omega), Cmp_f _ _ _ _ _ _ _ _ _ (by omega), alive_f _ (by omega)]
    simp only [Option.bind_some]
    have hr := keyCmp_range r f q t1 r f q t
    have hs := keyCmp_swap r f q t1 r f q t
    have h1 : (decide (keyCmp r f q t r f q t1 < 0) == decide (t > t1)) = true := by
      rw [keyCmp_same]
      unfold cmpU
      rcases Int.lt_trichotomy t1 t with h | h | h
      · rw [if_pos h]; simp [h]
      · rw [if_neg (by omega), if_neg (by omega)]; simp; omega
      · rw [if_neg (by omega), if_pos h]; simp; omega
    rw [if_pos h1, if_pos (by rw [w64 (by omega) (by omega)]; exact hs)]
  have hj1 : bulwarklaw04_CellColumns.j1 99999 false r f q t r f q t1 r' f' q' t' = some true := by
    rw [show (99999 : Nat) = 99998 + 1 from rfl]
    simp only [bulwarklaw04_CellColumns.j1]
    obtain ⟨b0, e0, h0⟩ := col_f r f q t r f q t1
    obtain ⟨b1, e1, h1⟩ := col_f r f q t r' f' q' t'
    obtain ⟨b2, e2, h2⟩ := col_f r' f' q' t' r f q t1
    rw [if_neg (by simp), e0, e1, e2]
    simp only [Option.bind_some]
    rw [if_pos (h0.2 ⟨rfl, rfl, rfl⟩)]
    have : (b1 != b2) = false := by
      have : b1 = b2 := by
        rw [Bool.eq_iff_iff, h1, h2]
        exact ⟨fun h => ⟨h.1.symm, h.2.1.symm, h.2.2.symm⟩, fun h => ⟨h.1.symm, h.2.1.symm, h.2.2.symm⟩⟩
      rw [this]
      simp
    rw [this]
    exact hj2
  have hj0 : ∀ x, bulwarklaw04_CellColumns.j0 100000 x r f q t r1 f1 q1 t1 r' f' q' t' = some true := by
    intro x
    rw [show (100000 : Nat) = 99999 + 1 from rfl]
    simp only [bulwarklaw04_CellColumns.j0]
    rw [alive_f _ (by omega)]
    cases x with
    | true => simp
    | false =>
      rw [if_neg (by simp), Cmp_f _ _ _ _ _ _ _ _ _ (by omega), Cmp_f _ _ _ _ _ _ _ _ _ (by omega)]
      obtain ⟨b, e, h⟩ := col_f r f q t r' f' q' t'
      rw [e]
      simp only [Option.bind_some]
      split
      · rename_i c1
        split
        · rename_i c2
          cases b with
          | true => exact hj1
          | false =>
            exfalso
            have hn : ¬ sameCol r f q r' f' q' := fun hs => by have := h.2 hs; cases this
            obtain ⟨k1, k2⟩ := keyCmp_other (t := t) (t' := t') hn
            have k3 := keyCmp_swap r f q t1 r' f' q' t'
            rw [k3, k2] at c2
            omega
        · exact hj1
      · exact hj1
  unfold bulwarklaw04_CellColumns.f
  obtain ⟨b0, e0, _⟩ := light_f r f q t
  obtain ⟨b1, e1, _⟩ := light_f r1 f1 q1 t1
  obtain ⟨b2, e2, _⟩ := light_f r' f' q' t'
  rw [e0, e1, e2]
  simp only [Option.bind_some]
  split
  · split
    · exact hj0 _
    · exact hj0 _
  · exact hj0 _
theorem CellColumns_law (r f q : ByteArray) (t : Int) (r1 f1 q1 : ByteArray) (t1 : Int) (r' f' q' : ByteArray) (t' : Int) (W : World) (_ : (Lit.int .u64 t).wf = true) (_ : (Lit.int .u64 t1).wf = true) (_ : (Lit.int .u64 t').wf = true) :
    Calls Tryd.prog 6 #[.agg #[.string r, .string f, .string q, .int .u64 t], .agg #[.string r1, .string f1, .string q1, .int .u64 t1], .agg #[.string r', .string f', .string q', .int .u64 t']] W fun e w' => e = .returned (.bool true) ∧ Below W.heap.size W w' :=
  bulwarklaw04_CellColumns.calls 100000 r f q t r1 f1 q1 t1 r' f' q' t' true W (CellColumns r f q t r1 f1 q1 t1 r' f' q' t')
end Go.Proofs.YtfdnpnaacikgdaaDoor.PCell
