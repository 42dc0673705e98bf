/- The plain law of bytes.Replace of zeros by a zero and 255. -/
import Derived.Test.YtfdnpnaacikgdaaDoorB
/- Zeros replaced, in plain lists. -/
set_option linter.unusedVariables false
set_option linter.unusedSimpArgs false
namespace Go.Proofs.YtfdnpnaacikgdaaDoor
open Go.RowKit Go.Proofs.YtfdnpnaacikgdaaDoorW.PrintWords

/-- A text's bytes, each zero with 255 behind it. -/
def rep : List UInt8 → List UInt8
  | [] => []
  | x :: r => (if x == 0 then [0, 255] else [x]) ++ rep r
theorem rep_append (a b : List UInt8) : rep (a ++ b) = rep a ++ rep b := by
  induction a with
  | nil => rfl
  | cons x a ih => simp only [List.cons_append, rep, ih, List.append_assoc]
theorem rep_length (a : List UInt8) : (rep a).length = a.length + a.count 0 := by
  induction a with
  | nil => rfl
  | cons x a ih =>
    simp only [rep, List.length_append, ih, List.length_cons, List.count_cons]
    rcases Bool.eq_false_or_eq_true (x == 0) with h | h
    · rw [h]; simp; omega
    · rw [h]; simp; omega
theorem rep_none {a : List UInt8} (h : a.count 0 = 0) : rep a = a := by
  induction a with
  | nil => rfl
  | cons x a ih =>
    rw [List.count_cons] at h
    rcases Bool.eq_false_or_eq_true (x == 0) with h2 | h2
    · rw [h2] at h; simp at h
    · rw [h2] at h
      simp only [rep, h2]
      rw [ih (by simpa using h)]
      rfl
/-- Where there is a zero, the first one. -/
theorem first_zero {a : List UInt8} (h : 0 < a.count 0) : ∃ pre post, a = pre ++ 0 :: post ∧ pre.count 0 = 0 ∧ Lib.indexByte a 0 = (pre.length : Int) := by
  induction a with
  | nil => simp at h
  | cons x a ih =>
    rw [List.count_cons] at h
    rcases Bool.eq_false_or_eq_true (x == 0) with h2 | h2
    · have hx := eq_of_beq h2
      subst hx
      exact ⟨[], a, rfl, rfl, by simp [Lib.indexByte]⟩
    · rw [h2] at h
      obtain ⟨pre, post, h3, h4, h5⟩ := ih (by simpa using h)
      refine ⟨x :: pre, post, by rw [h3]; rfl, by rw [List.count_cons, h2, h4]; rfl, ?_⟩
      have h6 : ((pre.length : Int) == -1) = false := by simp
      unfold Lib.indexByte
      rw [h2, h5, h6]
      simp
theorem rep_zero (pre post : List UInt8) (h : pre.count 0 = 0) : rep (pre ++ 0 :: post) = pre ++ [0, 255] ++ rep post := by
  rw [rep_append, rep_none h]
  simp [rep]
def cells (bs : List UInt8) : List Value := bs.map fun b => .int .u8 (b.toNat : Int)
theorem cells_length (bs : List UInt8) : (cells bs).length = bs.length := by simp [cells]
theorem cells_append (a b : List UInt8) : cells (a ++ b) = cells a ++ cells b := by simp [cells]
theorem cells_one (bs : List UInt8) : ∀ u ∈ cells bs, u.oneCell' = true := by
  intro u hu
  obtain ⟨b, _, rfl⟩ := List.mem_map.1 hu
  rfl
theorem cells_get {bs : List UInt8} {i : Nat} (h : i < bs.length) : (cells bs)[i]? = some (.int .u8 ((bs.getD i 0).toNat : Int)) := by
  simp [cells, List.getD_eq_getElem?_getD, h]
theorem BsAt.cells {w : World} {b o : Nat} {bs : List UInt8} (h : BsAt w b o bs) : ∀ j u, (cells bs)[j]? = some u → w.cell? ⟨b, o + j, none⟩ = some u := by
  intro j u hu
  have hj : j < bs.length := by
    have := (List.getElem?_eq_some_iff.1 hu).1
    rwa [cells_length] at this
  rw [cells_get hj] at hu
  rw [h j hj]
  exact hu
theorem BsAt.drop {w : World} {b o : Nat} {pre bs : List UInt8} (h : BsAt w b o (pre ++ bs)) : BsAt w b (o + pre.length) bs := by
  intro i hi
  have := h (pre.length + i) (by rw [List.length_append]; omega)
  rw [List.getD_eq_getElem?_getD, List.getElem?_append_right (by omega), Nat.add_sub_cancel_left, ← List.getD_eq_getElem?_getD, ← Nat.add_assoc] at this
  exact this
theorem BsAt.take {w : World} {b o : Nat} {pre bs : List UInt8} (h : BsAt w b o (pre ++ bs)) : BsAt w b o pre := by
  intro i hi
  have := h i (by rw [List.length_append]; omega)
  rw [List.getD_eq_getElem?_getD, List.getElem?_append_left hi, ← List.getD_eq_getElem?_getD] at this
  exact this
theorem BsAt.keep {w w' : World} {b o : Nat} {bs : List UInt8} (h : BsAt w b o bs) (hb : ∀ i, w'.cell? ⟨b, i, none⟩ = w.cell? ⟨b, i, none⟩) : BsAt w' b o bs := fun i hi => (hb _).trans (h i hi)
end Go.Proofs.YtfdnpnaacikgdaaDoor
