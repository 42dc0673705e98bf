/- Cell: cmp.Compare of strings, and the order of byte strings. -/
import Derived.Test.YtfdnpnaacikgdaaDoorJ
/- cmp.Compare. -/
set_option linter.unusedVariables false
set_option linter.unusedSimpArgs false
namespace Go.Proofs.YtfdnpnaacikgdaaDoor
open Go.RowKit Go.Proofs.YtfdnpnaacikgdaaDoorW.PrintWords

def cmpB (a b : ByteArray) : Int := if Op.bytesLess a.toList b.toList then -1 else if (!Op.bytesLess a.toList b.toList && !(a.toList == b.toList)) then 1 else 0
theorem cmpB_lt {a b : ByteArray} (h : Op.bytesLess a.toList b.toList = true) : -1 = cmpB a b := by simp [cmpB, h]
theorem cmpB_gt {a b : ByteArray} (h : Op.bytesLess a.toList b.toList = false) (h2 : (!a.toList == b.toList) = true) : 1 = cmpB a b := by
  unfold cmpB; rw [h]; simp only [Bool.not_false, Bool.true_and]; rw [if_neg (by simp), if_pos h2]
theorem cmpB_eq {a b : ByteArray} (h : Op.bytesLess a.toList b.toList = false) (h2 : (!a.toList == b.toList) = false) : 0 = cmpB a b := by
  unfold cmpB; rw [h]; simp only [Bool.not_false, Bool.true_and]; rw [if_neg (by simp), if_neg (by rw [h2]; simp)]
set_option maxHeartbeats 400000 in
theorem isNaN_any (a : ByteArray) (w : World) :
    Calls Tryd.prog 39 #[.string a] w fun e w' => e = .returned (.bool false) ∧ w = w' := by
  go_enter Tryd.func39, Tryd.ntmps39
  go_wp2
  go_ret
  exact ⟨by simp, rfl⟩
set_option maxHeartbeats 400000 in
theorem cmp_any (a b : ByteArray) (w : World) :
    Calls Tryd.prog 32 #[.string a, .string b] w fun e w' => e = .returned (.int .i64 (cmpB a b)) ∧ w = w' := by
  go_enter Tryd.func32, Tryd.ntmps32
  go_wp2_with (go_at_call 39; refine (isNaN_any _ _).mono ?_; rintro e w' ⟨rfl, rfl⟩)
  all_goals go_ret
  · exact ⟨ret_i (cmpB_lt ‹_›), rfl⟩
  all_goals first | exact ⟨ret_i (cmpB_gt ‹_› ‹_›), rfl⟩ | exact ⟨ret_i (cmpB_eq ‹_› ‹_›), rfl⟩
def cmp_Compare_string.f (a b : ByteArray) : Option Int := some (cmpB a b)
theorem cmp_Compare_string.calls (a0 : ByteArray) (a1 : ByteArray) (r : Int) (w : World) (h : cmp_Compare_string.f a0 a1 = some r) :
    Calls Tryd.prog 32 #[.string a0, .string a1] w fun e w' => e = .returned (.int .i64 r) ∧ Drawn0 w w' := by
  obtain rfl := Option.some.inj h
  refine (cmp_any a0 a1 w).mono ?_
  rintro e w' ⟨rfl, rfl⟩
  exact ⟨rfl, Drawn0.refl _⟩

/-- The order of byte strings, as a number. -/
def cmpL : List UInt8 → List UInt8 → Int
  | [], [] => 0
  | [], _ :: _ => -1
  | _ :: _, [] => 1
  | a :: x, b :: y => if a = b then cmpL x y else if a < b then -1 else 1
theorem bytesLess_cmpL : ∀ x y : List UInt8, Op.bytesLess x y = decide (cmpL x y < 0) ∧ ((x == y) = decide (cmpL x y = 0))
  | [], [] => by simp [Op.bytesLess, cmpL]
  | [], _ :: _ => by simp [Op.bytesLess, cmpL]
  | _ :: _, [] => by simp [Op.bytesLess, cmpL]
  | a :: x, b :: y => by
    obtain ⟨h1, h2⟩ := bytesLess_cmpL x y
    unfold Op.bytesLess cmpL
    by_cases hab : a = b
    · subst hab
      rw [if_pos rfl, h1]
      refine ⟨by simp, ?_⟩
      rw [← h2]
      simp
    · rw [if_neg hab]
      by_cases hlt : a < b
      · rw [if_pos hlt]
        simp [hlt, hab]
      · rw [if_neg hlt]
        simp [hlt, hab]
theorem cmpL_range : ∀ x y : List UInt8, cmpL x y = -1 ∨ cmpL x y = 0 ∨ cmpL x y = 1
  | [], [] => by simp [cmpL]
  | [], _ :: _ => by simp [cmpL]
  | _ :: _, [] => by simp [cmpL]
  | a :: x, b :: y => by
    unfold cmpL
    split
    · exact cmpL_range x y
    · split <;> simp
theorem cmpB_cmpL (a b : ByteArray) : cmpB a b = cmpL a.data.toList b.data.toList := by
  rw [← ByteArray.toList_eq, ← ByteArray.toList_eq]
  obtain ⟨h1, h2⟩ := bytesLess_cmpL a.toList b.toList
  unfold cmpB
  rw [h1, h2]
  rcases cmpL_range a.toList b.toList with h | h | h <;> rw [h] <;> rfl
end Go.Proofs.YtfdnpnaacikgdaaDoor
