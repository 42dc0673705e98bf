/- Cell: which keys are right. -/
import Derived.Test.YtfdnpnaacikgdaaDoorH
import Derived.Test.YtfdnpnaacikgdaaDoorWMore
/- Right. -/
set_option linter.unusedVariables false
set_option linter.unusedSimpArgs false
namespace Go.Proofs.YtfdnpnaacikgdaaDoor
open Go.RowKit Go.Proofs.YtfdnpnaacikgdaaDoorW.PrintWords Go.Proofs.YtfdnpnaacikgdaaDoorW.PrintMore
attribute [local go_sem] max2_int max_two max_three

def okB (r f q : ByteArray) : Bool := decide (1 ≤ r.size ∧ 1 ≤ f.size ∧ r.size ≤ 32 ∧ f.size ≤ 32 ∧ q.size ≤ 32)
def rightI (a b c : ByteArray) : Int := if okB a b c then 0 else 5
def cell_Right.f (a b c : ByteArray) (t : Int) : Option Int := some (rightI a b c)
theorem toList_size (a : ByteArray) : a.toList.length = a.size := by
  rw [ByteArray.toList_eq]
  exact data_length a
theorem size_pos {a : ByteArray} (h : a.toList.isEmpty = false) : 1 ≤ a.size := by
  rw [← toList_size]
  cases hl : a.toList with
  | nil => rw [hl] at h; cases h
  | cons x l => simp
theorem size_zero {a : ByteArray} (h : a.toList.isEmpty = true) : a.size = 0 := by
  rw [← toList_size, List.isEmpty_iff.1 h]
  rfl
theorem ret_i {a b : Int} (h : a = b) : Ending.returned (.int .i64 a) = .returned (.int .i64 b) := by rw [h]
def mx2 (x y : Nat) : Nat := if x < y then y else x
theorem mx2_eq (x y : Nat) : (if x < y then (y : Int) else (x : Int)) = ((mx2 x y : Nat) : Int) := by
  unfold mx2
  split <;> rfl
theorem mx2_le (x y m : Nat) : mx2 x y ≤ m ↔ x ≤ m ∧ y ≤ m := by
  unfold mx2
  split <;> omega
set_option maxHeartbeats 1000000 in
theorem right_any (a b c : ByteArray) (t : Int) (w : World) :
    Calls Tryd.prog 15 #[.agg #[.string a, .string b, .string c, .int .u64 t]] w fun e w' => e = .returned (.int .i64 (rightI a b c)) ∧ Below w.heap.size w w' := by
  rcases Bool.eq_false_or_eq_true a.toList.isEmpty with h1 | h1
  · have HF : Aside0 (okB a b c = false) := ⟨by unfold okB; have := size_zero h1; exact df (by omega)⟩
    go_enter Tryd.func15, Tryd.ntmps15
    go_wp2_with fail
    go_ret
    exact ⟨ret_i (by unfold rightI; rw [HF.out]; rfl), (Below.refl _ _).alloc (Nat.le_refl _) _⟩
  · rcases Bool.eq_false_or_eq_true b.toList.isEmpty with h2 | h2
    · have HF : Aside0 (okB a b c = false) := ⟨by unfold okB; have := size_zero h2; exact df (by omega)⟩
      go_enter Tryd.func15, Tryd.ntmps15
      go_wp2_with fail
      go_ret
      exact ⟨ret_i (by unfold rightI; rw [HF.out]; rfl), (Below.refl _ _).alloc (Nat.le_refl _) _⟩
    · have m1 := mx2_eq a.size b.size
      have m2 := mx2_eq (mx2 a.size b.size) c.size
      have HM := Aside0.mk (mx2_le (mx2 a.size b.size) c.size 32)
      have HM1 := Aside0.mk (mx2_le a.size b.size 32)
      generalize mx2 a.size b.size = p at m1 m2 HM HM1
      generalize mx2 p c.size = q at m2 HM
      rcases Nat.lt_or_ge 32 q with h3 | h3
      · have d1 : decide ((32 : Int) < (q : Int)) = true := dt (by omega)
        have d2 : decide (32 < q) = true := dt h3
        have HF : Aside0 (okB a b c = false) := ⟨by unfold okB; have h4 := HM.out; have h5 := HM1.out; exact df (by omega)⟩
        clear h3
        go_enter Tryd.func15, Tryd.ntmps15
        go_wp2_with fail
        go_ret
        exact ⟨ret_i (by unfold rightI; rw [HF.out]; rfl), (Below.refl _ _).alloc (Nat.le_refl _) _⟩
      · have d1 : decide ((32 : Int) < (q : Int)) = false := df (by omega)
        have d2 : decide (32 < q) = false := df (by omega)
        have HF : Aside0 (okB a b c = true) := ⟨by unfold okB; have h4 := HM.out; have h5 := HM1.out; have h6 := size_pos h1; have h7 := size_pos h2; exact dt (by omega)⟩
        clear h3
        go_enter Tryd.func15, Tryd.ntmps15
        go_wp2_with fail
        go_ret
        exact ⟨ret_i (by unfold rightI; rw [HF.out]; rfl), (Below.refl _ _).alloc (Nat.le_refl _) _⟩
theorem cell_Right.calls (a0_0 : ByteArray) (a0_1 : ByteArray) (a0_2 : ByteArray) (a0_3 : Int) (r : Int) (w : World) (h : cell_Right.f a0_0 a0_1 a0_2 a0_3 = some r) :
    Calls Tryd.prog 15 #[.agg #[.string a0_0, .string a0_1, .string a0_2, .int .u64 a0_3]] w fun e w' => e = .returned (.int .i64 r) ∧ Below w.heap.size w w' := by
  obtain rfl := Option.some.inj h
  exact right_any _ _ _ _ _
end Go.Proofs.YtfdnpnaacikgdaaDoor
