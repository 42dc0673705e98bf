/- Cell: the bytes between which the keys of some rows stand. -/
import Derived.Test.YtfdnpnaacikgdaaDoorW1
import Derived.Test.YtfdnpnaacikgdaaDoorI
/- Rows. -/
set_option linter.unusedVariables false
set_option linter.unusedSimpArgs false
namespace Go.Proofs.YtfdnpnaacikgdaaDoor
open Go.RowKit Go.Proofs.YtfdnpnaacikgdaaDoorW.PrintWords Go.Proofs.YtfdnpnaacikgdaaDoorW.PrintMore
attribute [local go_sem] max2_int max_two

def hiL (to_ : ByteArray) : List UInt8 := if to_.size = 0 then List.replicate 33 255 else escL to_
set_option maxHeartbeats 2000000 in
set_option maxRecDepth 100000 in
theorem rows_bad (a b : ByteArray) (w : World) (h : ¬ (a.size ≤ 32 ∧ b.size ≤ 32)) :
    Calls Tryd.prog 24 #[.string a, .string b] w fun e w' => e = .returned (.tuple #[.slice none 0 0, .slice none 0 0, .int .i64 5]) ∧ Below w.heap.size w w' := by
  have m1 := mx2_eq a.size b.size
  have HM := Aside0.mk (mx2_le a.size b.size 32)
  generalize mx2 a.size b.size = p at m1 HM
  have h3 : 32 < p := by
    rcases Nat.lt_or_ge 32 p with h3 | h3
    · exact h3
    · exact absurd (HM.out.1 h3) h
  have d1 : decide ((32 : Int) < (p : Int)) = true := dt (by omega)
  have d2 : decide (32 < p) = true := dt h3
  clear h h3
  go_enter Tryd.func24, Tryd.ntmps24
  go_wp2_with fail
  go_ret3
  exact ⟨rfl, Below.refl _ _⟩
set_option maxHeartbeats 2000000 in
set_option maxRecDepth 100000 in
theorem rows_ok (a b : ByteArray) (w : World) (h : a.size ≤ 32 ∧ b.size ≤ 32) :
    Calls Tryd.prog 24 #[.string a, .string b] w fun e w' => ∃ (A1 A2 : Option Addr) (c1 c2 : Nat), e = .returned (.tuple #[.slice A1 (nums (escL a)).length c1, .slice A2 (nums (hiL b)).length c2, .int .i64 0]) ∧ (nums (escL a)).length ≤ c1 ∧ (nums (hiL b)).length ≤ c2 ∧ Kd.C kB w' A1 (nums (escL a)).length (nums (escL a)) ∧ Kd.C kB w' A2 (nums (hiL b)).length (nums (hiL b)) ∧ Below w.heap.size w w' := by
  have m1 := mx2_eq a.size b.size
  have HM := Aside0.mk (mx2_le a.size b.size 32)
  generalize mx2 a.size b.size = p at m1 HM
  have h3 : p ≤ 32 := HM.out.2 h
  have d1 : decide ((32 : Int) < (p : Int)) = false := df (by omega)
  have d2 : decide (32 < p) = false := df (by omega)
  have s1 : a.size ≤ 1000 := by omega
  have s2 : b.size ≤ 1000 := by omega
  clear h3
  rcases Bool.eq_false_or_eq_true b.toList.isEmpty with he | he
  · have HH : Aside0 (hiL b = List.replicate 33 255) := ⟨by unfold hiL; rw [if_pos (size_zero he)]⟩
    rw [HH.out]
    go_enter Tryd.func24, Tryd.ntmps24
    go_wp2_with fail
    refine (escaped_any a w s1).mono ?_
    rintro e w1 ⟨v1, rfl, hr, hb⟩
    have HR := Aside0.mk hr
    have HB := Aside0.mk hb
    clear hr hb
    obtain ⟨A1, c1, e1⟩ := Kd.R_slice HR.out
    subst e1
    go_wp2_with fail
    have HC : Aside0 (Kd.C kB (w1.alloc (.cells #[.int .u8 255] 5)) (some ⟨w1.heap.size, 0, none⟩) 1 [255]) := ⟨C_bsAt (bs := [255]) (bsAt_blk (heap_alloc_new w1 _)) (by simp)⟩
    refine (repeat_any (some ⟨w1.heap.size, 0, none⟩) 1 _ (Nat.le_refl _) HC.out).mono ?_
    rintro e w2 ⟨A2, rfl, hc2, hb2⟩
    have HB2 : Aside0 (Below w1.heap.size w1 w2) := ⟨(below_alloc (Below.refl _ _) _).trans (hb2.mono (by simp))⟩
    have HC2 := Aside0.mk hc2
    clear hb2 hc2
    go_wp2_with fail
    go_ret3
    exact ⟨A1, A2, c1, 33, rfl, (R_cap HR.out).1, by simp [nums], Kd.C_below (R_cap HR.out).2 HB2.out, HC2.out, HB.out.trans (HB2.out.mono HB.out.size)⟩
  · have HH : Aside0 (hiL b = escL b) := ⟨by unfold hiL; rw [if_neg (by have := size_pos he; omega)]⟩
    rw [HH.out]
    go_enter Tryd.func24, Tryd.ntmps24
    go_wp2_with fail
    refine (escaped_any a w s1).mono ?_
    rintro e w1 ⟨v1, rfl, hr, hb⟩
    have HR := Aside0.mk hr
    have HB := Aside0.mk hb
    clear hr hb
    obtain ⟨A1, c1, e1⟩ := Kd.R_slice HR.out
    subst e1
    go_wp2_with fail
    refine (escaped_any b w1 s2).mono ?_
    rintro e w2 ⟨v2, rfl, hr, hb⟩
    have HR2 := Aside0.mk hr
    have HB2 := Aside0.mk hb
    clear hr hb
    obtain ⟨A2, c2, e2⟩ := Kd.R_slice HR2.out
    subst e2
    go_wp2_with fail
    go_ret3
    exact ⟨A1, A2, c1, c2, rfl, (R_cap HR.out).1, (R_cap HR2.out).1, Kd.C_below (R_cap HR.out).2 HB2.out, (R_cap HR2.out).2, HB.out.trans (HB2.out.mono HB.out.size)⟩
end Go.Proofs.YtfdnpnaacikgdaaDoor
