/- Words and walks for Split and Tablet: texts of these sessions, and of the kit's print, cut down to what is used (G3). -/
import Derived.Test.YtpckachmleonlaaGreatDoorCu26
section
set_option linter.unusedVariables false
set_option linter.unusedSimpArgs false
namespace Go.Proofs.YtpckachmleonlaaGreatDoor
open Go.RowKit Go.Proofs.YtpckachmleonlaaGreatDoorW.PrintWords
theorem less_ltS (x y : ByteArray) : Op.bytesLess x.toList y.toList = ltS x y := Cp.less_cmpL x y
set_option maxHeartbeats 4000000 in
set_option maxRecDepth 100000 in
theorem new_ok (a b : ByteArray) (w : World) (h : zFf a b = true) : Calls Tryz.prog 30 #[.string a, .string b] w fun e w' => e = .returned (.tuple #[.pointer (some ⟨w.heap.size, 0, none⟩), .int .i64 0]) ∧ w' = w.alloc (.cells #[.string a, .string b, .pointer none] 103) := by
 unfold zFf at h
 simp only [Bool.and_eq_true, decide_eq_true_eq, Bool.or_eq_true] at h
 have h3 := h.1
 have d1 : decide ((32 : Int) < max (a.size : Int) (b.size : Int)) = false := Cp.df (by omega)
 rcases Bool.eq_false_or_eq_true b.toList.isEmpty with he | he
 ·clear h h3
  go_enter Tryz.func30, Tryz.ntmps30
  go_wp2_with fail
  go_ret2
  exact ⟨rfl, rfl⟩
 ·have hl : ltS a b = true := by
   rcases h.2 with h4 | h4
   ·have := Cp.size_pos he; omega
   ·exact h4
  rw [← less_ltS] at hl
  clear h h3
  go_enter Tryz.func30, Tryz.ntmps30
  go_wp2_with fail
  go_ret2
  exact ⟨rfl, rfl⟩
set_option maxHeartbeats 4000000 in
set_option maxRecDepth 100000 in
theorem new_bad (a b : ByteArray) (w : World) (h : zFf a b = false) : Calls Tryz.prog 30 #[.string a, .string b] w fun e w' => e = .returned (.tuple #[.pointer none, .int .i64 1]) ∧ w' = w := by
 rcases Nat.lt_or_ge 32 (max a.size b.size) with h3 | h3
 ·have d1 : decide ((32 : Int) < max (a.size : Int) (b.size : Int)) = true := Cp.dt (by omega)
  clear h h3
  go_enter Tryz.func30, Tryz.ntmps30
  go_wp2_with fail
  go_ret2
  exact ⟨rfl, rfl⟩
 ·have d1 : decide ((32 : Int) < max (a.size : Int) (b.size : Int)) = false := Cp.df (by omega)
  have h4 : a.size ≤ 32 ∧ b.size ≤ 32 := by omega
  unfold zFf at h
  rw [decide_eq_true h4.1, decide_eq_true h4.2] at h
  simp only [Bool.true_and, Bool.or_eq_false_iff, decide_eq_false_iff_not] at h
  have he : b.toList.isEmpty = false := by
   cases he : b.toList.isEmpty with
   | false => rfl
   | true => exact absurd (Cp.size_zero he) h.1
  have hl := h.2
  rw [← less_ltS] at hl
  clear h h3 h4
  go_enter Tryz.func30, Tryz.ntmps30
  go_wp2_with fail
  go_ret2
  exact ⟨rfl, rfl⟩
set_option maxHeartbeats 4000000 in
set_option maxRecDepth 100000 in
theorem inside_any (p : Nat) (a b r : ByteArray) (v : Value) (w : World) (h : w.heap[p]? = some (.cells #[.string a, .string b, v] 103 (0, 0))) : Calls Tryz.prog 76 #[.pointer (some ⟨p, 0, none⟩), .string r] w fun e w' => e = .returned (.bool (insT a b r)) ∧ w' = w := by
 have c0 := (zAb h 0).trans (rfl : _ = some (Value.string a))
 have c1 := (zAb h 1).trans (rfl : _ = some (Value.string b))
 have hl := zAi h
 have HI := zA.mk (zGd a b r)
 rw [← less_ltS, ← less_ltS] at HI
 have HE : zA (decide (b.size = 0) = b.toList.isEmpty) := ⟨by
  rcases Bool.eq_false_or_eq_true b.toList.isEmpty with he | he
  ·rw [he, Cp.size_zero he]; rfl
  ·rw [he]; have := Cp.size_pos he; exact decide_eq_false (by omega)⟩
 rcases Bool.eq_false_or_eq_true (Op.bytesLess r.toList a.toList) with h1 | h1
 ·clear h
  go_enter Tryz.func76, Tryz.ntmps76
  go_wp2_with fail
  go_ret
  exact ⟨by rw [HI.out, h1]; rfl, rfl⟩
 ·rcases Bool.eq_false_or_eq_true b.toList.isEmpty with he | he
  ·clear h
   go_enter Tryz.func76, Tryz.ntmps76
   go_wp2_with fail
   go_ret
   exact ⟨by rw [HI.out, h1, HE.out, he]; rfl, rfl⟩
  ·rcases Bool.eq_false_or_eq_true (Op.bytesLess r.toList b.toList) with h2 | h2
   ·clear h
    go_enter Tryz.func76, Tryz.ntmps76
    go_wp2_with fail
    go_ret
    exact ⟨by rw [HI.out, h1, HE.out, he, h2]; rfl, rfl⟩
   ·clear h
    go_enter Tryz.func76, Tryz.ntmps76
    go_wp2_with fail
    go_ret
    exact ⟨by rw [HI.out, h1, HE.out, he, h2]; rfl, rfl⟩
set_option maxHeartbeats 4000000 in
set_option maxRecDepth 100000 in
theorem of1_any (x : CellM) (V : Option Addr) (c : Nat) (W : World) : Calls Tryz.prog 73 #[cellV x V c] W fun e w' => e = .returned (.bool (!zGb x)) ∧ Below W.heap.size W w' := by
 have HR : zA (∀ X : World, Calls Tryz.prog 74 #[.agg #[.string x.f0.f0, .string x.f0.f1, .string x.f0.f2, .int .u64 x.f0.f3]] X fun e w' => e = .returned (.int .i64 (Cp.zGa x.f0.f0 x.f0.f1 x.f0.f2)) ∧ Below X.heap.size X w') := ⟨fun X => Cp.right_any _ _ _ _ X⟩
 have HK : zA ((Cp.zGa x.f0.f0 x.f0.f1 x.f0.f2 = 0 ∧ zGb x = true) ∨ (Cp.zGa x.f0.f0 x.f0.f1 x.f0.f2 = 5 ∧ zGb x = false)) := ⟨by
  unfold zGb
  cases h : Cp.okB x.f0.f0 x.f0.f1 x.f0.f2 with
  | true => exact .inl ⟨Cp.rightI_ok h, rfl⟩
  | false => exact .inr ⟨Cp.rightI_bad h, rfl⟩⟩
 unfold cellV
 obtain ⟨l4, hl4⟩ : ∃ l4, x.f1.length = l4 := ⟨_, rfl⟩
 rw [hl4]
 clear hl4
 generalize Cp.zGa x.f0.f0 x.f0.f1 x.f0.f2 = i at HR HK
 generalize zGb x = b at HK ⊢
 rcases HK.out with ⟨rfl, rfl⟩ | ⟨rfl, rfl⟩
 all_goals (
  clear HK
  go_enter Tryz.func73, Tryz.ntmps73
  go_wp2_with fail
  refine (HR.out _).mono ?_
  rintro e w2 ⟨rfl, hb⟩
  have HB : zA (Below W.heap.size W w2) := ⟨(zAa (Below.refl _ _) _).trans (hb.mono (by simp))⟩
  clear hb
  go_wp2_with fail
  go_ret
  exact ⟨rfl, HB.out⟩)
set_option maxHeartbeats 4000000 in
set_option maxRecDepth 100000 in
theorem of2_any (p : Nat) (a b : ByteArray) (v : Value) (g : Nat) (x : CellM) (V : Option Addr) (c : Nat) (W : World) (h : W.heap[p]? = some (.cells #[.string a, .string b, v] 103 (0, 0))) (hg : W.heap[g]? = some (.cells #[.pointer (some ⟨p, 0, none⟩)] 23 (0, 0))) :
  Calls Tryz.prog 75 #[cellV x V c, .pointer (some ⟨g, 0, none⟩)] W fun e w' => e = .returned (.bool (!insT a b x.f0.f0)) ∧ Below W.heap.size W w' := by
 have HI : zA (∀ X : World, Below W.heap.size W X → Calls Tryz.prog 76 #[.pointer (some ⟨p, 0, none⟩), .string x.f0.f0] X fun e w' => e = .returned (.bool (insT a b x.f0.f0)) ∧ w' = X) := ⟨fun X hX => inside_any p a b _ v X (zAe h hX)⟩
 have c0 := (zAb hg 0).trans (rfl : _ = some (Value.pointer (some ⟨p, 0, none⟩)))
 have hl := zAi hg
 unfold cellV
 obtain ⟨l4, hl4⟩ : ∃ l4, x.f1.length = l4 := ⟨_, rfl⟩
 rw [hl4]
 generalize insT a b x.f0.f0 = i at HI ⊢
 clear hl4 h hg
 go_enter Tryz.func75, Tryz.ntmps75
 go_wp2_with fail
 refine (HI.out _ (zAa (Below.refl _ _) _)).mono ?_
 rintro e w2 ⟨rfl, rfl⟩
 go_wp2_with fail
 go_ret
 exact ⟨rfl, zAa (Below.refl _ _) _⟩
set_option maxHeartbeats 4000000 in
set_option maxRecDepth 100000 in
theorem of3_any (x : CellM) (V : Option Addr) (c : Nat) (W : World) : Calls Tryz.prog 77 #[cellV x V c] W fun e w' => e = .returned (.bool (!zFj x)) ∧ Below W.heap.size W w' := by
 obtain ⟨k, f, g⟩ := x
 have HV : zA (zFj ⟨k, f, g⟩ = (decide (f.length ≤ 256) && !(g && decide (0 < f.length)))) := ⟨rfl⟩
 unfold cellV
 simp only
 generalize zFj ⟨k, f, g⟩ = b at HV ⊢
 obtain ⟨n, hn⟩ : ∃ n, f.length = n := ⟨_, rfl⟩
 rw [hn] at HV ⊢
 clear hn
 rcases Nat.lt_or_ge 256 n with h1 | h1
 ·have HB : zA (b = false) := ⟨by rw [HV.out, decide_eq_false (by omega)]; rfl⟩
  have d1 : decide ((256 : Int) < (n : Int)) = true := Cp.dt (by omega)
  have d2 : decide (256 < n) = true := Cp.dt (by omega)
  clear h1
  go_enter Tryz.func77, Tryz.ntmps77
  go_wp2_with fail
  go_ret
  exact ⟨by rw [HB.out]; rfl, zAa (Below.refl _ _) _⟩
 ·have d1 : decide ((256 : Int) < (n : Int)) = false := Cp.df (by omega)
  have d2 : decide (256 < n) = false := Cp.df (by omega)
  have HV2 : zA (b = !(g && decide (0 < n))) := ⟨by rw [HV.out, decide_eq_true h1]; rfl⟩
  clear h1
  cases g
  ·go_enter Tryz.func77, Tryz.ntmps77
   go_wp2_with fail
   go_ret
   exact ⟨by rw [HV2.out]; rfl, zAa (Below.refl _ _) _⟩
  ·rcases Nat.eq_zero_or_pos n with h2 | h2
   ·subst h2
    go_enter Tryz.func77, Tryz.ntmps77
    go_wp2_with fail
    go_ret
    exact ⟨by rw [HV2.out]; rfl, zAa (Below.refl _ _) _⟩
   ·have HB : zA (b = false) := ⟨by rw [HV2.out, decide_eq_true h2]; rfl⟩
    have d3 : decide ((0 : Int) < (n : Int)) = true := Cp.dt (by omega)
    have d4 : decide (0 < n) = true := Cp.dt (by omega)
    go_enter Tryz.func77, Tryz.ntmps77
    go_wp2_with fail
    go_ret
    exact ⟨by rw [HB.out]; rfl, zAa (Below.refl _ _) _⟩
end Go.Proofs.YtpckachmleonlaaGreatDoor
end
