/- Words and walks for Split and Tablet: texts of these sessions, and of the kit's print, cut down to what is used (PSplitCutsx2). -/
import Derived.Test.YtpckachmleonlaaGreatDoorCv3
section
namespace Go.Proofs.YtpckachmleonlaaGreatDoor.PSplitCuts
open Go.RowKit Go.Proofs.YtpckachmleonlaaGreatDoorW.PrintWords Go.Proofs.YtpckachmleonlaaGreatDoorW.PrintLast Go.Proofs.YtpckachmleonlaaGreatDoorW.PrintMore
attribute [local go_sem] max2_int min2_int max_two min_two max_three min_three max_four min_four
set_option linter.unusedVariables false
set_option linter.unusedSimpArgs false
mutual
def bulwarkref04_Text.l0 : Nat → ByteArray → ByteArray → Int → Option (Int)
 | 0, _, _, _ => none
 | k + 1, x0, x1, x5 => if x5 < (x0.size : Int) then (bulwarkref04_Text.j1 k x0 x1 x5 (decide (x5 < (x1.size : Int)))) else (bulwarkref04_Text.j1 k x0 x1 x5 false)
def bulwarkref04_Text.j1 : Nat → ByteArray → ByteArray → Int → Bool → Option (Int)
 | 0, _, _, _, _ => none
 | k + 1, x0, x1, x5, x15 => if x15 = true then (if 0 ≤ x5 then (if x5 < (x0.size : Int) then (if x5 < (x1.size : Int) then (if (bt x0 x5) = (bt x1 x5) then (bulwarkref04_Text.l0 k x0 x1 (wrap64 (x5 + 1))) else (if (bt x0 x5) < (bt x1 x5) then (some (-1)) else (some 1))) else (none)) else (none)) else (none)) else (if (x0.size : Int) = (x1.size : Int) then (some 0) else (if (x0.size : Int) < (x1.size : Int) then (some (-1)) else (some 1)))
end
def bulwarkref04_Text.f (k : Nat) (a0 : ByteArray) (a1 : ByteArray) : Option (Int) := bulwarkref04_Text.l0 k a0 a1 0
set_option maxHeartbeats 8000000 in
set_option maxRecDepth 100000 in
theorem bulwarkref04_Text.calls (k : Nat) (a0 : ByteArray) (a1 : ByteArray) (r : Int) (w : World) (h : bulwarkref04_Text.f k a0 a1 = some r) :
  Calls Tryz.prog 55 #[.string a0, .string a1] w fun e w' => e = .returned (.int .i64 r) ∧ zBj w w' := by
 have H : (bulwarkref04_Text.l0 k a0 a1 0) = some r := h
 clear h
 have H' := zAa.mk H
 clear H
 go_enter Tryz.func55, Tryz.ntmps55
 go_wp2
 repeat (go_quiet (fail); try go_wp2)
 go_loopg [5] k (fun kq v5 w' => ∃ (x5_1 : Int), v5 = .int .i64 x5_1 ∧ zAa (bulwarkref04_Text.l0 kq a0 a1 x5_1 = some r) ∧ zAa (kq ≤ k) ∧ zBj w w')
 case atStart => exact ⟨(0), (by first | rfl | (simp; done) | (simp [*]; done)), H', ⟨Nat.le_refl _⟩, by repeat (first | exact zBj.refl _ | apply zBj.step)⟩
 case round =>
  clear H'
  try clear p2
  obtain ⟨x5_1, rfl, HA, HK1, ⟨m1, rfl⟩⟩ := hrel
  cases gk with
  | zero => exact absurd HA.out (by simp [bulwarkref04_Text.l0])
  | succ k1 =>
   have H := HA.out
   clear HA
   simp only [bulwarkref04_Text.l0] at H
   have HC3 := zAa.mk H
   clear H
   go_upto_region 2 with (fail)
   repeat (go_quiet (fail); go_upto_region 2 with (fail))
   go_cut [15] (fun v15 wc => ∃ (kq : Nat) (x15_2 : Bool), v15 = .bool x15_2 ∧ zAa (bulwarkref04_Text.j1 kq a0 a1 x5_1 x15_2 = some r) ∧ zAa (kq ≤ k1) ∧ zBj w wc)
   case first =>
    have H := HC3.out
    clear HC3
    by_cases c4 : x5_1 < (a0.size : Int)
    ·rw [if_pos c4] at H
     have c4b0 : decide (x5_1 < (a0.size : Int)) = true := decide_eq_true c4
     clear c4
     (first | rw [c4b0] | (simp only [i64_w, i32_w]; rw [c4b0]) | skip)
     have H' := zAa.mk H
     clear H
     go_wp2
     repeat (go_quiet (fail); try go_wp2)
     go_meet
     case rel => exact ⟨_, (decide (x5_1 < (a1.size : Int))), (by first | rfl | (simp; done) | (simp [*]; done)), H', ⟨by have := HK1.out; first | omega | exact Nat.le_refl _⟩, by repeat (first | exact zBj.refl _ | apply zBj.step)⟩
    ·rw [if_neg c4] at H
     have c4b0 : decide (x5_1 < (a0.size : Int)) = false := decide_eq_false c4
     clear c4
     (first | rw [c4b0] | (simp only [i64_w, i32_w]; rw [c4b0]) | skip)
     have H' := zAa.mk H
     clear H
     go_wp2
     repeat (go_quiet (fail); try go_wp2)
     go_meet
     case rel => exact ⟨_, (false), (by first | rfl | (simp; done) | (simp [*]; done)), H', ⟨by have := HK1.out; first | omega | exact Nat.le_refl _⟩, by repeat (first | exact zBj.refl _ | apply zBj.step)⟩
   case rest =>
    clear HC3
    try clear p2
    try clear c4
    try clear c4b0
    try clear p2
    obtain ⟨kq, x15_2, rfl, HA, HJ2, ⟨mc2, rfl⟩⟩ := hcut
    cases kq with
    | zero => exact absurd HA.out (by simp [bulwarkref04_Text.j1])
    | succ kj2 =>
     have H := HA.out
     clear HA
     simp only [bulwarkref04_Text.j1] at H
     by_cases c5 : x15_2 = true
     ·subst c5
      have H1 : (if 0 ≤ x5_1 then (if x5_1 < (a0.size : Int) then (if x5_1 < (a1.size : Int) then (if (bt a0 x5_1) = (bt a1 x5_1) then (bulwarkref04_Text.l0 kj2 a0 a1 (wrap64 (x5_1 + 1))) else (if (bt a0 x5_1) < (bt a1 x5_1) then (some (-1)) else (some 1))) else (none)) else (none)) else (none)) = some r := by rw [if_pos rfl] at H; exact H
      clear H
      have H := H1
      clear H1
      by_cases c6 : 0 ≤ x5_1
      ·rw [if_pos c6] at H
       have c6b0 : decide (0 ≤ x5_1) = true := decide_eq_true c6
       clear c6
       by_cases c7 : x5_1 < (a0.size : Int)
       ·rw [if_pos c7] at H
        have c7b0 : decide (x5_1 < (a0.size : Int)) = true := decide_eq_true c7
        clear c7
        by_cases c9 : x5_1 < (a1.size : Int)
        ·rw [if_pos c9] at H
         have c9b0 : decide (x5_1 < (a1.size : Int)) = true := decide_eq_true c9
         clear c9
         by_cases c11 : (bt a0 x5_1) = (bt a1 x5_1)
         ·rw [if_pos c11] at H
          have c11b0 : ((bt a0 x5_1) == (bt a1 x5_1)) = true := beq_iff_eq.mpr c11
          have c11b1 : ((bt a0 x5_1) != (bt a1 x5_1)) = false := bne_eq_false_iff_eq.mpr c11
          clear c11
          have H' := zAa.mk H
          clear H
          have p8 : 0 ≤ (x5_1 : Int) := of_decide_eq_true (by first | (with_reducible assumption) | assumption)
          have q8 : x5_1 < (a0.size : Int) := of_decide_eq_true (by first | (with_reducible assumption) | assumption)
          have hx8 := bt_at a0 x5_1
          replace p8 := eq_true p8
          replace q8 := eq_true q8
          have p10 : 0 ≤ (x5_1 : Int) := of_decide_eq_true (by first | (with_reducible assumption) | assumption)
          have q10 : x5_1 < (a1.size : Int) := of_decide_eq_true (by first | (with_reducible assumption) | assumption)
          have hx10 := bt_at a1 x5_1
          replace p10 := eq_true p10
          replace q10 := eq_true q10
          go_wp2
          repeat (go_quiet (fail); try go_wp2)
          go_roundg kj2
          case measure => have := HK1.out; have := HJ2.out; omega
          case rel => exact ⟨(wrap64 (x5_1 + 1)), (by first | rfl | (simp; done) | (simp [*]; done)), H', ⟨by have := HK1.out; have := HJ2.out; omega⟩, by repeat (first | exact zBj.refl _ | apply zBj.step)⟩
         ·rw [if_neg c11] at H
          have c11b0 : ((bt a0 x5_1) == (bt a1 x5_1)) = false := beq_eq_false_iff_ne.mpr c11
          have c11b1 : ((bt a0 x5_1) != (bt a1 x5_1)) = true := bne_iff_ne.mpr c11
          by_cases c14 : (bt a0 x5_1) < (bt a1 x5_1)
          ·rw [if_pos c14] at H
           have c14b0 : decide ((bt a0 x5_1) < (bt a1 x5_1)) = true := decide_eq_true c14
           clear c14
           obtain rfl := Option.some.inj H
           have p8 : 0 ≤ (x5_1 : Int) := of_decide_eq_true (by first | (with_reducible assumption) | assumption)
           have q8 : x5_1 < (a0.size : Int) := of_decide_eq_true (by first | (with_reducible assumption) | assumption)
           have hx8 := bt_at a0 x5_1
           replace p8 := eq_true p8
           replace q8 := eq_true q8
           have p10 : 0 ≤ (x5_1 : Int) := of_decide_eq_true (by first | (with_reducible assumption) | assumption)
           have q10 : x5_1 < (a1.size : Int) := of_decide_eq_true (by first | (with_reducible assumption) | assumption)
           have hx10 := bt_at a1 x5_1
           replace p10 := eq_true p10
           replace q10 := eq_true q10
           have p12 : 0 ≤ (x5_1 : Int) := of_decide_eq_true (by first | (with_reducible assumption) | assumption)
           have q12 : x5_1 < (a0.size : Int) := of_decide_eq_true (by first | (with_reducible assumption) | assumption)
           have hx12 := bt_at a0 x5_1
           replace p12 := eq_true p12
           replace q12 := eq_true q12
           have p13 : 0 ≤ (x5_1 : Int) := of_decide_eq_true (by first | (with_reducible assumption) | assumption)
           have q13 : x5_1 < (a1.size : Int) := of_decide_eq_true (by first | (with_reducible assumption) | assumption)
           have hx13 := bt_at a1 x5_1
           replace p13 := eq_true p13
           replace q13 := eq_true q13
           go_wp2
           repeat (go_quiet (fail); try go_wp2)
           go_ret
           exact ⟨by first | rfl | (simp; done) | (simp [*]; done), by repeat (first | exact zBj.refl _ | apply zBj.step)⟩
          ·rw [if_neg c14] at H
           have c14b0 : decide ((bt a0 x5_1) < (bt a1 x5_1)) = false := decide_eq_false c14
           clear c14
           obtain rfl := Option.some.inj H
           have p8 : 0 ≤ (x5_1 : Int) := of_decide_eq_true (by first | (with_reducible assumption) | assumption)
           have q8 : x5_1 < (a0.size : Int) := of_decide_eq_true (by first | (with_reducible assumption) | assumption)
           have hx8 := bt_at a0 x5_1
           replace p8 := eq_true p8
           replace q8 := eq_true q8
           have p10 : 0 ≤ (x5_1 : Int) := of_decide_eq_true (by first | (with_reducible assumption) | assumption)
           have q10 : x5_1 < (a1.size : Int) := of_decide_eq_true (by first | (with_reducible assumption) | assumption)
           have hx10 := bt_at a1 x5_1
           replace p10 := eq_true p10
           replace q10 := eq_true q10
           have p12 : 0 ≤ (x5_1 : Int) := of_decide_eq_true (by first | (with_reducible assumption) | assumption)
           have q12 : x5_1 < (a0.size : Int) := of_decide_eq_true (by first | (with_reducible assumption) | assumption)
           have hx12 := bt_at a0 x5_1
           replace p12 := eq_true p12
           replace q12 := eq_true q12
           have p13 : 0 ≤ (x5_1 : Int) := of_decide_eq_true (by first | (with_reducible assumption) | assumption)
           have q13 : x5_1 < (a1.size : Int) := of_decide_eq_true (by first | (with_reducible assumption) | assumption)
           have hx13 := bt_at a1 x5_1
           replace p13 := eq_true p13
           replace q13 := eq_true q13
           go_wp2
           repeat (go_quiet (fail); try go_wp2)
           go_ret
           exact ⟨by first | rfl | (simp; done) | (simp [*]; done), by repeat (first | exact zBj.refl _ | apply zBj.step)⟩
        ·rw [if_neg c9] at H
         exact absurd H (by simp)
       ·rw [if_neg c7] at H
        exact absurd H (by simp)
      ·rw [if_neg c6] at H
       exact absurd H (by simp)
     ·replace c5 := Bool.eq_false_iff.mpr c5
      subst c5
      have H1 : (if (a0.size : Int) = (a1.size : Int) then (some 0) else (if (a0.size : Int) < (a1.size : Int) then (some (-1)) else (some 1))) = some r := by rw [if_neg (show ¬ (false = true) by decide)] at H; exact H
      clear H
      have H := H1
      clear H1
      by_cases c15 : (a0.size : Int) = (a1.size : Int)
      ·rw [if_pos c15] at H
       have c15b0 : ((a0.size : Int) == (a1.size : Int)) = true := beq_iff_eq.mpr c15
       have c15b1 : ((a0.size : Int) != (a1.size : Int)) = false := bne_eq_false_iff_eq.mpr c15
       have c15b2 : (a0.size == a1.size) = true := by first | simpa using c15 | (simp at c15 ⊢; omega)
       clear c15
       obtain rfl := Option.some.inj H
       go_wp2
       repeat (go_quiet (fail); try go_wp2)
       go_ret
       exact ⟨by first | rfl | (simp; done) | (simp [*]; done), by repeat (first | exact zBj.refl _ | apply zBj.step)⟩
      ·rw [if_neg c15] at H
       have c15b0 : ((a0.size : Int) == (a1.size : Int)) = false := beq_eq_false_iff_ne.mpr c15
       have c15b1 : ((a0.size : Int) != (a1.size : Int)) = true := bne_iff_ne.mpr c15
       have c15b2 : (a0.size == a1.size) = false := by first | simpa using c15 | (simp at c15 ⊢; omega)
       by_cases c16 : (a0.size : Int) < (a1.size : Int)
       ·rw [if_pos c16] at H
        have c16b0 : decide ((a0.size : Int) < (a1.size : Int)) = true := decide_eq_true c16
        have c16b1 : decide (a0.size < a1.size) = true := decide_eq_true (Int.ofNat_lt.mp c16)
        clear c16
        obtain rfl := Option.some.inj H
        go_wp2
        repeat (go_quiet (fail); try go_wp2)
        go_ret
        exact ⟨by first | rfl | (simp; done) | (simp [*]; done), by repeat (first | exact zBj.refl _ | apply zBj.step)⟩
       ·rw [if_neg c16] at H
        have c16b0 : decide ((a0.size : Int) < (a1.size : Int)) = false := decide_eq_false c16
        have c16b1 : decide (a0.size < a1.size) = false := decide_eq_false (fun h => c16 (Int.ofNat_lt.mpr h))
        clear c16
        obtain rfl := Option.some.inj H
        go_wp2
        repeat (go_quiet (fail); try go_wp2)
        go_ret
        exact ⟨by first | rfl | (simp; done) | (simp [*]; done), by repeat (first | exact zBj.refl _ | apply zBj.step)⟩
def bulwarkref04_Cmp.f (k : Nat) (a0_0 : ByteArray) (a0_1 : ByteArray) (a0_2 : ByteArray) (a0_3 : Int) (a1_0 : ByteArray) (a1_1 : ByteArray) (a1_2 : ByteArray) (a1_3 : Int) : Option (Int) := (bulwarkref04_Text.f k a0_0 a1_0).bind fun t141 => (if t141 = 0 then ((bulwarkref04_Text.f k a0_1 a1_1).bind fun t142 => (if t142 = 0 then ((bulwarkref04_Text.f k a0_2 a1_2).bind fun t143 => (if t143 = 0 then (if a0_3 = a1_3 then (some 0) else (if a0_3 > a1_3 then (some (-1)) else (some 1))) else (some t143))) else (some t142))) else (some t141))
set_option maxHeartbeats 8000000 in
set_option maxRecDepth 100000 in
theorem bulwarkref04_Cmp.calls (k : Nat) (a0_0 : ByteArray) (a0_1 : ByteArray) (a0_2 : ByteArray) (a0_3 : Int) (a1_0 : ByteArray) (a1_1 : ByteArray) (a1_2 : ByteArray) (a1_3 : Int) (r : Int) (w : World) (h : bulwarkref04_Cmp.f k a0_0 a0_1 a0_2 a0_3 a1_0 a1_1 a1_2 a1_3 = some r) :
  Calls Tryz.prog 43 #[.agg #[.string a0_0, .string a0_1, .string a0_2, .int .u64 a0_3], .agg #[.string a1_0, .string a1_1, .string a1_2, .int .u64 a1_3]] w fun e w' => e = .returned (.int .i64 r) ∧ Below w.heap.size w w' := by
 have hu46 := Tryz.underlying46
 have HB := zAa.mk (Below.refl w.heap.size w)
 have H : ((bulwarkref04_Text.f k a0_0 a1_0).bind fun t141 => (if t141 = 0 then ((bulwarkref04_Text.f k a0_1 a1_1).bind fun t142 => (if t142 = 0 then ((bulwarkref04_Text.f k a0_2 a1_2).bind fun t143 => (if t143 = 0 then (if a0_3 = a1_3 then (some 0) else (if a0_3 > a1_3 then (some (-1)) else (some 1))) else (some t143))) else (some t142))) else (some t141))) = some r := h
 clear h
 replace H := Option.bind_eq_some_iff.mp H
 obtain ⟨t141, A30, H⟩ := H
 replace H : (if t141 = 0 then ((bulwarkref04_Text.f k a0_1 a1_1).bind fun t142 => (if t142 = 0 then ((bulwarkref04_Text.f k a0_2 a1_2).bind fun t143 => (if t143 = 0 then (if a0_3 = a1_3 then (some 0) else (if a0_3 > a1_3 then (some (-1)) else (some 1))) else (some t143))) else (some t142))) else (some t141)) = some r := H
 have A3 := zAa.mk A30
 clear A30
 by_cases c4 : t141 = 0
 ·rw [if_pos c4] at H
  have c4b0 : (t141 == 0) = true := beq_iff_eq.mpr c4
  have c4b1 : (t141 != 0) = false := bne_eq_false_iff_eq.mpr c4
  clear c4
  replace H := Option.bind_eq_some_iff.mp H
  obtain ⟨t142, A50, H⟩ := H
  replace H : (if t142 = 0 then ((bulwarkref04_Text.f k a0_2 a1_2).bind fun t143 => (if t143 = 0 then (if a0_3 = a1_3 then (some 0) else (if a0_3 > a1_3 then (some (-1)) else (some 1))) else (some t143))) else (some t142)) = some r := H
  have A5 := zAa.mk A50
  clear A50
  by_cases c6 : t142 = 0
  ·rw [if_pos c6] at H
   have c6b0 : (t142 == 0) = true := beq_iff_eq.mpr c6
   have c6b1 : (t142 != 0) = false := bne_eq_false_iff_eq.mpr c6
   clear c6
   replace H := Option.bind_eq_some_iff.mp H
   obtain ⟨t143, A70, H⟩ := H
   replace H : (if t143 = 0 then (if a0_3 = a1_3 then (some 0) else (if a0_3 > a1_3 then (some (-1)) else (some 1))) else (some t143)) = some r := H
   have A7 := zAa.mk A70
   clear A70
   by_cases c8 : t143 = 0
   ·rw [if_pos c8] at H
    have c8b0 : (t143 == 0) = true := beq_iff_eq.mpr c8
    have c8b1 : (t143 != 0) = false := bne_eq_false_iff_eq.mpr c8
    clear c8
    by_cases c9 : a0_3 = a1_3
    ·rw [if_pos c9] at H
     have c9b0 : (a0_3 == a1_3) = true := beq_iff_eq.mpr c9
     have c9b1 : (a0_3 != a1_3) = false := bne_eq_false_iff_eq.mpr c9
     clear c9
     obtain rfl := Option.some.inj H
     go_enter Tryz.func43, Tryz.ntmps43
     go_wp2_with (first | ((with_reducible refine zDe (N := 2) rfl ?_); refine zCh ?hg (N := 2) ?hd (cs := #[.string a0_0, .string a0_1, .string a0_2, .int .u64 a0_3]) (t := 46) ?hr ?_; (case hd => rfl); (case hg => rfl); (case hr => first | (go_simp; done) | (go_simp; rfl)); intro gb139 hg w10 hbox hb; have n0_ := zAa.mk (zCa (by repeat (first | (with_reducible first | exact HB.out | apply zAb | apply zAe | apply zAh) | exact HB.out)) hb); have n1_ := zAa.mk (hbox); have n2_ := zAa.mk ((by rw [hg]; exact (zBa (by repeat (first | (with_reducible first | exact HB.out | apply zAb | apply zAe | apply zAh) | exact HB.out))) : w.heap.size ≤ gb139)); have n3_ := zAa.mk ((by rw [hg]; exact (zBa (by repeat (first | (with_reducible first | exact HB.out | apply zAb | apply zAe | apply zAh) | exact HB.out))) : w.heap.size ≤ gb139)); clear HB; have HB := n0_; have BK139 := n1_; have GW139 := n2_; have GE139 := n3_; clear n0_ n1_ n2_ n3_; clear hb hbox hg) | ((with_reducible refine zDe (N := 3) rfl ?_); refine zCh ?hg (N := 3) ?hd (cs := #[.string a1_0, .string a1_1, .string a1_2, .int .u64 a1_3]) (t := 46) ?hr ?_; (case hd => rfl); (case hg => rfl); (case hr => first | (go_simp; done) | (go_simp; rfl)); intro gb140 hg w11 hbox hb; have n0_ := zAa.mk (zAf (g := gb139) (o := .cells #[.string a0_0, .string a0_1, .string a0_2, .int .u64 a0_3] 46 (0, 0)) (by (with_reducible repeat (first | refine zBf ?_ _ | refine zBg ?_ | refine zAi ?_ _)); exact BK139.out) hb); have n1_ := zAa.mk (zCa (by repeat (first | (with_reducible first | exact HB.out | apply zAb | apply zAe | apply zAh | refine zB ?_ GE139.out) | exact HB.out)) hb); have n2_ := zAa.mk (hbox); have n3_ := zAa.mk ((by rw [hg]; exact (zBa (by repeat (first | (with_reducible first | exact HB.out | apply zAb | apply zAe | apply zAh | refine zB ?_ GE139.out) | exact HB.out))) : w.heap.size ≤ gb140)); have n4_ := zAa.mk ((by rw [hg]; exact (zBa (by repeat (first | (with_reducible first | exact HB.out | apply zAb | apply zAe | apply zAh | refine zB ?_ GE139.out) | exact HB.out))) : w.heap.size ≤ gb140)); have n5_ := zAa.mk ((by rw [hg]; exact Nat.ne_of_lt (zAj (g := gb139) (o := .cells #[.string a0_0, .string a0_1, .string a0_2, .int .u64 a0_3] 46 (0, 0)) (by (with_reducible repeat (first | refine zBf ?_ _ | refine zBg ?_ | refine zAi ?_ _)); exact BK139.out)) : gb139 ≠ gb140)); have n6_ := zAa.mk ((by rw [hg]; exact Nat.ne_of_gt (zAj (g := gb139) (o := .cells #[.string a0_0, .string a0_1, .string a0_2, .int .u64 a0_3] 46 (0, 0)) (by (with_reducible repeat (first | refine zBf ?_ _ | refine zBg ?_ | refine zAi ?_ _)); exact BK139.out)) : gb140 ≠ gb139)); clear BK139; clear HB; have BK139 := n0_; have HB := n1_; have BK140 := n2_; have GW140 := n3_; have GE140 := n4_; have NB139_140 := n5_; have NB140_139 := n6_; clear n0_ n1_ n2_ n3_ n4_ n5_ n6_; clear hb hbox hg; have hnb12 := NB139_140.out; have hnc12 := NB140_139.out; have hcz13_0 : w11.cell? ⟨gb139, 0, none⟩ = some (.string a0_0) := (zAc BK139.out 0).trans rfl; have hcz13_1 : w11.cell? ⟨gb139, 1, none⟩ = some (.string a0_1) := (zAc BK139.out 1).trans rfl; have hcz13_2 : w11.cell? ⟨gb139, 2, none⟩ = some (.string a0_2) := (zAc BK139.out 2).trans rfl; have hcz13_3 : w11.cell? ⟨gb139, 3, none⟩ = some (.int .u64 a0_3) := (zAc BK139.out 3).trans rfl; have hfz13_0 := zAd BK139.out 0; have hfz13_1 := zAd BK139.out 1; have hfz13_2 := zAd BK139.out 2; have hfz13_3 := zAd BK139.out 3; have hcz14_0 : w11.cell? ⟨gb140, 0, none⟩ = some (.string a1_0) := (zAc BK140.out 0).trans rfl; have hcz14_1 : w11.cell? ⟨gb140, 1, none⟩ = some (.string a1_1) := (zAc BK140.out 1).trans rfl; have hcz14_2 : w11.cell? ⟨gb140, 2, none⟩ = some (.string a1_2) := (zAc BK140.out 2).trans rfl; have hcz14_3 : w11.cell? ⟨gb140, 3, none⟩ = some (.int .u64 a1_3) := (zAc BK140.out 3).trans rfl; have hfz14_0 := zAd BK140.out 0; have hfz14_1 := zAd BK140.out 1; have hfz14_2 := zAd BK140.out 2; have hfz14_3 := zAd BK140.out 3) | ((with_reducible refine zCi (f := 55) rfl ?_); refine zGb (some 12) rfl rfl Tryz.func55 (by kernel_rfl) rfl #[.string a0_0, .string a1_0] rfl (by (try simp only [List.map_toArray, List.map_cons, List.map_nil]); first | done | rfl | (simp only [List.length_drop, List.length_take]; rfl)) ?_; (with_reducible refine (bulwarkref04_Text.calls k a0_0 a1_0 t141 _ A3.out).mono ?_); rintro e w' ⟨rfl, ⟨nd, rfl⟩⟩; refine ⟨_, rfl, ?_⟩) | ((with_reducible refine zCi (f := 55) rfl ?_); refine zGb (some 20) rfl rfl Tryz.func55 (by kernel_rfl) rfl #[.string a0_1, .string a1_1] rfl (by (try simp only [List.map_toArray, List.map_cons, List.map_nil]); first | done | rfl | (simp only [List.length_drop, List.length_take]; rfl)) ?_; (with_reducible refine (bulwarkref04_Text.calls k a0_1 a1_1 t142 _ A5.out).mono ?_); rintro e w' ⟨rfl, ⟨nd, rfl⟩⟩; refine ⟨_, rfl, ?_⟩) | ((with_reducible refine zCi (f := 55) rfl ?_); refine zGb (some 28) rfl rfl Tryz.func55 (by kernel_rfl) rfl #[.string a0_2, .string a1_2] rfl (by (try simp only [List.map_toArray, List.map_cons, List.map_nil]); first | done | rfl | (simp only [List.length_drop, List.length_take]; rfl)) ?_; (with_reducible refine (bulwarkref04_Text.calls k a0_2 a1_2 t143 _ A7.out).mono ?_); rintro e w' ⟨rfl, ⟨nd, rfl⟩⟩; refine ⟨_, rfl, ?_⟩))
     go_ret
     exact ⟨by first | rfl | (simp [zCe, zCd] <;> rfl) | (simp [*, zCe, zCd] <;> rfl), by repeat (first | (with_reducible first | exact HB.out | apply zAb | apply zAe | apply zAh | refine zB ?_ GE139.out | refine zB ?_ GE140.out) | exact HB.out)⟩
    ·rw [if_neg c9] at H
     have c9b0 : (a0_3 == a1_3) = false := beq_eq_false_iff_ne.mpr c9
     have c9b1 : (a0_3 != a1_3) = true := bne_iff_ne.mpr c9
     by_cases c15 : a0_3 > a1_3
     ·rw [if_pos c15] at H
      have c15b0 : decide (a1_3 < a0_3) = true := decide_eq_true c15
      clear c15
      obtain rfl := Option.some.inj H
      go_enter Tryz.func43, Tryz.ntmps43
      go_wp2_with (first | ((with_reducible refine zDe (N := 2) rfl ?_); refine zCh ?hg (N := 2) ?hd (cs := #[.string a0_0, .string a0_1, .string a0_2, .int .u64 a0_3]) (t := 46) ?hr ?_; (case hd => rfl); (case hg => rfl); (case hr => first | (go_simp; done) | (go_simp; rfl)); intro gb139 hg w16 hbox hb; have n0_ := zAa.mk (zCa (by repeat (first | (with_reducible first | exact HB.out | apply zAb | apply zAe | apply zAh) | exact HB.out)) hb); have n1_ := zAa.mk (hbox); have n2_ := zAa.mk ((by rw [hg]; exact (zBa (by repeat (first | (with_reducible first | exact HB.out | apply zAb | apply zAe | apply zAh) | exact HB.out))) : w.heap.size ≤ gb139)); have n3_ := zAa.mk ((by rw [hg]; exact (zBa (by repeat (first | (with_reducible first | exact HB.out | apply zAb | apply zAe | apply zAh) | exact HB.out))) : w.heap.size ≤ gb139)); clear HB; have HB := n0_; have BK139 := n1_; have GW139 := n2_; have GE139 := n3_; clear n0_ n1_ n2_ n3_; clear hb hbox hg) | ((with_reducible refine zDe (N := 3) rfl ?_); refine zCh ?hg (N := 3) ?hd (cs := #[.string a1_0, .string a1_1, .string a1_2, .int .u64 a1_3]) (t := 46) ?hr ?_; (case hd => rfl); (case hg => rfl); (case hr => first | (go_simp; done) | (go_simp; rfl)); intro gb140 hg w17 hbox hb; have n0_ := zAa.mk (zAf (g := gb139) (o := .cells #[.string a0_0, .string a0_1, .string a0_2, .int .u64 a0_3] 46 (0, 0)) (by (with_reducible repeat (first | refine zBf ?_ _ | refine zBg ?_ | refine zAi ?_ _)); exact BK139.out) hb); have n1_ := zAa.mk (zCa (by repeat (first | (with_reducible first | exact HB.out | apply zAb | apply zAe | apply zAh | refine zB ?_ GE139.out) | exact HB.out)) hb); have n2_ := zAa.mk (hbox); have n3_ := zAa.mk ((by rw [hg]; exact (zBa (by repeat (first | (with_reducible first | exact HB.out | apply zAb | apply zAe | apply zAh | refine zB ?_ GE139.out) | exact HB.out))) : w.heap.size ≤ gb140)); have n4_ := zAa.mk ((by rw [hg]; exact (zBa (by repeat (first | (with_reducible first | exact HB.out | apply zAb | apply zAe | apply zAh | refine zB ?_ GE139.out) | exact HB.out))) : w.heap.size ≤ gb140)); have n5_ := zAa.mk ((by rw [hg]; exact Nat.ne_of_lt (zAj (g := gb139) (o := .cells #[.string a0_0, .string a0_1, .string a0_2, .int .u64 a0_3] 46 (0, 0)) (by (with_reducible repeat (first | refine zBf ?_ _ | refine zBg ?_ | refine zAi ?_ _)); exact BK139.out)) : gb139 ≠ gb140)); have n6_ := zAa.mk ((by rw [hg]; exact Nat.ne_of_gt (zAj (g := gb139) (o := .cells #[.string a0_0, .string a0_1, .string a0_2, .int .u64 a0_3] 46 (0, 0)) (by (with_reducible repeat (first | refine zBf ?_ _ | refine zBg ?_ | refine zAi ?_ _)); exact BK139.out)) : gb140 ≠ gb139)); clear BK139; clear HB; have BK139 := n0_; have HB := n1_; have BK140 := n2_; have GW140 := n3_; have GE140 := n4_; have NB139_140 := n5_; have NB140_139 := n6_; clear n0_ n1_ n2_ n3_ n4_ n5_ n6_; clear hb hbox hg; have hnb18 := NB139_140.out; have hnc18 := NB140_139.out; have hcz19_0 : w17.cell? ⟨gb139, 0, none⟩ = some (.string a0_0) := (zAc BK139.out 0).trans rfl; have hcz19_1 : w17.cell? ⟨gb139, 1, none⟩ = some (.string a0_1) := (zAc BK139.out 1).trans rfl; have hcz19_2 : w17.cell? ⟨gb139, 2, none⟩ = some (.string a0_2) := (zAc BK139.out 2).trans rfl; have hcz19_3 : w17.cell? ⟨gb139, 3, none⟩ = some (.int .u64 a0_3) := (zAc BK139.out 3).trans rfl; have hfz19_0 := zAd BK139.out 0; have hfz19_1 := zAd BK139.out 1; have hfz19_2 := zAd BK139.out 2; have hfz19_3 := zAd BK139.out 3; have hcz20_0 : w17.cell? ⟨gb140, 0, none⟩ = some (.string a1_0) := (zAc BK140.out 0).trans rfl; have hcz20_1 : w17.cell? ⟨gb140, 1, none⟩ = some (.string a1_1) := (zAc BK140.out 1).trans rfl; have hcz20_2 : w17.cell? ⟨gb140, 2, none⟩ = some (.string a1_2) := (zAc BK140.out 2).trans rfl; have hcz20_3 : w17.cell? ⟨gb140, 3, none⟩ = some (.int .u64 a1_3) := (zAc BK140.out 3).trans rfl; have hfz20_0 := zAd BK140.out 0; have hfz20_1 := zAd BK140.out 1; have hfz20_2 := zAd BK140.out 2; have hfz20_3 := zAd BK140.out 3) | ((with_reducible refine zCi (f := 55) rfl ?_); refine zGb (some 12) rfl rfl Tryz.func55 (by kernel_rfl) rfl #[.string a0_0, .string a1_0] rfl (by (try simp only [List.map_toArray, List.map_cons, List.map_nil]); first | done | rfl | (simp only [List.length_drop, List.length_take]; rfl)) ?_; (with_reducible refine (bulwarkref04_Text.calls k a0_0 a1_0 t141 _ A3.out).mono ?_); rintro e w' ⟨rfl, ⟨nd, rfl⟩⟩; refine ⟨_, rfl, ?_⟩) | ((with_reducible refine zCi (f := 55) rfl ?_); refine zGb (some 20) rfl rfl Tryz.func55 (by kernel_rfl) rfl #[.string a0_1, .string a1_1] rfl (by (try simp only [List.map_toArray, List.map_cons, List.map_nil]); first | done | rfl | (simp only [List.length_drop, List.length_take]; rfl)) ?_; (with_reducible refine (bulwarkref04_Text.calls k a0_1 a1_1 t142 _ A5.out).mono ?_); rintro e w' ⟨rfl, ⟨nd, rfl⟩⟩; refine ⟨_, rfl, ?_⟩) | ((with_reducible refine zCi (f := 55) rfl ?_); refine zGb (some 28) rfl rfl Tryz.func55 (by kernel_rfl) rfl #[.string a0_2, .string a1_2] rfl (by (try simp only [List.map_toArray, List.map_cons, List.map_nil]); first | done | rfl | (simp only [List.length_drop, List.length_take]; rfl)) ?_; (with_reducible refine (bulwarkref04_Text.calls k a0_2 a1_2 t143 _ A7.out).mono ?_); rintro e w' ⟨rfl, ⟨nd, rfl⟩⟩; refine ⟨_, rfl, ?_⟩))
      go_ret
      exact ⟨by first | rfl | (simp [zCe, zCd] <;> rfl) | (simp [*, zCe, zCd] <;> rfl), by repeat (first | (with_reducible first | exact HB.out | apply zAb | apply zAe | apply zAh | refine zB ?_ GE139.out | refine zB ?_ GE140.out) | exact HB.out)⟩
     ·rw [if_neg c15] at H
      have c15b0 : decide (a1_3 < a0_3) = false := decide_eq_false c15
      clear c15
      obtain rfl := Option.some.inj H
      go_enter Tryz.func43, Tryz.ntmps43
      go_wp2_with (first | ((with_reducible refine zDe (N := 2) rfl ?_); refine zCh ?hg (N := 2) ?hd (cs := #[.string a0_0, .string a0_1, .string a0_2, .int .u64 a0_3]) (t := 46) ?hr ?_; (case hd => rfl); (case hg => rfl); (case hr => first | (go_simp; done) | (go_simp; rfl)); intro gb139 hg w21 hbox hb; have n0_ := zAa.mk (zCa (by repeat (first | (with_reducible first | exact HB.out | apply zAb | apply zAe | apply zAh) | exact HB.out)) hb); have n1_ := zAa.mk (hbox); have n2_ := zAa.mk ((by rw [hg]; exact (zBa (by repeat (first | (with_reducible first | exact HB.out | apply zAb | apply zAe | apply zAh) | exact HB.out))) : w.heap.size ≤ gb139)); have n3_ := zAa.mk ((by rw [hg]; exact (zBa (by repeat (first | (with_reducible first | exact HB.out | apply zAb | apply zAe | apply zAh) | exact HB.out))) : w.heap.size ≤ gb139)); clear HB; have HB := n0_; have BK139 := n1_; have GW139 := n2_; have GE139 := n3_; clear n0_ n1_ n2_ n3_; clear hb hbox hg) | ((with_reducible refine zDe (N := 3) rfl ?_); refine zCh ?hg (N := 3) ?hd (cs := #[.string a1_0, .string a1_1, .string a1_2, .int .u64 a1_3]) (t := 46) ?hr ?_; (case hd => rfl); (case hg => rfl); (case hr => first | (go_simp; done) | (go_simp; rfl)); intro gb140 hg w22 hbox hb; have n0_ := zAa.mk (zAf (g := gb139) (o := .cells #[.string a0_0, .string a0_1, .string a0_2, .int .u64 a0_3] 46 (0, 0)) (by (with_reducible repeat (first | refine zBf ?_ _ | refine zBg ?_ | refine zAi ?_ _)); exact BK139.out) hb); have n1_ := zAa.mk (zCa (by repeat (first | (with_reducible first | exact HB.out | apply zAb | apply zAe | apply zAh | refine zB ?_ GE139.out) | exact HB.out)) hb); have n2_ := zAa.mk (hbox); have n3_ := zAa.mk ((by rw [hg]; exact (zBa (by repeat (first | (with_reducible first | exact HB.out | apply zAb | apply zAe | apply zAh | refine zB ?_ GE139.out) | exact HB.out))) : w.heap.size ≤ gb140)); have n4_ := zAa.mk ((by rw [hg]; exact (zBa (by repeat (first | (with_reducible first | exact HB.out | apply zAb | apply zAe | apply zAh | refine zB ?_ GE139.out) | exact HB.out))) : w.heap.size ≤ gb140)); have n5_ := zAa.mk ((by rw [hg]; exact Nat.ne_of_lt (zAj (g := gb139) (o := .cells #[.string a0_0, .string a0_1, .string a0_2, .int .u64 a0_3] 46 (0, 0)) (by (with_reducible repeat (first | refine zBf ?_ _ | refine zBg ?_ | refine zAi ?_ _)); exact BK139.out)) : gb139 ≠ gb140)); have n6_ := zAa.mk ((by rw [hg]; exact Nat.ne_of_gt (zAj (g := gb139) (o := .cells #[.string a0_0, .string a0_1, .string a0_2, .int .u64 a0_3] 46 (0, 0)) (by (with_reducible repeat (first | refine zBf ?_ _ | refine zBg ?_ | refine zAi ?_ _)); exact BK139.out)) : gb140 ≠ gb139)); clear BK139; clear HB; have BK139 := n0_; have HB := n1_; have BK140 := n2_; have GW140 := n3_; have GE140 := n4_; have NB139_140 := n5_; have NB140_139 := n6_; clear n0_ n1_ n2_ n3_ n4_ n5_ n6_; clear hb hbox hg; have hnb23 := NB139_140.out; have hnc23 := NB140_139.out; have hcz24_0 : w22.cell? ⟨gb139, 0, none⟩ = some (.string a0_0) := (zAc BK139.out 0).trans rfl; have hcz24_1 : w22.cell? ⟨gb139, 1, none⟩ = some (.string a0_1) := (zAc BK139.out 1).trans rfl; have hcz24_2 : w22.cell? ⟨gb139, 2, none⟩ = some (.string a0_2) := (zAc BK139.out 2).trans rfl; have hcz24_3 : w22.cell? ⟨gb139, 3, none⟩ = some (.int .u64 a0_3) := (zAc BK139.out 3).trans rfl; have hfz24_0 := zAd BK139.out 0; have hfz24_1 := zAd BK139.out 1; have hfz24_2 := zAd BK139.out 2; have hfz24_3 := zAd BK139.out 3; have hcz25_0 : w22.cell? ⟨gb140, 0, none⟩ = some (.string a1_0) := (zAc BK140.out 0).trans rfl; have hcz25_1 : w22.cell? ⟨gb140, 1, none⟩ = some (.string a1_1) := (zAc BK140.out 1).trans rfl; have hcz25_2 : w22.cell? ⟨gb140, 2, none⟩ = some (.string a1_2) := (zAc BK140.out 2).trans rfl; have hcz25_3 : w22.cell? ⟨gb140, 3, none⟩ = some (.int .u64 a1_3) := (zAc BK140.out 3).trans rfl; have hfz25_0 := zAd BK140.out 0; have hfz25_1 := zAd BK140.out 1; have hfz25_2 := zAd BK140.out 2; have hfz25_3 := zAd BK140.out 3) | ((with_reducible refine zCi (f := 55) rfl ?_); refine zGb (some 12) rfl rfl Tryz.func55 (by kernel_rfl) rfl #[.string a0_0, .string a1_0] rfl (by (try simp only [List.map_toArray, List.map_cons, List.map_nil]); first | done | rfl | (simp only [List.length_drop, List.length_take]; rfl)) ?_; (with_reducible refine (bulwarkref04_Text.calls k a0_0 a1_0 t141 _ A3.out).mono ?_); rintro e w' ⟨rfl, ⟨nd, rfl⟩⟩; refine ⟨_, rfl, ?_⟩) | ((with_reducible refine zCi (f := 55) rfl ?_); refine zGb (some 20) rfl rfl Tryz.func55 (by kernel_rfl) rfl #[.string a0_1, .string a1_1] rfl (by (try simp only [List.map_toArray, List.map_cons, List.map_nil]); first | done | rfl | (simp only [List.length_drop, List.length_take]; rfl)) ?_; (with_reducible refine (bulwarkref04_Text.calls k a0_1 a1_1 t142 _ A5.out).mono ?_); rintro e w' ⟨rfl, ⟨nd, rfl⟩⟩; refine ⟨_, rfl, ?_⟩) | ((with_reducible refine zCi (f := 55) rfl ?_); refine zGb (some 28) rfl rfl Tryz.func55 (by kernel_rfl) rfl #[.string a0_2, .string a1_2] rfl (by (try simp only [List.map_toArray, List.map_cons, List.map_nil]); first | done | rfl | (simp only [List.length_drop, List.length_take]; rfl)) ?_; (with_reducible refine (bulwarkref04_Text.calls k a0_2 a1_2 t143 _ A7.out).mono ?_); rintro e w' ⟨rfl, ⟨nd, rfl⟩⟩; refine ⟨_, rfl, ?_⟩))
      go_ret
      exact ⟨by first | rfl | (simp [zCe, zCd] <;> rfl) | (simp [*, zCe, zCd] <;> rfl), by repeat (first | (with_reducible first | exact HB.out | apply zAb | apply zAe | apply zAh | refine zB ?_ GE139.out | refine zB ?_ GE140.out) | exact HB.out)⟩
   ·rw [if_neg c8] at H
    have c8b0 : (t143 == 0) = false := beq_eq_false_iff_ne.mpr c8
    have c8b1 : (t143 != 0) = true := bne_iff_ne.mpr c8
    obtain rfl := Option.some.inj H
    go_enter Tryz.func43, Tryz.ntmps43
    go_wp2_with (first | ((with_reducible refine zDe (N := 2) rfl ?_); refine zCh ?hg (N := 2) ?hd (cs := #[.string a0_0, .string a0_1, .string a0_2, .int .u64 a0_3]) (t := 46) ?hr ?_; (case hd => rfl); (case hg => rfl); (case hr => first | (go_simp; done) | (go_simp; rfl)); intro gb139 hg w26 hbox hb; have n0_ := zAa.mk (zCa (by repeat (first | (with_reducible first | exact HB.out | apply zAb | apply zAe | apply zAh) | exact HB.out)) hb); have n1_ := zAa.mk (hbox); have n2_ := zAa.mk ((by rw [hg]; exact (zBa (by repeat (first | (with_reducible first | exact HB.out | apply zAb | apply zAe | apply zAh) | exact HB.out))) : w.heap.size ≤ gb139)); have n3_ := zAa.mk ((by rw [hg]; exact (zBa (by repeat (first | (with_reducible first | exact HB.out | apply zAb | apply zAe | apply zAh) | exact HB.out))) : w.heap.size ≤ gb139)); clear HB; have HB := n0_; have BK139 := n1_; have GW139 := n2_; have GE139 := n3_; clear n0_ n1_ n2_ n3_; clear hb hbox hg) | ((with_reducible refine zDe (N := 3) rfl ?_); refine zCh ?hg (N := 3) ?hd (cs := #[.string a1_0, .string a1_1, .string a1_2, .int .u64 a1_3]) (t := 46) ?hr ?_; (case hd => rfl); (case hg => rfl); (case hr => first | (go_simp; done) | (go_simp; rfl)); intro gb140 hg w27 hbox hb; have n0_ := zAa.mk (zAf (g := gb139) (o := .cells #[.string a0_0, .string a0_1, .string a0_2, .int .u64 a0_3] 46 (0, 0)) (by (with_reducible repeat (first | refine zBf ?_ _ | refine zBg ?_ | refine zAi ?_ _)); exact BK139.out) hb); have n1_ := zAa.mk (zCa (by repeat (first | (with_reducible first | exact HB.out | apply zAb | apply zAe | apply zAh | refine zB ?_ GE139.out) | exact HB.out)) hb); have n2_ := zAa.mk (hbox); have n3_ := zAa.mk ((by rw [hg]; exact (zBa (by repeat (first | (with_reducible first | exact HB.out | apply zAb | apply zAe | apply zAh | refine zB ?_ GE139.out) | exact HB.out))) : w.heap.size ≤ gb140)); have n4_ := zAa.mk ((by rw [hg]; exact (zBa (by repeat (first | (with_reducible first | exact HB.out | apply zAb | apply zAe | apply zAh | refine zB ?_ GE139.out) | exact HB.out))) : w.heap.size ≤ gb140)); have n5_ := zAa.mk ((by rw [hg]; exact Nat.ne_of_lt (zAj (g := gb139) (o := .cells #[.string a0_0, .string a0_1, .string a0_2, .int .u64 a0_3] 46 (0, 0)) (by (with_reducible repeat (first | refine zBf ?_ _ | refine zBg ?_ | refine zAi ?_ _)); exact BK139.out)) : gb139 ≠ gb140)); have n6_ := zAa.mk ((by rw [hg]; exact Nat.ne_of_gt (zAj (g := gb139) (o := .cells #[.string a0_0, .string a0_1, .string a0_2, .int .u64 a0_3] 46 (0, 0)) (by (with_reducible repeat (first | refine zBf ?_ _ | refine zBg ?_ | refine zAi ?_ _)); exact BK139.out)) : gb140 ≠ gb139)); clear BK139; clear HB; have BK139 := n0_; have HB := n1_; have BK140 := n2_; have GW140 := n3_; have GE140 := n4_; have NB139_140 := n5_; have NB140_139 := n6_; clear n0_ n1_ n2_ n3_ n4_ n5_ n6_; clear hb hbox hg; have hnb28 := NB139_140.out; have hnc28 := NB140_139.out; have hcz29_0 : w27.cell? ⟨gb139, 0, none⟩ = some (.string a0_0) := (zAc BK139.out 0).trans rfl; have hcz29_1 : w27.cell? ⟨gb139, 1, none⟩ = some (.string a0_1) := (zAc BK139.out 1).trans rfl; have hcz29_2 : w27.cell? ⟨gb139, 2, none⟩ = some (.string a0_2) := (zAc BK139.out 2).trans rfl; have hcz29_3 : w27.cell? ⟨gb139, 3, none⟩ = some (.int .u64 a0_3) := (zAc BK139.out 3).trans rfl; have hfz29_0 := zAd BK139.out 0; have hfz29_1 := zAd BK139.out 1; have hfz29_2 := zAd BK139.out 2; have hfz29_3 := zAd BK139.out 3; have hcz30_0 : w27.cell? ⟨gb140, 0, none⟩ = some (.string a1_0) := (zAc BK140.out 0).trans rfl; have hcz30_1 : w27.cell? ⟨gb140, 1, none⟩ = some (.string a1_1) := (zAc BK140.out 1).trans rfl; have hcz30_2 : w27.cell? ⟨gb140, 2, none⟩ = some (.string a1_2) := (zAc BK140.out 2).trans rfl; have hcz30_3 : w27.cell? ⟨gb140, 3, none⟩ = some (.int .u64 a1_3) := (zAc BK140.out 3).trans rfl; have hfz30_0 := zAd BK140.out 0; have hfz30_1 := zAd BK140.out 1; have hfz30_2 := zAd BK140.out 2; have hfz30_3 := zAd BK140.out 3) | ((with_reducible refine zCi (f := 55) rfl ?_); refine zGb (some 12) rfl rfl Tryz.func55 (by kernel_rfl) rfl #[.string a0_0, .string a1_0] rfl (by (try simp only [List.map_toArray, List.map_cons, List.map_nil]); first | done | rfl | (simp only [List.length_drop, List.length_take]; rfl)) ?_; (with_reducible refine (bulwarkref04_Text.calls k a0_0 a1_0 t141 _ A3.out).mono ?_); rintro e w' ⟨rfl, ⟨nd, rfl⟩⟩; refine ⟨_, rfl, ?_⟩) | ((with_reducible refine zCi (f := 55) rfl ?_); refine zGb (some 20) rfl rfl Tryz.func55 (by kernel_rfl) rfl #[.string a0_1, .string a1_1] rfl (by (try simp only [List.map_toArray, List.map_cons, List.map_nil]); first | done | rfl | (simp only [List.length_drop, List.length_take]; rfl)) ?_; (with_reducible refine (bulwarkref04_Text.calls k a0_1 a1_1 t142 _ A5.out).mono ?_); rintro e w' ⟨rfl, ⟨nd, rfl⟩⟩; refine ⟨_, rfl, ?_⟩) | ((with_reducible refine zCi (f := 55) rfl ?_); refine zGb (some 28) rfl rfl Tryz.func55 (by kernel_rfl) rfl #[.string a0_2, .string a1_2] rfl (by (try simp only [List.map_toArray, List.map_cons, List.map_nil]); first | done | rfl | (simp only [List.length_drop, List.length_take]; rfl)) ?_; (with_reducible refine (bulwarkref04_Text.calls k a0_2 a1_2 t143 _ A7.out).mono ?_); rintro e w' ⟨rfl, ⟨nd, rfl⟩⟩; refine ⟨_, rfl, ?_⟩))
    go_ret
    exact ⟨by first | rfl | (simp [zCe, zCd] <;> rfl) | (simp [*, zCe, zCd] <;> rfl), by repeat (first | (with_reducible first | exact HB.out | apply zAb | apply zAe | apply zAh | refine zB ?_ GE139.out | refine zB ?_ GE140.out) | exact HB.out)⟩
  ·rw [if_neg c6] at H
   have c6b0 : (t142 == 0) = false := beq_eq_false_iff_ne.mpr c6
   have c6b1 : (t142 != 0) = true := bne_iff_ne.mpr c6
   obtain rfl := Option.some.inj H
   go_enter Tryz.func43, Tryz.ntmps43
   go_wp2_with (first | ((with_reducible refine zDe (N := 2) rfl ?_); refine zCh ?hg (N := 2) ?hd (cs := #[.string a0_0, .string a0_1, .string a0_2, .int .u64 a0_3]) (t := 46) ?hr ?_; (case hd => rfl); (case hg => rfl); (case hr => first | (go_simp; done) | (go_simp; rfl)); intro gb139 hg w31 hbox hb; have n0_ := zAa.mk (zCa (by repeat (first | (with_reducible first | exact HB.out | apply zAb | apply zAe | apply zAh) | exact HB.out)) hb); have n1_ := zAa.mk (hbox); have n2_ := zAa.mk ((by rw [hg]; exact (zBa (by repeat (first | (with_reducible first | exact HB.out | apply zAb | apply zAe | apply zAh) | exact HB.out))) : w.heap.size ≤ gb139)); have n3_ := zAa.mk ((by rw [hg]; exact (zBa (by repeat (first | (with_reducible first | exact HB.out | apply zAb | apply zAe | apply zAh) | exact HB.out))) : w.heap.size ≤ gb139)); clear HB; have HB := n0_; have BK139 := n1_; have GW139 := n2_; have GE139 := n3_; clear n0_ n1_ n2_ n3_; clear hb hbox hg) | ((with_reducible refine zDe (N := 3) rfl ?_); refine zCh ?hg (N := 3) ?hd (cs := #[.string a1_0, .string a1_1, .string a1_2, .int .u64 a1_3]) (t := 46) ?hr ?_; (case hd => rfl); (case hg => rfl); (case hr => first | (go_simp; done) | (go_simp; rfl)); intro gb140 hg w32 hbox hb; have n0_ := zAa.mk (zAf (g := gb139) (o := .cells #[.string a0_0, .string a0_1, .string a0_2, .int .u64 a0_3] 46 (0, 0)) (by (with_reducible repeat (first | refine zBf ?_ _ | refine zBg ?_ | refine zAi ?_ _)); exact BK139.out) hb); have n1_ := zAa.mk (zCa (by repeat (first | (with_reducible first | exact HB.out | apply zAb | apply zAe | apply zAh | refine zB ?_ GE139.out) | exact HB.out)) hb); have n2_ := zAa.mk (hbox); have n3_ := zAa.mk ((by rw [hg]; exact (zBa (by repeat (first | (with_reducible first | exact HB.out | apply zAb | apply zAe | apply zAh | refine zB ?_ GE139.out) | exact HB.out))) : w.heap.size ≤ gb140)); have n4_ := zAa.mk ((by rw [hg]; exact (zBa (by repeat (first | (with_reducible first | exact HB.out | apply zAb | apply zAe | apply zAh | refine zB ?_ GE139.out) | exact HB.out))) : w.heap.size ≤ gb140)); have n5_ := zAa.mk ((by rw [hg]; exact Nat.ne_of_lt (zAj (g := gb139) (o := .cells #[.string a0_0, .string a0_1, .string a0_2, .int .u64 a0_3] 46 (0, 0)) (by (with_reducible repeat (first | refine zBf ?_ _ | refine zBg ?_ | refine zAi ?_ _)); exact BK139.out)) : gb139 ≠ gb140)); have n6_ := zAa.mk ((by rw [hg]; exact Nat.ne_of_gt (zAj (g := gb139) (o := .cells #[.string a0_0, .string a0_1, .string a0_2, .int .u64 a0_3] 46 (0, 0)) (by (with_reducible repeat (first | refine zBf ?_ _ | refine zBg ?_ | refine zAi ?_ _)); exact BK139.out)) : gb140 ≠ gb139)); clear BK139; clear HB; have BK139 := n0_; have HB := n1_; have BK140 := n2_; have GW140 := n3_; have GE140 := n4_; have NB139_140 := n5_; have NB140_139 := n6_; clear n0_ n1_ n2_ n3_ n4_ n5_ n6_; clear hb hbox hg; have hnb33 := NB139_140.out; have hnc33 := NB140_139.out; have hcz34_0 : w32.cell? ⟨gb139, 0, none⟩ = some (.string a0_0) := (zAc BK139.out 0).trans rfl; have hcz34_1 : w32.cell? ⟨gb139, 1, none⟩ = some (.string a0_1) := (zAc BK139.out 1).trans rfl; have hcz34_2 : w32.cell? ⟨gb139, 2, none⟩ = some (.string a0_2) := (zAc BK139.out 2).trans rfl; have hcz34_3 : w32.cell? ⟨gb139, 3, none⟩ = some (.int .u64 a0_3) := (zAc BK139.out 3).trans rfl; have hfz34_0 := zAd BK139.out 0; have hfz34_1 := zAd BK139.out 1; have hfz34_2 := zAd BK139.out 2; have hfz34_3 := zAd BK139.out 3; have hcz35_0 : w32.cell? ⟨gb140, 0, none⟩ = some (.string a1_0) := (zAc BK140.out 0).trans rfl; have hcz35_1 : w32.cell? ⟨gb140, 1, none⟩ = some (.string a1_1) := (zAc BK140.out 1).trans rfl; have hcz35_2 : w32.cell? ⟨gb140, 2, none⟩ = some (.string a1_2) := (zAc BK140.out 2).trans rfl; have hcz35_3 : w32.cell? ⟨gb140, 3, none⟩ = some (.int .u64 a1_3) := (zAc BK140.out 3).trans rfl; have hfz35_0 := zAd BK140.out 0; have hfz35_1 := zAd BK140.out 1; have hfz35_2 := zAd BK140.out 2; have hfz35_3 := zAd BK140.out 3) | ((with_reducible refine zCi (f := 55) rfl ?_); refine zGb (some 12) rfl rfl Tryz.func55 (by kernel_rfl) rfl #[.string a0_0, .string a1_0] rfl (by (try simp only [List.map_toArray, List.map_cons, List.map_nil]); first | done | rfl | (simp only [List.length_drop, List.length_take]; rfl)) ?_; (with_reducible refine (bulwarkref04_Text.calls k a0_0 a1_0 t141 _ A3.out).mono ?_); rintro e w' ⟨rfl, ⟨nd, rfl⟩⟩; refine ⟨_, rfl, ?_⟩) | ((with_reducible refine zCi (f := 55) rfl ?_); refine zGb (some 20) rfl rfl Tryz.func55 (by kernel_rfl) rfl #[.string a0_1, .string a1_1] rfl (by (try simp only [List.map_toArray, List.map_cons, List.map_nil]); first | done | rfl | (simp only [List.length_drop, List.length_take]; rfl)) ?_; (with_reducible refine (bulwarkref04_Text.calls k a0_1 a1_1 t142 _ A5.out).mono ?_); rintro e w' ⟨rfl, ⟨nd, rfl⟩⟩; refine ⟨_, rfl, ?_⟩))
   go_ret
   exact ⟨by first | rfl | (simp [zCe, zCd] <;> rfl) | (simp [*, zCe, zCd] <;> rfl), by repeat (first | (with_reducible first | exact HB.out | apply zAb | apply zAe | apply zAh | refine zB ?_ GE139.out | refine zB ?_ GE140.out) | exact HB.out)⟩
 ·rw [if_neg c4] at H
  have c4b0 : (t141 == 0) = false := beq_eq_false_iff_ne.mpr c4
  have c4b1 : (t141 != 0) = true := bne_iff_ne.mpr c4
  obtain rfl := Option.some.inj H
  go_enter Tryz.func43, Tryz.ntmps43
  go_wp2_with (first | ((with_reducible refine zDe (N := 2) rfl ?_); refine zCh ?hg (N := 2) ?hd (cs := #[.string a0_0, .string a0_1, .string a0_2, .int .u64 a0_3]) (t := 46) ?hr ?_; (case hd => rfl); (case hg => rfl); (case hr => first | (go_simp; done) | (go_simp; rfl)); intro gb139 hg w36 hbox hb; have n0_ := zAa.mk (zCa (by repeat (first | (with_reducible first | exact HB.out | apply zAb | apply zAe | apply zAh) | exact HB.out)) hb); have n1_ := zAa.mk (hbox); have n2_ := zAa.mk ((by rw [hg]; exact (zBa (by repeat (first | (with_reducible first | exact HB.out | apply zAb | apply zAe | apply zAh) | exact HB.out))) : w.heap.size ≤ gb139)); have n3_ := zAa.mk ((by rw [hg]; exact (zBa (by repeat (first | (with_reducible first | exact HB.out | apply zAb | apply zAe | apply zAh) | exact HB.out))) : w.heap.size ≤ gb139)); clear HB; have HB := n0_; have BK139 := n1_; have GW139 := n2_; have GE139 := n3_; clear n0_ n1_ n2_ n3_; clear hb hbox hg) | ((with_reducible refine zDe (N := 3) rfl ?_); refine zCh ?hg (N := 3) ?hd (cs := #[.string a1_0, .string a1_1, .string a1_2, .int .u64 a1_3]) (t := 46) ?hr ?_; (case hd => rfl); (case hg => rfl); (case hr => first | (go_simp; done) | (go_simp; rfl)); intro gb140 hg w37 hbox hb; have n0_ := zAa.mk (zAf (g := gb139) (o := .cells #[.string a0_0, .string a0_1, .string a0_2, .int .u64 a0_3] 46 (0, 0)) (by (with_reducible repeat (first | refine zBf ?_ _ | refine zBg ?_ | refine zAi ?_ _)); exact BK139.out) hb); have n1_ := zAa.mk (zCa (by repeat (first | (with_reducible first | exact HB.out | apply zAb | apply zAe | apply zAh | refine zB ?_ GE139.out) | exact HB.out)) hb); have n2_ := zAa.mk (hbox); have n3_ := zAa.mk ((by rw [hg]; exact (zBa (by repeat (first | (with_reducible first | exact HB.out | apply zAb | apply zAe | apply zAh | refine zB ?_ GE139.out) | exact HB.out))) : w.heap.size ≤ gb140)); have n4_ := zAa.mk ((by rw [hg]; exact (zBa (by repeat (first | (with_reducible first | exact HB.out | apply zAb | apply zAe | apply zAh | refine zB ?_ GE139.out) | exact HB.out))) : w.heap.size ≤ gb140)); have n5_ := zAa.mk ((by rw [hg]; exact Nat.ne_of_lt (zAj (g := gb139) (o := .cells #[.string a0_0, .string a0_1, .string a0_2, .int .u64 a0_3] 46 (0, 0)) (by (with_reducible repeat (first | refine zBf ?_ _ | refine zBg ?_ | refine zAi ?_ _)); exact BK139.out)) : gb139 ≠ gb140)); have n6_ := zAa.mk ((by rw [hg]; exact Nat.ne_of_gt (zAj (g := gb139) (o := .cells #[.string a0_0, .string a0_1, .string a0_2, .int .u64 a0_3] 46 (0, 0)) (by (with_reducible repeat (first | refine zBf ?_ _ | refine zBg ?_ | refine zAi ?_ _)); exact BK139.out)) : gb140 ≠ gb139)); clear BK139; clear HB; have BK139 := n0_; have HB := n1_; have BK140 := n2_; have GW140 := n3_; have GE140 := n4_; have NB139_140 := n5_; have NB140_139 := n6_; clear n0_ n1_ n2_ n3_ n4_ n5_ n6_; clear hb hbox hg; have hnb38 := NB139_140.out; have hnc38 := NB140_139.out; have hcz39_0 : w37.cell? ⟨gb139, 0, none⟩ = some (.string a0_0) := (zAc BK139.out 0).trans rfl; have hcz39_1 : w37.cell? ⟨gb139, 1, none⟩ = some (.string a0_1) := (zAc BK139.out 1).trans rfl; have hcz39_2 : w37.cell? ⟨gb139, 2, none⟩ = some (.string a0_2) := (zAc BK139.out 2).trans rfl; have hcz39_3 : w37.cell? ⟨gb139, 3, none⟩ = some (.int .u64 a0_3) := (zAc BK139.out 3).trans rfl; have hfz39_0 := zAd BK139.out 0; have hfz39_1 := zAd BK139.out 1; have hfz39_2 := zAd BK139.out 2; have hfz39_3 := zAd BK139.out 3; have hcz40_0 : w37.cell? ⟨gb140, 0, none⟩ = some (.string a1_0) := (zAc BK140.out 0).trans rfl; have hcz40_1 : w37.cell? ⟨gb140, 1, none⟩ = some (.string a1_1) := (zAc BK140.out 1).trans rfl; have hcz40_2 : w37.cell? ⟨gb140, 2, none⟩ = some (.string a1_2) := (zAc BK140.out 2).trans rfl; have hcz40_3 : w37.cell? ⟨gb140, 3, none⟩ = some (.int .u64 a1_3) := (zAc BK140.out 3).trans rfl; have hfz40_0 := zAd BK140.out 0; have hfz40_1 := zAd BK140.out 1; have hfz40_2 := zAd BK140.out 2; have hfz40_3 := zAd BK140.out 3) | ((with_reducible refine zCi (f := 55) rfl ?_); refine zGb (some 12) rfl rfl Tryz.func55 (by kernel_rfl) rfl #[.string a0_0, .string a1_0] rfl (by (try simp only [List.map_toArray, List.map_cons, List.map_nil]); first | done | rfl | (simp only [List.length_drop, List.length_take]; rfl)) ?_; (with_reducible refine (bulwarkref04_Text.calls k a0_0 a1_0 t141 _ A3.out).mono ?_); rintro e w' ⟨rfl, ⟨nd, rfl⟩⟩; refine ⟨_, rfl, ?_⟩))
  go_ret
  exact ⟨by first | rfl | (simp [zCe, zCd] <;> rfl) | (simp [*, zCe, zCd] <;> rfl), by repeat (first | (with_reducible first | exact HB.out | apply zAb | apply zAe | apply zAh | refine zB ?_ GE139.out | refine zB ?_ GE140.out) | exact HB.out)⟩
def bulwarkref04_Column.f (a0_0 : ByteArray) (a0_1 : ByteArray) (a0_2 : ByteArray) (a0_3 : Int) (a1_0 : ByteArray) (a1_1 : ByteArray) (a1_2 : ByteArray) (a1_3 : Int) : Option (Bool) := if a0_0.toList = a1_0.toList then (if a0_1.toList = a1_1.toList then (some (a0_2.toList == a1_2.toList)) else (some false)) else (some false)
set_option maxHeartbeats 8000000 in
set_option maxRecDepth 100000 in
theorem bulwarkref04_Column.calls (a0_0 : ByteArray) (a0_1 : ByteArray) (a0_2 : ByteArray) (a0_3 : Int) (a1_0 : ByteArray) (a1_1 : ByteArray) (a1_2 : ByteArray) (a1_3 : Int) (r : Bool) (w : World) (h : bulwarkref04_Column.f a0_0 a0_1 a0_2 a0_3 a1_0 a1_1 a1_2 a1_3 = some r) :
  Calls Tryz.prog 44 #[.agg #[.string a0_0, .string a0_1, .string a0_2, .int .u64 a0_3], .agg #[.string a1_0, .string a1_1, .string a1_2, .int .u64 a1_3]] w fun e w' => e = .returned (.bool r) ∧ Below w.heap.size w w' := by
 have hu46 := Tryz.underlying46
 have HB := zAa.mk (Below.refl w.heap.size w)
 have H : (if a0_0.toList = a1_0.toList then (if a0_1.toList = a1_1.toList then (some (a0_2.toList == a1_2.toList)) else (some false)) else (some false)) = some r := h
 clear h
 by_cases c3 : a0_0.toList = a1_0.toList
 ·rw [if_pos c3] at H
  have c3b0 : (a0_0.toList == a1_0.toList) = true := beq_iff_eq.mpr c3
  have c3b1 : (a0_0.toList != a1_0.toList) = false := bne_eq_false_iff_eq.mpr c3
  clear c3
  by_cases c4 : a0_1.toList = a1_1.toList
  ·rw [if_pos c4] at H
   have c4b0 : (a0_1.toList == a1_1.toList) = true := beq_iff_eq.mpr c4
   have c4b1 : (a0_1.toList != a1_1.toList) = false := bne_eq_false_iff_eq.mpr c4
   clear c4
   obtain rfl := Option.some.inj H
   go_enter Tryz.func44, Tryz.ntmps44
   go_wp2_with (first | ((with_reducible refine zDe (N := 2) rfl ?_); refine zCh ?hg (N := 2) ?hd (cs := #[.string a0_0, .string a0_1, .string a0_2, .int .u64 a0_3]) (t := 46) ?hr ?_; (case hd => rfl); (case hg => rfl); (case hr => first | (go_simp; done) | (go_simp; rfl)); intro gb289 hg w5 hbox hb; have n0_ := zAa.mk (zCa (by repeat (first | (with_reducible first | exact HB.out | apply zAb | apply zAe | apply zAh) | exact HB.out)) hb); have n1_ := zAa.mk (hbox); have n2_ := zAa.mk ((by rw [hg]; exact (zBa (by repeat (first | (with_reducible first | exact HB.out | apply zAb | apply zAe | apply zAh) | exact HB.out))) : w.heap.size ≤ gb289)); have n3_ := zAa.mk ((by rw [hg]; exact (zBa (by repeat (first | (with_reducible first | exact HB.out | apply zAb | apply zAe | apply zAh) | exact HB.out))) : w.heap.size ≤ gb289)); clear HB; have HB := n0_; have BK289 := n1_; have GW289 := n2_; have GE289 := n3_; clear n0_ n1_ n2_ n3_; clear hb hbox hg) | ((with_reducible refine zDe (N := 3) rfl ?_); refine zCh ?hg (N := 3) ?hd (cs := #[.string a1_0, .string a1_1, .string a1_2, .int .u64 a1_3]) (t := 46) ?hr ?_; (case hd => rfl); (case hg => rfl); (case hr => first | (go_simp; done) | (go_simp; rfl)); intro gb290 hg w6 hbox hb; have n0_ := zAa.mk (zAf (g := gb289) (o := .cells #[.string a0_0, .string a0_1, .string a0_2, .int .u64 a0_3] 46 (0, 0)) (by (with_reducible repeat (first | refine zBf ?_ _ | refine zBg ?_ | refine zAi ?_ _)); exact BK289.out) hb); have n1_ := zAa.mk (zCa (by repeat (first | (with_reducible first | exact HB.out | apply zAb | apply zAe | apply zAh | refine zB ?_ GE289.out) | exact HB.out)) hb); have n2_ := zAa.mk (hbox); have n3_ := zAa.mk ((by rw [hg]; exact (zBa (by repeat (first | (with_reducible first | exact HB.out | apply zAb | apply zAe | apply zAh | refine zB ?_ GE289.out) | exact HB.out))) : w.heap.size ≤ gb290)); have n4_ := zAa.mk ((by rw [hg]; exact (zBa (by repeat (first | (with_reducible first | exact HB.out | apply zAb | apply zAe | apply zAh | refine zB ?_ GE289.out) | exact HB.out))) : w.heap.size ≤ gb290)); have n5_ := zAa.mk ((by rw [hg]; exact Nat.ne_of_lt (zAj (g := gb289) (o := .cells #[.string a0_0, .string a0_1, .string a0_2, .int .u64 a0_3] 46 (0, 0)) (by (with_reducible repeat (first | refine zBf ?_ _ | refine zBg ?_ | refine zAi ?_ _)); exact BK289.out)) : gb289 ≠ gb290)); have n6_ := zAa.mk ((by rw [hg]; exact Nat.ne_of_gt (zAj (g := gb289) (o := .cells #[.string a0_0, .string a0_1, .string a0_2, .int .u64 a0_3] 46 (0, 0)) (by (with_reducible repeat (first | refine zBf ?_ _ | refine zBg ?_ | refine zAi ?_ _)); exact BK289.out)) : gb290 ≠ gb289)); clear BK289; clear HB; have BK289 := n0_; have HB := n1_; have BK290 := n2_; have GW290 := n3_; have GE290 := n4_; have NB289_290 := n5_; have NB290_289 := n6_; clear n0_ n1_ n2_ n3_ n4_ n5_ n6_; clear hb hbox hg; have hnb7 := NB289_290.out; have hnc7 := NB290_289.out; have hcz8_0 : w6.cell? ⟨gb289, 0, none⟩ = some (.string a0_0) := (zAc BK289.out 0).trans rfl; have hcz8_1 : w6.cell? ⟨gb289, 1, none⟩ = some (.string a0_1) := (zAc BK289.out 1).trans rfl; have hcz8_2 : w6.cell? ⟨gb289, 2, none⟩ = some (.string a0_2) := (zAc BK289.out 2).trans rfl; have hcz8_3 : w6.cell? ⟨gb289, 3, none⟩ = some (.int .u64 a0_3) := (zAc BK289.out 3).trans rfl; have hfz8_0 := zAd BK289.out 0; have hfz8_1 := zAd BK289.out 1; have hfz8_2 := zAd BK289.out 2; have hfz8_3 := zAd BK289.out 3; have hcz9_0 : w6.cell? ⟨gb290, 0, none⟩ = some (.string a1_0) := (zAc BK290.out 0).trans rfl; have hcz9_1 : w6.cell? ⟨gb290, 1, none⟩ = some (.string a1_1) := (zAc BK290.out 1).trans rfl; have hcz9_2 : w6.cell? ⟨gb290, 2, none⟩ = some (.string a1_2) := (zAc BK290.out 2).trans rfl; have hcz9_3 : w6.cell? ⟨gb290, 3, none⟩ = some (.int .u64 a1_3) := (zAc BK290.out 3).trans rfl; have hfz9_0 := zAd BK290.out 0; have hfz9_1 := zAd BK290.out 1; have hfz9_2 := zAd BK290.out 2; have hfz9_3 := zAd BK290.out 3))
   go_ret
   exact ⟨by first | rfl | (simp [zCe, zCd] <;> rfl) | (simp [*, zCe, zCd] <;> rfl), by repeat (first | (with_reducible first | exact HB.out | apply zAb | apply zAe | apply zAh | refine zB ?_ GE289.out | refine zB ?_ GE290.out) | exact HB.out)⟩
  ·rw [if_neg c4] at H
   have c4b0 : (a0_1.toList == a1_1.toList) = false := beq_eq_false_iff_ne.mpr c4
   have c4b1 : (a0_1.toList != a1_1.toList) = true := bne_iff_ne.mpr c4
   obtain rfl := Option.some.inj H
   go_enter Tryz.func44, Tryz.ntmps44
   go_wp2_with (first | ((with_reducible refine zDe (N := 2) rfl ?_); refine zCh ?hg (N := 2) ?hd (cs := #[.string a0_0, .string a0_1, .string a0_2, .int .u64 a0_3]) (t := 46) ?hr ?_; (case hd => rfl); (case hg => rfl); (case hr => first | (go_simp; done) | (go_simp; rfl)); intro gb289 hg w10 hbox hb; have n0_ := zAa.mk (zCa (by repeat (first | (with_reducible first | exact HB.out | apply zAb | apply zAe | apply zAh) | exact HB.out)) hb); have n1_ := zAa.mk (hbox); have n2_ := zAa.mk ((by rw [hg]; exact (zBa (by repeat (first | (with_reducible first | exact HB.out | apply zAb | apply zAe | apply zAh) | exact HB.out))) : w.heap.size ≤ gb289)); have n3_ := zAa.mk ((by rw [hg]; exact (zBa (by repeat (first | (with_reducible first | exact HB.out | apply zAb | apply zAe | apply zAh) | exact HB.out))) : w.heap.size ≤ gb289)); clear HB; have HB := n0_; have BK289 := n1_; have GW289 := n2_; have GE289 := n3_; clear n0_ n1_ n2_ n3_; clear hb hbox hg) | ((with_reducible refine zDe (N := 3) rfl ?_); refine zCh ?hg (N := 3) ?hd (cs := #[.string a1_0, .string a1_1, .string a1_2, .int .u64 a1_3]) (t := 46) ?hr ?_; (case hd => rfl); (case hg => rfl); (case hr => first | (go_simp; done) | (go_simp; rfl)); intro gb290 hg w11 hbox hb; have n0_ := zAa.mk (zAf (g := gb289) (o := .cells #[.string a0_0, .string a0_1, .string a0_2, .int .u64 a0_3] 46 (0, 0)) (by (with_reducible repeat (first | refine zBf ?_ _ | refine zBg ?_ | refine zAi ?_ _)); exact BK289.out) hb); have n1_ := zAa.mk (zCa (by repeat (first | (with_reducible first | exact HB.out | apply zAb | apply zAe | apply zAh | refine zB ?_ GE289.out) | exact HB.out)) hb); have n2_ := zAa.mk (hbox); have n3_ := zAa.mk ((by rw [hg]; exact (zBa (by repeat (first | (with_reducible first | exact HB.out | apply zAb | apply zAe | apply zAh | refine zB ?_ GE289.out) | exact HB.out))) : w.heap.size ≤ gb290)); have n4_ := zAa.mk ((by rw [hg]; exact (zBa (by repeat (first | (with_reducible first | exact HB.out | apply zAb | apply zAe | apply zAh | refine zB ?_ GE289.out) | exact HB.out))) : w.heap.size ≤ gb290)); have n5_ := zAa.mk ((by rw [hg]; exact Nat.ne_of_lt (zAj (g := gb289) (o := .cells #[.string a0_0, .string a0_1, .string a0_2, .int .u64 a0_3] 46 (0, 0)) (by (with_reducible repeat (first | refine zBf ?_ _ | refine zBg ?_ | refine zAi ?_ _)); exact BK289.out)) : gb289 ≠ gb290)); have n6_ := zAa.mk ((by rw [hg]; exact Nat.ne_of_gt (zAj (g := gb289) (o := .cells #[.string a0_0, .string a0_1, .string a0_2, .int .u64 a0_3] 46 (0, 0)) (by (with_reducible repeat (first | refine zBf ?_ _ | refine zBg ?_ | refine zAi ?_ _)); exact BK289.out)) : gb290 ≠ gb289)); clear BK289; clear HB; have BK289 := n0_; have HB := n1_; have BK290 := n2_; have GW290 := n3_; have GE290 := n4_; have NB289_290 := n5_; have NB290_289 := n6_; clear n0_ n1_ n2_ n3_ n4_ n5_ n6_; clear hb hbox hg; have hnb12 := NB289_290.out; have hnc12 := NB290_289.out; have hcz13_0 : w11.cell? ⟨gb289, 0, none⟩ = some (.string a0_0) := (zAc BK289.out 0).trans rfl; have hcz13_1 : w11.cell? ⟨gb289, 1, none⟩ = some (.string a0_1) := (zAc BK289.out 1).trans rfl; have hcz13_2 : w11.cell? ⟨gb289, 2, none⟩ = some (.string a0_2) := (zAc BK289.out 2).trans rfl; have hcz13_3 : w11.cell? ⟨gb289, 3, none⟩ = some (.int .u64 a0_3) := (zAc BK289.out 3).trans rfl; have hfz13_0 := zAd BK289.out 0; have hfz13_1 := zAd BK289.out 1; have hfz13_2 := zAd BK289.out 2; have hfz13_3 := zAd BK289.out 3; have hcz14_0 : w11.cell? ⟨gb290, 0, none⟩ = some (.string a1_0) := (zAc BK290.out 0).trans rfl; have hcz14_1 : w11.cell? ⟨gb290, 1, none⟩ = some (.string a1_1) := (zAc BK290.out 1).trans rfl; have hcz14_2 : w11.cell? ⟨gb290, 2, none⟩ = some (.string a1_2) := (zAc BK290.out 2).trans rfl; have hcz14_3 : w11.cell? ⟨gb290, 3, none⟩ = some (.int .u64 a1_3) := (zAc BK290.out 3).trans rfl; have hfz14_0 := zAd BK290.out 0; have hfz14_1 := zAd BK290.out 1; have hfz14_2 := zAd BK290.out 2; have hfz14_3 := zAd BK290.out 3))
   go_ret
   exact ⟨by first | rfl | (simp [zCe, zCd] <;> rfl) | (simp [*, zCe, zCd] <;> rfl), by repeat (first | (with_reducible first | exact HB.out | apply zAb | apply zAe | apply zAh | refine zB ?_ GE289.out | refine zB ?_ GE290.out) | exact HB.out)⟩
 ·rw [if_neg c3] at H
  have c3b0 : (a0_0.toList == a1_0.toList) = false := beq_eq_false_iff_ne.mpr c3
  have c3b1 : (a0_0.toList != a1_0.toList) = true := bne_iff_ne.mpr c3
  obtain rfl := Option.some.inj H
  go_enter Tryz.func44, Tryz.ntmps44
  go_wp2_with (first | ((with_reducible refine zDe (N := 2) rfl ?_); refine zCh ?hg (N := 2) ?hd (cs := #[.string a0_0, .string a0_1, .string a0_2, .int .u64 a0_3]) (t := 46) ?hr ?_; (case hd => rfl); (case hg => rfl); (case hr => first | (go_simp; done) | (go_simp; rfl)); intro gb289 hg w15 hbox hb; have n0_ := zAa.mk (zCa (by repeat (first | (with_reducible first | exact HB.out | apply zAb | apply zAe | apply zAh) | exact HB.out)) hb); have n1_ := zAa.mk (hbox); have n2_ := zAa.mk ((by rw [hg]; exact (zBa (by repeat (first | (with_reducible first | exact HB.out | apply zAb | apply zAe | apply zAh) | exact HB.out))) : w.heap.size ≤ gb289)); have n3_ := zAa.mk ((by rw [hg]; exact (zBa (by repeat (first | (with_reducible first | exact HB.out | apply zAb | apply zAe | apply zAh) | exact HB.out))) : w.heap.size ≤ gb289)); clear HB; have HB := n0_; have BK289 := n1_; have GW289 := n2_; have GE289 := n3_; clear n0_ n1_ n2_ n3_; clear hb hbox hg) | ((with_reducible refine zDe (N := 3) rfl ?_); refine zCh ?hg (N := 3) ?hd (cs := #[.string a1_0, .string a1_1, .string a1_2, .int .u64 a1_3]) (t := 46) ?hr ?_; (case hd => rfl); (case hg => rfl); (case hr => first | (go_simp; done) | (go_simp; rfl)); intro gb290 hg w16 hbox hb; have n0_ := zAa.mk (zAf (g := gb289) (o := .cells #[.string a0_0, .string a0_1, .string a0_2, .int .u64 a0_3] 46 (0, 0)) (by (with_reducible repeat (first | refine zBf ?_ _ | refine zBg ?_ | refine zAi ?_ _)); exact BK289.out) hb); have n1_ := zAa.mk (zCa (by repeat (first | (with_reducible first | exact HB.out | apply zAb | apply zAe | apply zAh | refine zB ?_ GE289.out) | exact HB.out)) hb); have n2_ := zAa.mk (hbox); have n3_ := zAa.mk ((by rw [hg]; exact (zBa (by repeat (first | (with_reducible first | exact HB.out | apply zAb | apply zAe | apply zAh | refine zB ?_ GE289.out) | exact HB.out))) : w.heap.size ≤ gb290)); have n4_ := zAa.mk ((by rw [hg]; exact (zBa (by repeat (first | (with_reducible first | exact HB.out | apply zAb | apply zAe | apply zAh | refine zB ?_ GE289.out) | exact HB.out))) : w.heap.size ≤ gb290)); have n5_ := zAa.mk ((by rw [hg]; exact Nat.ne_of_lt (zAj (g := gb289) (o := .cells #[.string a0_0, .string a0_1, .string a0_2, .int .u64 a0_3] 46 (0, 0)) (by (with_reducible repeat (first | refine zBf ?_ _ | refine zBg ?_ | refine zAi ?_ _)); exact BK289.out)) : gb289 ≠ gb290)); have n6_ := zAa.mk ((by rw [hg]; exact Nat.ne_of_gt (zAj (g := gb289) (o := .cells #[.string a0_0, .string a0_1, .string a0_2, .int .u64 a0_3] 46 (0, 0)) (by (with_reducible repeat (first | refine zBf ?_ _ | refine zBg ?_ | refine zAi ?_ _)); exact BK289.out)) : gb290 ≠ gb289)); clear BK289; clear HB; have BK289 := n0_; have HB := n1_; have BK290 := n2_; have GW290 := n3_; have GE290 := n4_; have NB289_290 := n5_; have NB290_289 := n6_; clear n0_ n1_ n2_ n3_ n4_ n5_ n6_; clear hb hbox hg; have hnb17 := NB289_290.out; have hnc17 := NB290_289.out; have hcz18_0 : w16.cell? ⟨gb289, 0, none⟩ = some (.string a0_0) := (zAc BK289.out 0).trans rfl; have hcz18_1 : w16.cell? ⟨gb289, 1, none⟩ = some (.string a0_1) := (zAc BK289.out 1).trans rfl; have hcz18_2 : w16.cell? ⟨gb289, 2, none⟩ = some (.string a0_2) := (zAc BK289.out 2).trans rfl; have hcz18_3 : w16.cell? ⟨gb289, 3, none⟩ = some (.int .u64 a0_3) := (zAc BK289.out 3).trans rfl; have hfz18_0 := zAd BK289.out 0; have hfz18_1 := zAd BK289.out 1; have hfz18_2 := zAd BK289.out 2; have hfz18_3 := zAd BK289.out 3; have hcz19_0 : w16.cell? ⟨gb290, 0, none⟩ = some (.string a1_0) := (zAc BK290.out 0).trans rfl; have hcz19_1 : w16.cell? ⟨gb290, 1, none⟩ = some (.string a1_1) := (zAc BK290.out 1).trans rfl; have hcz19_2 : w16.cell? ⟨gb290, 2, none⟩ = some (.string a1_2) := (zAc BK290.out 2).trans rfl; have hcz19_3 : w16.cell? ⟨gb290, 3, none⟩ = some (.int .u64 a1_3) := (zAc BK290.out 3).trans rfl; have hfz19_0 := zAd BK290.out 0; have hfz19_1 := zAd BK290.out 1; have hfz19_2 := zAd BK290.out 2; have hfz19_3 := zAd BK290.out 3))
  go_ret
  exact ⟨by first | rfl | (simp [zCe, zCd] <;> rfl) | (simp [*, zCe, zCd] <;> rfl), by repeat (first | (with_reducible first | exact HB.out | apply zAb | apply zAe | apply zAh | refine zB ?_ GE289.out | refine zB ?_ GE290.out) | exact HB.out)⟩
end Go.Proofs.YtpckachmleonlaaGreatDoor.PSplitCuts
end
