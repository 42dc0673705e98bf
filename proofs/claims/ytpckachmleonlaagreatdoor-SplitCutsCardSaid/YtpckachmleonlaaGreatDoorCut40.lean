/- Words and walks for Split and Tablet: texts of these sessions, and of the kit's print, cut down to what is used (PSplitCutsx4). -/
import Derived.Test.YtpckachmleonlaaGreatDoorCut4
import Derived.Test.YtpckachmleonlaaGreatDoorCut6
section
namespace Go.Proofs.YtpckachmleonlaaGreatDoor.PSplitCuts
open Go.RowKit Go.Proofs.YtpckachmleonlaaGreatDoorW.PrintWords Go.Proofs.YtpckachmleonlaaGreatDoorW.PrintLast Go.Proofs.YtpckachmleonlaaGreatDoorW.PrintMore
attribute [local go_sem] max2_int min2_int max_two min_two max_three min_three max_four min_four
set_option linter.unusedVariables false
set_option linter.unusedSimpArgs false
mutual
def bulwarkref11_Split.j0 : Nat → ByteArray → Bool → ByteArray → ByteArray → List (S49) → Option (ByteArray × ByteArray × (List (S49)) × ByteArray × ByteArray × (List (S49)) × Int)
 | 0, _, _, _, _, _ => none
 | k + 1, x1, x17, x342000, x342001, x342002 => if x17 = true then (some ((⟨#[]⟩ : ByteArray), (⟨#[]⟩ : ByteArray), ([] : List (S49)), (⟨#[]⟩ : ByteArray), (⟨#[]⟩ : ByteArray), ([] : List (S49)), 1)) else ((bulwarkref04_Text.f k x342000 x1).bind fun t344 => (if t344 ≥ 0 then (bulwarkref11_Split.j1 k x1 true x342000 x342001 x342002) else (if x342001.toList = ([] : List UInt8) then (bulwarkref11_Split.j1 k x1 false x342000 x342001 x342002) else ((bulwarkref04_Text.f k x1 x342001).bind fun t345 => (bulwarkref11_Split.j1 k x1 (decide (t345 ≥ 0)) x342000 x342001 x342002)))))
def bulwarkref11_Split.j1 : Nat → ByteArray → Bool → ByteArray → ByteArray → List (S49) → Option (ByteArray × ByteArray × (List (S49)) × ByteArray × ByteArray × (List (S49)) × Int)
 | 0, _, _, _, _, _ => none
 | k + 1, x1, x36, x342000, x342001, x342002 => if x36 = true then (some ((⟨#[]⟩ : ByteArray), (⟨#[]⟩ : ByteArray), ([] : List (S49)), (⟨#[]⟩ : ByteArray), (⟨#[]⟩ : ByteArray), ([] : List (S49)), 8)) else (bulwarkref11_Split.l0 k 0 x342000 x342001 x342002 x342000 x1 ([] : List (S49)) x1 x342001 ([] : List (S49)))
def bulwarkref11_Split.l0 : Nat → Int → ByteArray → ByteArray → List (S49) → ByteArray → ByteArray → List (S49) → ByteArray → ByteArray → List (S49) → Option (ByteArray × ByteArray × (List (S49)) × ByteArray × ByteArray × (List (S49)) × Int)
 | 0, _, _, _, _, _, _, _, _, _, _ => none
 | k + 1, x9, x342000, x342001, x342002, x347000, x347001, x347002, x348000, x348001, x348002 => if x9 < (x342002.length : Int) then (if 0 ≤ x9 then ((bulwarkref10_Tablet_Inside.f k x347000 x347001 x347002 ((zB x342002 x9).f0.f0)).bind fun t349 => (if t349 = true then (if x347002.length < 1599289640401 then (bulwarkref11_Split.l0 k (wrap64 (x9 + 1)) x342000 x342001 x342002 x347000 x347001 (x347002 ++ [(⟨(⟨(zB x342002 x9).f0.f0, (zB x342002 x9).f0.f1, (zB x342002 x9).f0.f2, (zB x342002 x9).f0.f3⟩ : S46), (zB x342002 x9).f1, (zB x342002 x9).f2⟩ : S49)]) x348000 x348001 x348002) else (none)) else (if x348002.length < 1599289640401 then (bulwarkref11_Split.l0 k (wrap64 (x9 + 1)) x342000 x342001 x342002 x347000 x347001 x347002 x348000 x348001 (x348002 ++ [(⟨(⟨(zB x342002 x9).f0.f0, (zB x342002 x9).f0.f1, (zB x342002 x9).f0.f2, (zB x342002 x9).f0.f3⟩ : S46), (zB x342002 x9).f1, (zB x342002 x9).f2⟩ : S49)])) else (none)))) else (none)) else (some (x347000, x347001, x347002, x348000, x348001, x348002, 0))
end
def bulwarkref11_Split.f (k : Nat) (a0_0 : ByteArray) (a0_1 : ByteArray) (l0_2 : List (S49)) (a1 : ByteArray) : Option (ByteArray × ByteArray × (List (S49)) × ByteArray × ByteArray × (List (S49)) × Int) := if (a1.size : Int) < 1 then (bulwarkref11_Split.j0 k a1 true a0_0 a0_1 l0_2) else (bulwarkref11_Split.j0 k a1 (decide ((a1.size : Int) > 32)) a0_0 a0_1 l0_2)
def bulwarkref11_Split.T10 : Bool × List (List Nat × List Nat) := (true, [([], []), ([], []), ([1], [1]), ([], []), ([2, 3], [2, 3]), ([4], [4]), ([5], [5]), ([6], [6]), ([0, 7], [0, 7])])
def bulwarkref11_Split.B10 : List Nat := [0, 0, 2, 0, 14, 30, 62, 126, 255]
theorem bulwarkref11_Split.tab10 : rtab .any (opsOf Tryz.f18 10) = bulwarkref11_Split.T10 := by kernel_rfl
theorem bulwarkref11_Split.bits10 : waitsOk bulwarkref11_Split.T10.2 bulwarkref11_Split.B10 = true := by kernel_rfl
def bulwarkref11_Split.T11 : Bool × List (List Nat × List Nat) := (true, [([], []), ([0], [0]), ([], []), ([2], [2]), ([], []), ([3, 4], [3, 4]), ([5], [5]), ([6], [6]), ([1, 7], [1, 7]), ([0, 1, 2, 3, 4, 5, 6, 7, 8], []), ([9, 8, 8, 0, 1, 2, 3, 4, 5, 6, 7, 8], [8, 9])])
def bulwarkref11_Split.B11 : List Nat := [0, 1, 0, 4, 0, 28, 60, 124, 255, 511, 1023]
theorem bulwarkref11_Split.tab11 : rtab .any (opsOf Tryz.f18 11) = bulwarkref11_Split.T11 := by kernel_rfl
theorem bulwarkref11_Split.bits11 : waitsOk bulwarkref11_Split.T11.2 bulwarkref11_Split.B11 = true := by kernel_rfl
def bulwarkref11_Split.T12 : Bool × List (List Nat × List Nat) := (true, [([], []), ([0], [0]), ([], []), ([2], [2]), ([], []), ([3, 4], [3, 4]), ([5], [5]), ([6], [6]), ([1, 7], [1, 7]), ([0, 1, 2, 3, 4, 5, 6, 7, 8], []), ([9, 8, 8, 0, 1, 2, 3, 4, 5, 6, 7, 8], [8, 9])])
def bulwarkref11_Split.B12 : List Nat := [0, 1, 0, 4, 0, 28, 60, 124, 255, 511, 1023]
theorem bulwarkref11_Split.tab12 : rtab .any (opsOf Tryz.f18 12) = bulwarkref11_Split.T12 := by kernel_rfl
theorem bulwarkref11_Split.bits12 : waitsOk bulwarkref11_Split.T12.2 bulwarkref11_Split.B12 = true := by kernel_rfl
set_option maxHeartbeats 8000000 in
set_option maxRecDepth 100000 in
theorem bulwarkref11_Split.calls (k : Nat) (a0_0 : ByteArray) (a0_1 : ByteArray) (P0_2_ : Nat → Prop) (A0_2 : Option Addr) (c0_2 : Nat) (l0_2 : List (S49)) (a1 : ByteArray) (r1 : ByteArray) (r2 : ByteArray) (r3 : List (S49)) (r4 : ByteArray) (r5 : ByteArray) (r6 : List (S49)) (r7 : Int) (w : World) (hs0_2 : Kd.V k49 49 w w.heap.size (fun k_ => P0_2_ k_) (.slice A0_2 l0_2.length c0_2) l0_2) (h : bulwarkref11_Split.f k a0_0 a0_1 l0_2 a1 = some (r1, r2, r3, r4, r5, r6, r7)) :
  Calls Tryz.prog 18 #[.agg #[.string a0_0, .string a0_1, .slice A0_2 l0_2.length c0_2], .string a1] w fun e w' => ∃ v2_ v5_ : Value, e = .returned (.tuple #[.agg #[.string r1, .string r2, v2_], .agg #[.string r4, .string r5, v5_], .int .i64 r7]) ∧ Kd.N k49 49 w' w.heap.size (fun k_ => (P0_2_ k_ ∨ w.heap.size ≤ k_) ∧ some k_ ≠ (v5_ : Value).ownBlock) v2_ r3 ∧ Kd.N k49 49 w' w.heap.size (fun k_ => (P0_2_ k_ ∨ w.heap.size ≤ k_) ∧ some k_ ≠ (v2_ : Value).ownBlock) v5_ r6 ∧ Below w.heap.size w w' := by
 have hu25 := Tryz.underlying25
 have hu49 := Tryz.underlying49
 have HO0_2 := zA.mk (show Kd.V k49 49 w w.heap.size (fun k_ => (P0_2_ k_ ∨ w.heap.size ≤ k_)) (.slice A0_2 l0_2.length c0_2) l0_2 from Kd.zFd hs0_2 (fun k_ hk => .inl hk))
 have HB := zA.mk (Below.refl w.heap.size w)
 have H : (if (a1.size : Int) < 1 then (bulwarkref11_Split.j0 k a1 true a0_0 a0_1 l0_2) else (bulwarkref11_Split.j0 k a1 (decide ((a1.size : Int) > 32)) a0_0 a0_1 l0_2)) = some (r1, r2, r3, r4, r5, r6, r7) := h
 clear h
 have HC3 := zA.mk H
 clear H
 go_enter Tryz.func18, Tryz.ntmps18
 go_upto_region 1 with (first | ((with_reducible refine zCc (N := 2) rfl ?_); (try (refine zCi (by rfl) ?_; dsimp only)); refine zBk ?hg (N := 2) ?hd (cs := #[.string a0_0, .string a0_1, .slice A0_2 l0_2.length c0_2]) (t := 25) ?hr ?_; (case hd => rfl); (case hg => rfl); (case hr => first | (go_simp; done) | (go_simp; rfl)); intro gb341 hg w4 hbox hb; have n0_ := zA.mk (Kd.V_below (Kd.V_elderB (by (with_reducible repeat (first | apply Kd.zDj | apply Kd.zDi | apply Kd.zDg)); exact HO0_2.out) gb341 (Nat.le_of_eq hg.symm)) hb); have n1_ := zA.mk (zBh (by repeat (first | (with_reducible first | exact HB.out | apply zAb | apply zAc | apply zAh) | exact HB.out)) hb); have n2_ := zA.mk (hbox); have n3_ := zA.mk ((by rw [hg]; exact (zBb (by repeat (first | (with_reducible first | exact HB.out | apply zAb | apply zAc | apply zAh) | exact HB.out))) : w.heap.size ≤ gb341)); have n4_ := zA.mk ((by rw [hg]; exact (zBb (by repeat (first | (with_reducible first | exact HB.out | apply zAb | apply zAc | apply zAh) | exact HB.out))) : w.heap.size ≤ gb341)); clear HO0_2; clear HB; have HO0_2 := n0_; have HB := n1_; have BK341 := n2_; have GW341 := n3_; have GE341 := n4_; clear n0_ n1_ n2_ n3_ n4_; clear hb hbox hg) | ((with_reducible refine zCc (N := 4) rfl ?_); (try (refine zCi (by rfl) ?_; dsimp only)); refine zBk ?hg (N := 4) ?hd (cs := #[.string (⟨#[]⟩ : ByteArray), .string (⟨#[]⟩ : ByteArray), .slice none 0 0]) (t := 25) ?hr ?_; (case hd => rfl); (case hg => rfl); (case hr => first | (go_simp; done) | (go_simp; rfl)); intro gb342 hg w5 hbox hb; have n0_ := zA.mk (Kd.V_below (Kd.V_elderB (by (with_reducible repeat (first | apply Kd.zDj | apply Kd.zDi | apply Kd.zDg)); exact HO0_2.out) gb342 (Nat.le_of_eq hg.symm)) hb); have n1_ := zA.mk (zAi (g := gb341) (o := .cells #[.string a0_0, .string a0_1, .slice A0_2 l0_2.length c0_2] 25 (0, 0)) (by (with_reducible repeat (first | refine zAf ?_ _ | refine zAg ?_ | refine zAe ?_ _)); exact BK341.out) hb); have n2_ := zA.mk (zBh (by repeat (first | (with_reducible first | exact HB.out | apply zAb | apply zAc | apply zAh | refine zAj ?_ GE341.out) | exact HB.out)) hb); have n3_ := zA.mk (hbox); have n4_ := zA.mk ((by rw [hg]; exact (zBb (by repeat (first | (with_reducible first | exact HB.out | apply zAb | apply zAc | apply zAh | refine zAj ?_ GE341.out) | exact HB.out))) : w.heap.size ≤ gb342)); have n5_ := zA.mk ((by rw [hg]; exact (zBb (by repeat (first | (with_reducible first | exact HB.out | apply zAb | apply zAc | apply zAh | refine zAj ?_ GE341.out) | exact HB.out))) : w.heap.size ≤ gb342)); have n6_ := zA.mk ((by rw [hg]; exact Nat.ne_of_lt (zBa (g := gb341) (o := .cells #[.string a0_0, .string a0_1, .slice A0_2 l0_2.length c0_2] 25 (0, 0)) (by (with_reducible repeat (first | refine zAf ?_ _ | refine zAg ?_ | refine zAe ?_ _)); exact BK341.out)) : gb341 ≠ gb342)); have n7_ := zA.mk ((by rw [hg]; exact Nat.ne_of_gt (zBa (g := gb341) (o := .cells #[.string a0_0, .string a0_1, .slice A0_2 l0_2.length c0_2] 25 (0, 0)) (by (with_reducible repeat (first | refine zAf ?_ _ | refine zAg ?_ | refine zAe ?_ _)); exact BK341.out)) : gb342 ≠ gb341)); clear HO0_2; clear BK341; clear HB; have HO0_2 := n0_; have BK341 := n1_; have HB := n2_; have BK342 := n3_; have GW342 := n4_; have GE342 := n5_; have NB341_342 := n6_; have NB342_341 := n7_; clear n0_ n1_ n2_ n3_ n4_ n5_ n6_ n7_; clear hb hbox hg) | ((with_reducible refine zCc (N := 5) rfl ?_); (try (refine zCi (by rfl) ?_; dsimp only)); refine zBk ?hg (N := 5) ?hd (cs := #[.string (⟨#[]⟩ : ByteArray), .string (⟨#[]⟩ : ByteArray), .slice none 0 0]) (t := 25) ?hr ?_; (case hd => rfl); (case hg => rfl); (case hr => first | (go_simp; done) | (go_simp; rfl)); intro gb343 hg w6 hbox hb; have n0_ := zA.mk (Kd.V_below (Kd.V_elderB (by (with_reducible repeat (first | apply Kd.zDj | apply Kd.zDi | apply Kd.zDg)); exact HO0_2.out) gb343 (Nat.le_of_eq hg.symm)) hb); have n1_ := zA.mk (zAi (g := gb341) (o := .cells #[.string a0_0, .string a0_1, .slice A0_2 l0_2.length c0_2] 25 (0, 0)) (by (with_reducible repeat (first | refine zAf ?_ _ | refine zAg ?_ | refine zAe ?_ _)); exact BK341.out) hb); have n2_ := zA.mk (zAi (g := gb342) (o := .cells #[.string (⟨#[]⟩ : ByteArray), .string (⟨#[]⟩ : ByteArray), .slice none 0 0] 25 (0, 0)) (by (with_reducible repeat (first | refine zAf ?_ _ | refine zAg ?_ | refine zAe ?_ _)); exact BK342.out) hb); have n3_ := zA.mk (zBh (by repeat (first | (with_reducible first | exact HB.out | apply zAb | apply zAc | apply zAh | refine zAj ?_ GE341.out | refine zAj ?_ GE342.out) | exact HB.out)) hb); have n4_ := zA.mk (hbox); have n5_ := zA.mk ((by rw [hg]; exact (zBb (by repeat (first | (with_reducible first | exact HB.out | apply zAb | apply zAc | apply zAh | refine zAj ?_ GE341.out | refine zAj ?_ GE342.out) | exact HB.out))) : w.heap.size ≤ gb343)); have n6_ := zA.mk ((by rw [hg]; exact (zBb (by repeat (first | (with_reducible first | exact HB.out | apply zAb | apply zAc | apply zAh | refine zAj ?_ GE341.out | refine zAj ?_ GE342.out) | exact HB.out))) : w.heap.size ≤ gb343)); have n7_ := zA.mk ((by rw [hg]; exact Nat.ne_of_lt (zBa (g := gb341) (o := .cells #[.string a0_0, .string a0_1, .slice A0_2 l0_2.length c0_2] 25 (0, 0)) (by (with_reducible repeat (first | refine zAf ?_ _ | refine zAg ?_ | refine zAe ?_ _)); exact BK341.out)) : gb341 ≠ gb343)); have n8_ := zA.mk ((by rw [hg]; exact Nat.ne_of_gt (zBa (g := gb341) (o := .cells #[.string a0_0, .string a0_1, .slice A0_2 l0_2.length c0_2] 25 (0, 0)) (by (with_reducible repeat (first | refine zAf ?_ _ | refine zAg ?_ | refine zAe ?_ _)); exact BK341.out)) : gb343 ≠ gb341)); have n9_ := zA.mk ((by rw [hg]; exact Nat.ne_of_lt (zBa (g := gb342) (o := .cells #[.string (⟨#[]⟩ : ByteArray), .string (⟨#[]⟩ : ByteArray), .slice none 0 0] 25 (0, 0)) (by (with_reducible repeat (first | refine zAf ?_ _ | refine zAg ?_ | refine zAe ?_ _)); exact BK342.out)) : gb342 ≠ gb343)); have n10_ := zA.mk ((by rw [hg]; exact Nat.ne_of_gt (zBa (g := gb342) (o := .cells #[.string (⟨#[]⟩ : ByteArray), .string (⟨#[]⟩ : ByteArray), .slice none 0 0] 25 (0, 0)) (by (with_reducible repeat (first | refine zAf ?_ _ | refine zAg ?_ | refine zAe ?_ _)); exact BK342.out)) : gb343 ≠ gb342)); clear HO0_2; clear BK341; clear BK342; clear HB; have HO0_2 := n0_; have BK341 := n1_; have BK342 := n2_; have HB := n3_; have BK343 := n4_; have GW343 := n5_; have GE343 := n6_; have NB341_343 := n7_; have NB343_341 := n8_; have NB342_343 := n9_; have NB343_342 := n10_; clear n0_ n1_ n2_ n3_ n4_ n5_ n6_ n7_ n8_ n9_ n10_; clear hb hbox hg))
 (try simp only [Act.put, List.setIfInBounds_toArray, List.set_cons_zero, List.set_cons_succ])
 go_cut [17] (fun v17 wc => ∃ (kq : Nat) (x17_2 : Bool), v17 = .bool x17_2 ∧ zA (bulwarkref11_Split.j0 kq a1 x17_2 a0_0 a0_1 l0_2 = some (r1, r2, r3, r4, r5, r6, r7)) ∧ zA (kq ≤ k) ∧ zA (Kd.V k49 49 wc w.heap.size (fun k_ => (P0_2_ k_ ∨ w.heap.size ≤ k_) ∧ k_ ≠ gb341 ∧ k_ ≠ gb342 ∧ k_ ≠ gb343) (.slice A0_2 l0_2.length c0_2) l0_2) ∧ zA (wc.heap[gb341]? = some (.cells #[.string a0_0, .string a0_1, (.slice A0_2 l0_2.length c0_2)] 25 (0, 0))) ∧ zA (wc.heap[gb342]? = some (.cells #[.string (⟨#[]⟩ : ByteArray), .string (⟨#[]⟩ : ByteArray), (.slice none 0 0)] 25 (0, 0))) ∧ zA (wc.heap[gb343]? = some (.cells #[.string (⟨#[]⟩ : ByteArray), .string (⟨#[]⟩ : ByteArray), (.slice none 0 0)] 25 (0, 0))) ∧ zA (Below w.heap.size w wc))
 case first =>
  have H := HC3.out
  clear HC3
  by_cases c7 : (a1.size : Int) < 1
  ·rw [if_pos c7] at H
   have c7b0 : decide ((a1.size : Int) < 1) = true := decide_eq_true c7
   have c7b1 : decide (a1.size < 1) = true := decide_eq_true (by omega)
   clear c7
   (first | rw [c7b0] | (simp only [i64_w, i32_w]; rw [c7b0]) | skip)
   have H' := zA.mk H
   clear H
   go_wp2
   go_meet
   case rel => exact ⟨_, (true), (by first | rfl | (simp; done) | (simp [*]; done)), H', ⟨by first | omega | exact Nat.le_refl _⟩, ⟨by (with_reducible repeat (first | apply Kd.zDj | apply Kd.zDi | apply Kd.zDg)); exact Kd.zFd HO0_2.out (fun _ hk => ⟨hk.1.1.1, ⟨hk.1.1.2, ⟨hk.1.2, hk.2⟩⟩⟩)⟩, ⟨by (with_reducible repeat (first | refine zAf ?_ _ | refine zAg ?_ | refine zAe ?_ _)); exact BK341.out⟩, ⟨by (with_reducible repeat (first | refine zAf ?_ _ | refine zAg ?_ | refine zAe ?_ _)); exact BK342.out⟩, ⟨by (with_reducible repeat (first | refine zAf ?_ _ | refine zAg ?_ | refine zAe ?_ _)); exact BK343.out⟩, ⟨by repeat (first | (with_reducible first | exact HB.out | apply zAb | apply zAc | apply zAh | refine zAj ?_ GE341.out | refine zAj ?_ GE342.out | refine zAj ?_ GE343.out) | exact HB.out)⟩⟩
  ·rw [if_neg c7] at H
   have c7b0 : decide ((a1.size : Int) < 1) = false := decide_eq_false c7
   have c7b1 : decide (a1.size < 1) = false := decide_eq_false (by omega)
   clear c7
   (first | rw [c7b0] | (simp only [i64_w, i32_w]; rw [c7b0]) | skip)
   have H' := zA.mk H
   clear H
   go_wp2
   go_meet
   case rel => exact ⟨_, (decide ((a1.size : Int) > 32)), (by first | rfl | (simp; done) | (simp [*]; done)), H', ⟨by first | omega | exact Nat.le_refl _⟩, ⟨by (with_reducible repeat (first | apply Kd.zDj | apply Kd.zDi | apply Kd.zDg)); exact Kd.zFd HO0_2.out (fun _ hk => ⟨hk.1.1.1, ⟨hk.1.1.2, ⟨hk.1.2, hk.2⟩⟩⟩)⟩, ⟨by (with_reducible repeat (first | refine zAf ?_ _ | refine zAg ?_ | refine zAe ?_ _)); exact BK341.out⟩, ⟨by (with_reducible repeat (first | refine zAf ?_ _ | refine zAg ?_ | refine zAe ?_ _)); exact BK342.out⟩, ⟨by (with_reducible repeat (first | refine zAf ?_ _ | refine zAg ?_ | refine zAe ?_ _)); exact BK343.out⟩, ⟨by repeat (first | (with_reducible first | exact HB.out | apply zAb | apply zAc | apply zAh | refine zAj ?_ GE341.out | refine zAj ?_ GE342.out | refine zAj ?_ GE343.out) | exact HB.out)⟩⟩
 case rest =>
  clear HC3
  try clear c1
  try clear p2
  try clear c7
  try clear c7b0
  try clear c7b1
  obtain ⟨kq, x17_2, rfl, HA, HJ2, HO_342002, BK341, BK342, BK343, HB⟩ := hcut
  cases kq with
  | zero => exact absurd HA.out (by simp [bulwarkref11_Split.j0])
  | succ kj2 =>
   have H := HA.out
   clear HA
   simp only [bulwarkref11_Split.j0] at H
   by_cases c8 : x17_2 = true
   ·subst c8
    have H1 : (some ((⟨#[]⟩ : ByteArray), (⟨#[]⟩ : ByteArray), ([] : List (S49)), (⟨#[]⟩ : ByteArray), (⟨#[]⟩ : ByteArray), ([] : List (S49)), 1)) = some (r1, r2, r3, r4, r5, r6, r7) := by rw [if_pos rfl] at H; exact H
    clear H
    have H := H1
    clear H1
    simp only [Option.some.injEq, Prod.mk.injEq] at H
    obtain ⟨rfl, rfl, rfl, rfl, rfl, rfl, rfl⟩ := H
    have hnb9 := NB342_341.out
    have hnc9 := NB341_342.out
    have hnb10 := NB342_343.out
    have hnc10 := NB343_342.out
    have hcz11_0 : wc.cell? ⟨gb342, 0, none⟩ = some (.string (⟨#[]⟩ : ByteArray)) := (zAa BK342.out 0).trans rfl
    have hcz11_1 : wc.cell? ⟨gb342, 1, none⟩ = some (.string (⟨#[]⟩ : ByteArray)) := (zAa BK342.out 1).trans rfl
    have hcz11_2 : wc.cell? ⟨gb342, 2, none⟩ = some (.slice none 0 0) := (zAa BK342.out 2).trans rfl
    have hfz11_0 := zAd BK342.out 0
    have hfz11_1 := zAd BK342.out 1
    have hfz11_2 := zAd BK342.out 2
    have hnb12 := NB343_341.out
    have hnc12 := NB341_343.out
    have hcz13_0 : wc.cell? ⟨gb343, 0, none⟩ = some (.string (⟨#[]⟩ : ByteArray)) := (zAa BK343.out 0).trans rfl
    have hcz13_1 : wc.cell? ⟨gb343, 1, none⟩ = some (.string (⟨#[]⟩ : ByteArray)) := (zAa BK343.out 1).trans rfl
    have hcz13_2 : wc.cell? ⟨gb343, 2, none⟩ = some (.slice none 0 0) := (zAa BK343.out 2).trans rfl
    have hfz13_0 := zAd BK343.out 0
    have hfz13_1 := zAd BK343.out 1
    have hfz13_2 := zAd BK343.out 2
    go_wp2
    refine bodyPost_ret (results_list (rs := [.cell 4 25, .cell 5 25, .tmp 6]) rfl (by simp) (.cell gb342 25 #[.string (⟨#[]⟩ : ByteArray), .string (⟨#[]⟩ : ByteArray), .slice none 0 0] (0, 0) _ rfl (by (with_reducible repeat (first | refine zAf ?_ _ | refine zAg ?_ | refine zAe ?_ _)); refine zBd ?_ NB342_343.out _; (with_reducible repeat (first | refine zAf ?_ _ | refine zAg ?_ | refine zAe ?_ _)); refine zBd ?_ NB342_343.out _; (with_reducible repeat (first | refine zAf ?_ _ | refine zAg ?_ | refine zAe ?_ _)); refine zBd ?_ NB342_343.out _; (with_reducible repeat (first | refine zAf ?_ _ | refine zAg ?_ | refine zAe ?_ _)); refine zCj (cs := #[.string (⟨#[]⟩ : ByteArray), .string (⟨#[]⟩ : ByteArray), .slice none 0 0]) ?_ 2 _ rfl; (with_reducible repeat (first | refine zAf ?_ _ | refine zAg ?_ | refine zAe ?_ _)); refine zCj (cs := #[.string (⟨#[]⟩ : ByteArray), .string (⟨#[]⟩ : ByteArray), .slice none 0 0]) ?_ 1 _ rfl; (with_reducible repeat (first | refine zAf ?_ _ | refine zAg ?_ | refine zAe ?_ _)); refine zCj (cs := #[.string (⟨#[]⟩ : ByteArray), .string (⟨#[]⟩ : ByteArray), .slice none 0 0]) ?_ 0 _ rfl; (with_reducible repeat (first | refine zAf ?_ _ | refine zAg ?_ | refine zAe ?_ _)); exact BK342.out) Tryz.underlying25 rfl (by kernel_rfl) (.cell gb343 25 #[.string (⟨#[]⟩ : ByteArray), .string (⟨#[]⟩ : ByteArray), .slice none 0 0] (0, 0) _ rfl (by (with_reducible repeat (first | refine zAf ?_ _ | refine zAg ?_ | refine zAe ?_ _)); refine zCj (cs := #[.string (⟨#[]⟩ : ByteArray), .string (⟨#[]⟩ : ByteArray), .slice none 0 0]) ?_ 2 _ rfl; (with_reducible repeat (first | refine zAf ?_ _ | refine zAg ?_ | refine zAe ?_ _)); refine zCj (cs := #[.string (⟨#[]⟩ : ByteArray), .string (⟨#[]⟩ : ByteArray), .slice none 0 0]) ?_ 1 _ rfl; (with_reducible repeat (first | refine zAf ?_ _ | refine zAg ?_ | refine zAe ?_ _)); refine zCj (cs := #[.string (⟨#[]⟩ : ByteArray), .string (⟨#[]⟩ : ByteArray), .slice none 0 0]) ?_ 0 _ rfl; (with_reducible repeat (first | refine zAf ?_ _ | refine zAg ?_ | refine zAe ?_ _)); refine zBd ?_ NB343_342.out _; (with_reducible repeat (first | refine zAf ?_ _ | refine zAg ?_ | refine zAe ?_ _)); refine zBd ?_ NB343_342.out _; (with_reducible repeat (first | refine zAf ?_ _ | refine zAg ?_ | refine zAe ?_ _)); refine zBd ?_ NB343_342.out _; (with_reducible repeat (first | refine zAf ?_ _ | refine zAg ?_ | refine zAe ?_ _)); exact BK343.out) Tryz.underlying25 rfl (by kernel_rfl) (.tmp .nil)))) rfl ?_
    exact ⟨_, _, by first | rfl | (simp [zBg, zBf] <;> rfl) | (simp [*, zBg, zBf] <;> rfl), by first | exact Kd.S_nil _ _ _ _ _ | exact Kd.N_nil _ _ _ _ _ | exact Kd.V_nil _ _ _ _ _ | exact Kd.Q_nil _ _ _ _ _ | exact Kd.R_nil _ _ _ _ _, by first | exact Kd.S_nil _ _ _ _ _ | exact Kd.N_nil _ _ _ _ _ | exact Kd.V_nil _ _ _ _ _ | exact Kd.Q_nil _ _ _ _ _ | exact Kd.R_nil _ _ _ _ _, by repeat (first | (with_reducible first | exact HB.out | apply zAb | apply zAc | apply zAh | refine zAj ?_ GE341.out | refine zAj ?_ GE342.out | refine zAj ?_ GE343.out) | exact HB.out)⟩
   ·replace c8 := Bool.eq_false_iff.mpr c8
    subst c8
    have H1 : ((bulwarkref04_Text.f kj2 a0_0 a1).bind fun t344 => (if t344 ≥ 0 then (bulwarkref11_Split.j1 kj2 a1 true a0_0 a0_1 l0_2) else (if a0_1.toList = ([] : List UInt8) then (bulwarkref11_Split.j1 kj2 a1 false a0_0 a0_1 l0_2) else ((bulwarkref04_Text.f kj2 a1 a0_1).bind fun t345 => (bulwarkref11_Split.j1 kj2 a1 (decide (t345 ≥ 0)) a0_0 a0_1 l0_2))))) = some (r1, r2, r3, r4, r5, r6, r7) := by rw [if_neg (show ¬ (false = true) by decide)] at H; exact H
    clear H
    have H := H1
    clear H1
    have HC14 := zA.mk H
    clear H
    go_upto_region 3 with (fail)
    go_cut [36] (fun v36 wc => ∃ (kq : Nat) (x36_13 : Bool), v36 = .bool x36_13 ∧ zA (bulwarkref11_Split.j1 kq a1 x36_13 a0_0 a0_1 l0_2 = some (r1, r2, r3, r4, r5, r6, r7)) ∧ zA (kq ≤ kj2) ∧ zA (Kd.V k49 49 wc w.heap.size (fun k_ => (P0_2_ k_ ∨ w.heap.size ≤ k_) ∧ k_ ≠ gb341 ∧ k_ ≠ gb342 ∧ k_ ≠ gb343) (.slice A0_2 l0_2.length c0_2) l0_2) ∧ zA (wc.heap[gb341]? = some (.cells #[.string a0_0, .string a0_1, (.slice A0_2 l0_2.length c0_2)] 25 (0, 0))) ∧ zA (wc.heap[gb342]? = some (.cells #[.string (⟨#[]⟩ : ByteArray), .string (⟨#[]⟩ : ByteArray), (.slice none 0 0)] 25 (0, 0))) ∧ zA (wc.heap[gb343]? = some (.cells #[.string (⟨#[]⟩ : ByteArray), .string (⟨#[]⟩ : ByteArray), (.slice none 0 0)] 25 (0, 0))) ∧ zA (Below w.heap.size w wc))
    case first =>
     have H := HC14.out
     clear HC14
     replace H := Option.bind_eq_some_iff.mp H
     obtain ⟨t344, A150, H⟩ := H
     replace H : (if t344 ≥ 0 then (bulwarkref11_Split.j1 kj2 a1 true a0_0 a0_1 l0_2) else (if a0_1.toList = ([] : List UInt8) then (bulwarkref11_Split.j1 kj2 a1 false a0_0 a0_1 l0_2) else ((bulwarkref04_Text.f kj2 a1 a0_1).bind fun t345 => (bulwarkref11_Split.j1 kj2 a1 (decide (t345 ≥ 0)) a0_0 a0_1 l0_2)))) = some (r1, r2, r3, r4, r5, r6, r7) := H
     have A15 := zA.mk A150
     clear A150
     by_cases c16 : t344 ≥ 0
     ·rw [if_pos c16] at H
      have c16b0 : decide (0 ≤ t344) = true := decide_eq_true c16
      clear c16
      (first | rw [c16b0] | (simp only [i64_w, i32_w]; rw [c16b0]) | skip)
      have H' := zA.mk H
      clear H
      have hnb17 := NB341_342.out
      have hnc17 := NB342_341.out
      have hnb18 := NB341_343.out
      have hnc18 := NB343_341.out
      have hcz19_0 : wc.cell? ⟨gb341, 0, none⟩ = some (.string a0_0) := (zAa BK341.out 0).trans rfl
      have hcz19_1 : wc.cell? ⟨gb341, 1, none⟩ = some (.string a0_1) := (zAa BK341.out 1).trans rfl
      have hcz19_2 : wc.cell? ⟨gb341, 2, none⟩ = some (.slice A0_2 l0_2.length c0_2) := (zAa BK341.out 2).trans rfl
      have hfz19_0 := zAd BK341.out 0
      have hfz19_1 := zAd BK341.out 1
      have hfz19_2 := zAd BK341.out 2
      go_wp2_with (first | ((with_reducible refine zCd (f := 55) rfl ?_); refine zEk (some 23) rfl rfl Tryz.func55 (by kernel_rfl) rfl #[.string a0_0, .string a1] rfl (by (try simp only [List.map_toArray, List.map_cons, List.map_nil]); first | done | rfl | (simp only [List.length_drop, List.length_take]; rfl)) ?_; (with_reducible refine (bulwarkref04_Text.calls kj2 a0_0 a1 t344 _ A15.out).mono ?_); rintro e w' ⟨rfl, ⟨nd, rfl⟩⟩; refine ⟨_, rfl, ?_⟩))
      go_meet
      case rel => exact ⟨_, (true), (by first | rfl | (simp; done) | (simp [*]; done)), H', ⟨by have := HJ2.out; first | omega | exact Nat.le_refl _⟩, ⟨by (with_reducible repeat (first | apply Kd.zDj | apply Kd.zDi | apply Kd.zDg)); exact HO_342002.out⟩, ⟨by (with_reducible repeat (first | refine zAf ?_ _ | refine zAg ?_ | refine zAe ?_ _)); exact BK341.out⟩, ⟨by (with_reducible repeat (first | refine zAf ?_ _ | refine zAg ?_ | refine zAe ?_ _)); exact BK342.out⟩, ⟨by (with_reducible repeat (first | refine zAf ?_ _ | refine zAg ?_ | refine zAe ?_ _)); exact BK343.out⟩, ⟨by repeat (first | (with_reducible first | exact HB.out | apply zAb | apply zAc | apply zAh | refine zAj ?_ GE341.out | refine zAj ?_ GE342.out | refine zAj ?_ GE343.out) | exact HB.out)⟩⟩
     ·rw [if_neg c16] at H
      have c16b0 : decide (0 ≤ t344) = false := decide_eq_false c16
      clear c16
      (first | rw [c16b0] | (simp only [i64_w, i32_w]; rw [c16b0]) | skip)
      by_cases c20 : a0_1.toList = ([] : List UInt8)
      ·rw [if_pos c20] at H
       have c20b0 : (a0_1.toList == ([] : List UInt8)) = true := beq_iff_eq.mpr c20
       have c20b1 : (a0_1.toList != ([] : List UInt8)) = false := bne_eq_false_iff_eq.mpr c20
       clear c20
       have H' := zA.mk H
       clear H
       have hnb21 := NB341_342.out
       have hnc21 := NB342_341.out
       have hnb22 := NB341_343.out
       have hnc22 := NB343_341.out
       have hcz23_0 : wc.cell? ⟨gb341, 0, none⟩ = some (.string a0_0) := (zAa BK341.out 0).trans rfl
       have hcz23_1 : wc.cell? ⟨gb341, 1, none⟩ = some (.string a0_1) := (zAa BK341.out 1).trans rfl
       have hcz23_2 : wc.cell? ⟨gb341, 2, none⟩ = some (.slice A0_2 l0_2.length c0_2) := (zAa BK341.out 2).trans rfl
       have hfz23_0 := zAd BK341.out 0
       have hfz23_1 := zAd BK341.out 1
       have hfz23_2 := zAd BK341.out 2
       go_wp2_with (first | ((with_reducible refine zCd (f := 55) rfl ?_); refine zEk (some 23) rfl rfl Tryz.func55 (by kernel_rfl) rfl #[.string a0_0, .string a1] rfl (by (try simp only [List.map_toArray, List.map_cons, List.map_nil]); first | done | rfl | (simp only [List.length_drop, List.length_take]; rfl)) ?_; (with_reducible refine (bulwarkref04_Text.calls kj2 a0_0 a1 t344 _ A15.out).mono ?_); rintro e w' ⟨rfl, ⟨nd, rfl⟩⟩; refine ⟨_, rfl, ?_⟩))
       go_meet
       case rel => exact ⟨_, (false), (by first | rfl | (simp; done) | (simp [*]; done)), H', ⟨by have := HJ2.out; first | omega | exact Nat.le_refl _⟩, ⟨by (with_reducible repeat (first | apply Kd.zDj | apply Kd.zDi | apply Kd.zDg)); exact HO_342002.out⟩, ⟨by (with_reducible repeat (first | refine zAf ?_ _ | refine zAg ?_ | refine zAe ?_ _)); exact BK341.out⟩, ⟨by (with_reducible repeat (first | refine zAf ?_ _ | refine zAg ?_ | refine zAe ?_ _)); exact BK342.out⟩, ⟨by (with_reducible repeat (first | refine zAf ?_ _ | refine zAg ?_ | refine zAe ?_ _)); exact BK343.out⟩, ⟨by repeat (first | (with_reducible first | exact HB.out | apply zAb | apply zAc | apply zAh | refine zAj ?_ GE341.out | refine zAj ?_ GE342.out | refine zAj ?_ GE343.out) | exact HB.out)⟩⟩
      ·rw [if_neg c20] at H
       have c20b0 : (a0_1.toList == ([] : List UInt8)) = false := beq_eq_false_iff_ne.mpr c20
       have c20b1 : (a0_1.toList != ([] : List UInt8)) = true := bne_iff_ne.mpr c20
       replace H := Option.bind_eq_some_iff.mp H
       obtain ⟨t345, A240, H⟩ := H
       replace H : (bulwarkref11_Split.j1 kj2 a1 (decide (t345 ≥ 0)) a0_0 a0_1 l0_2) = some (r1, r2, r3, r4, r5, r6, r7) := H
       have A24 := zA.mk A240
       clear A240
       have H' := zA.mk H
       clear H
       have hnb25 := NB341_342.out
       have hnc25 := NB342_341.out
       have hnb26 := NB341_343.out
       have hnc26 := NB343_341.out
       have hcz27_0 : wc.cell? ⟨gb341, 0, none⟩ = some (.string a0_0) := (zAa BK341.out 0).trans rfl
       have hcz27_1 : wc.cell? ⟨gb341, 1, none⟩ = some (.string a0_1) := (zAa BK341.out 1).trans rfl
       have hcz27_2 : wc.cell? ⟨gb341, 2, none⟩ = some (.slice A0_2 l0_2.length c0_2) := (zAa BK341.out 2).trans rfl
       have hfz27_0 := zAd BK341.out 0
       have hfz27_1 := zAd BK341.out 1
       have hfz27_2 := zAd BK341.out 2
       go_wp2_with (first | ((with_reducible refine zCd (f := 55) rfl ?_); refine zEk (some 23) rfl rfl Tryz.func55 (by kernel_rfl) rfl #[.string a0_0, .string a1] rfl (by (try simp only [List.map_toArray, List.map_cons, List.map_nil]); first | done | rfl | (simp only [List.length_drop, List.length_take]; rfl)) ?_; (with_reducible refine (bulwarkref04_Text.calls kj2 a0_0 a1 t344 _ A15.out).mono ?_); rintro e w' ⟨rfl, ⟨nd, rfl⟩⟩; refine ⟨_, rfl, ?_⟩) | (go_at_call 55; (with_reducible refine (bulwarkref04_Text.calls kj2 a1 a0_1 t345 _ A24.out).mono ?_); rintro e w' ⟨rfl, ⟨nd, rfl⟩⟩))
       go_meet
       case rel => exact ⟨_, (decide (t345 ≥ 0)), (by first | rfl | (simp; done) | (simp [*]; done)), H', ⟨by have := HJ2.out; first | omega | exact Nat.le_refl _⟩, ⟨by (with_reducible repeat (first | apply Kd.zDj | apply Kd.zDi | apply Kd.zDg)); exact HO_342002.out⟩, ⟨by (with_reducible repeat (first | refine zAf ?_ _ | refine zAg ?_ | refine zAe ?_ _)); exact BK341.out⟩, ⟨by (with_reducible repeat (first | refine zAf ?_ _ | refine zAg ?_ | refine zAe ?_ _)); exact BK342.out⟩, ⟨by (with_reducible repeat (first | refine zAf ?_ _ | refine zAg ?_ | refine zAe ?_ _)); exact BK343.out⟩, ⟨by repeat (first | (with_reducible first | exact HB.out | apply zAb | apply zAc | apply zAh | refine zAj ?_ GE341.out | refine zAj ?_ GE342.out | refine zAj ?_ GE343.out) | exact HB.out)⟩⟩
    case rest =>
     clear HC14
     try clear c1
     try clear c2
     try clear p2
     try clear c5
     try clear c7
     try clear c7b0
     try clear c7b1
     try clear c8
     try clear c9
     try clear c10
     try clear c12
     try clear c16
     try clear c16b0
     try clear c17
     try clear c18
     try clear c20
     try clear c20b0
     try clear c20b1
     try clear c21
     try clear c22
     try clear c25
     try clear c26
     try clear hcz11_0
     try clear hcz11_1
     try clear hcz11_2
     try clear hcz13_0
     try clear hcz13_1
     try clear hcz13_2
     try clear hcz19_0
     try clear hcz19_1
     try clear hcz19_2
     try clear hcz23_0
     try clear hcz23_1
     try clear hcz23_2
     try clear hcz27_0
     try clear hcz27_1
     try clear hcz27_2
     try clear hfz11_0
     try clear hfz11_1
     try clear hfz11_2
     try clear hfz13_0
     try clear hfz13_1
     try clear hfz13_2
     try clear hfz19_0
     try clear hfz19_1
     try clear hfz19_2
     try clear hfz23_0
     try clear hfz23_1
     try clear hfz23_2
     try clear hfz27_0
     try clear hfz27_1
     try clear hfz27_2
     try clear p2
     obtain ⟨kq, x36_13, rfl, HA, HJ13, HO_342002, BK341, BK342, BK343, HB⟩ := hcut
     cases kq with
     | zero => exact absurd HA.out (by simp [bulwarkref11_Split.j1])
     | succ kj13 =>
      have H := HA.out
      clear HA
      simp only [bulwarkref11_Split.j1] at H
      by_cases c28 : x36_13 = true
      ·subst c28
       have H1 : (some ((⟨#[]⟩ : ByteArray), (⟨#[]⟩ : ByteArray), ([] : List (S49)), (⟨#[]⟩ : ByteArray), (⟨#[]⟩ : ByteArray), ([] : List (S49)), 8)) = some (r1, r2, r3, r4, r5, r6, r7) := by rw [if_pos rfl] at H; exact H
       clear H
       have H := H1
       clear H1
       simp only [Option.some.injEq, Prod.mk.injEq] at H
       obtain ⟨rfl, rfl, rfl, rfl, rfl, rfl, rfl⟩ := H
       have hnb29 := NB342_341.out
       have hnc29 := NB341_342.out
       have hnb30 := NB342_343.out
       have hnc30 := NB343_342.out
       have hcz31_0 : wc.cell? ⟨gb342, 0, none⟩ = some (.string (⟨#[]⟩ : ByteArray)) := (zAa BK342.out 0).trans rfl
       have hcz31_1 : wc.cell? ⟨gb342, 1, none⟩ = some (.string (⟨#[]⟩ : ByteArray)) := (zAa BK342.out 1).trans rfl
       have hcz31_2 : wc.cell? ⟨gb342, 2, none⟩ = some (.slice none 0 0) := (zAa BK342.out 2).trans rfl
       have hfz31_0 := zAd BK342.out 0
       have hfz31_1 := zAd BK342.out 1
       have hfz31_2 := zAd BK342.out 2
       have hnb32 := NB343_341.out
       have hnc32 := NB341_343.out
       have hcz33_0 : wc.cell? ⟨gb343, 0, none⟩ = some (.string (⟨#[]⟩ : ByteArray)) := (zAa BK343.out 0).trans rfl
       have hcz33_1 : wc.cell? ⟨gb343, 1, none⟩ = some (.string (⟨#[]⟩ : ByteArray)) := (zAa BK343.out 1).trans rfl
       have hcz33_2 : wc.cell? ⟨gb343, 2, none⟩ = some (.slice none 0 0) := (zAa BK343.out 2).trans rfl
       have hfz33_0 := zAd BK343.out 0
       have hfz33_1 := zAd BK343.out 1
       have hfz33_2 := zAd BK343.out 2
       go_wp2
       refine bodyPost_ret (results_list (rs := [.cell 4 25, .cell 5 25, .tmp 6]) rfl (by simp) (.cell gb342 25 #[.string (⟨#[]⟩ : ByteArray), .string (⟨#[]⟩ : ByteArray), .slice none 0 0] (0, 0) _ rfl (by (with_reducible repeat (first | refine zAf ?_ _ | refine zAg ?_ | refine zAe ?_ _)); refine zBd ?_ NB342_343.out _; (with_reducible repeat (first | refine zAf ?_ _ | refine zAg ?_ | refine zAe ?_ _)); refine zBd ?_ NB342_343.out _; (with_reducible repeat (first | refine zAf ?_ _ | refine zAg ?_ | refine zAe ?_ _)); refine zBd ?_ NB342_343.out _; (with_reducible repeat (first | refine zAf ?_ _ | refine zAg ?_ | refine zAe ?_ _)); refine zCj (cs := #[.string (⟨#[]⟩ : ByteArray), .string (⟨#[]⟩ : ByteArray), .slice none 0 0]) ?_ 2 _ rfl; (with_reducible repeat (first | refine zAf ?_ _ | refine zAg ?_ | refine zAe ?_ _)); refine zCj (cs := #[.string (⟨#[]⟩ : ByteArray), .string (⟨#[]⟩ : ByteArray), .slice none 0 0]) ?_ 1 _ rfl; (with_reducible repeat (first | refine zAf ?_ _ | refine zAg ?_ | refine zAe ?_ _)); refine zCj (cs := #[.string (⟨#[]⟩ : ByteArray), .string (⟨#[]⟩ : ByteArray), .slice none 0 0]) ?_ 0 _ rfl; (with_reducible repeat (first | refine zAf ?_ _ | refine zAg ?_ | refine zAe ?_ _)); exact BK342.out) Tryz.underlying25 rfl (by kernel_rfl) (.cell gb343 25 #[.string (⟨#[]⟩ : ByteArray), .string (⟨#[]⟩ : ByteArray), .slice none 0 0] (0, 0) _ rfl (by (with_reducible repeat (first | refine zAf ?_ _ | refine zAg ?_ | refine zAe ?_ _)); refine zCj (cs := #[.string (⟨#[]⟩ : ByteArray), .string (⟨#[]⟩ : ByteArray), .slice none 0 0]) ?_ 2 _ rfl; (with_reducible repeat (first | refine zAf ?_ _ | refine zAg ?_ | refine zAe ?_ _)); refine zCj (cs := #[.string (⟨#[]⟩ : ByteArray), .string (⟨#[]⟩ : ByteArray), .slice none 0 0]) ?_ 1 _ rfl; (with_reducible repeat (first | refine zAf ?_ _ | refine zAg ?_ | refine zAe ?_ _)); refine zCj (cs := #[.string (⟨#[]⟩ : ByteArray), .string (⟨#[]⟩ : ByteArray), .slice none 0 0]) ?_ 0 _ rfl; (with_reducible repeat (first | refine zAf ?_ _ | refine zAg ?_ | refine zAe ?_ _)); refine zBd ?_ NB343_342.out _; (with_reducible repeat (first | refine zAf ?_ _ | refine zAg ?_ | refine zAe ?_ _)); refine zBd ?_ NB343_342.out _; (with_reducible repeat (first | refine zAf ?_ _ | refine zAg ?_ | refine zAe ?_ _)); refine zBd ?_ NB343_342.out _; (with_reducible repeat (first | refine zAf ?_ _ | refine zAg ?_ | refine zAe ?_ _)); exact BK343.out) Tryz.underlying25 rfl (by kernel_rfl) (.tmp .nil)))) rfl ?_
       exact ⟨_, _, by first | rfl | (simp [zBg, zBf] <;> rfl) | (simp [*, zBg, zBf] <;> rfl), by first | exact Kd.S_nil _ _ _ _ _ | exact Kd.N_nil _ _ _ _ _ | exact Kd.V_nil _ _ _ _ _ | exact Kd.Q_nil _ _ _ _ _ | exact Kd.R_nil _ _ _ _ _, by first | exact Kd.S_nil _ _ _ _ _ | exact Kd.N_nil _ _ _ _ _ | exact Kd.V_nil _ _ _ _ _ | exact Kd.Q_nil _ _ _ _ _ | exact Kd.R_nil _ _ _ _ _, by repeat (first | (with_reducible first | exact HB.out | apply zAb | apply zAc | apply zAh | refine zAj ?_ GE341.out | refine zAj ?_ GE342.out | refine zAj ?_ GE343.out) | exact HB.out)⟩
      ·replace c28 := Bool.eq_false_iff.mpr c28
       subst c28
       have H1 : (bulwarkref11_Split.l0 kj13 0 a0_0 a0_1 l0_2 a0_0 a1 ([] : List (S49)) a1 a0_1 ([] : List (S49))) = some (r1, r2, r3, r4, r5, r6, r7) := by rw [if_neg (show ¬ (false = true) by decide)] at H; exact H
       clear H
       have H := H1
       clear H1
       have H' := zA.mk H
       clear H
       have hnb34 := NB341_342.out
       have hnc34 := NB342_341.out
       have hnb35 := NB341_343.out
       have hnc35 := NB343_341.out
       have hcz36_0 : wc.cell? ⟨gb341, 0, none⟩ = some (.string a0_0) := (zAa BK341.out 0).trans rfl
       have hcz36_1 : wc.cell? ⟨gb341, 1, none⟩ = some (.string a0_1) := (zAa BK341.out 1).trans rfl
       have hcz36_2 : wc.cell? ⟨gb341, 2, none⟩ = some (.slice A0_2 l0_2.length c0_2) := (zAa BK341.out 2).trans rfl
       have hfz36_0 := zAd BK341.out 0
       have hfz36_1 := zAd BK341.out 1
       have hfz36_2 := zAd BK341.out 2
       go_wp2_with (first | ((with_reducible refine zCc (N := 7) rfl ?_); (try (refine zCi (by rfl) ?_; dsimp only)); refine zBk ?hg (N := 7) ?hd (cs := #[.string (⟨#[]⟩ : ByteArray), .string (⟨#[]⟩ : ByteArray), .slice none 0 0]) (t := 25) ?hr ?_; (case hd => rfl); (case hg => rfl); (case hr => first | (go_simp; done) | (go_simp; rfl)); intro gb346 hg w37 hbox hb; have n0_ := zA.mk (Kd.V_below (Kd.V_elderB (by (with_reducible repeat (first | apply Kd.zDj | apply Kd.zDi | apply Kd.zDg)); exact HO_342002.out) gb346 (Nat.le_of_eq hg.symm)) hb); have n1_ := zA.mk (zAi (g := gb341) (o := .cells #[.string a0_0, .string a0_1, .slice A0_2 l0_2.length c0_2] 25 (0, 0)) (by (with_reducible repeat (first | refine zAf ?_ _ | refine zAg ?_ | refine zAe ?_ _)); exact BK341.out) hb); have n2_ := zA.mk (zAi (g := gb342) (o := .cells #[.string (⟨#[]⟩ : ByteArray), .string (⟨#[]⟩ : ByteArray), .slice none 0 0] 25 (0, 0)) (by (with_reducible repeat (first | refine zAf ?_ _ | refine zAg ?_ | refine zAe ?_ _)); exact BK342.out) hb); have n3_ := zA.mk (zAi (g := gb343) (o := .cells #[.string (⟨#[]⟩ : ByteArray), .string (⟨#[]⟩ : ByteArray), .slice none 0 0] 25 (0, 0)) (by (with_reducible repeat (first | refine zAf ?_ _ | refine zAg ?_ | refine zAe ?_ _)); exact BK343.out) hb); have n4_ := zA.mk (zBh (by repeat (first | (with_reducible first | exact HB.out | apply zAb | apply zAc | apply zAh | refine zAj ?_ GE341.out | refine zAj ?_ GE342.out | refine zAj ?_ GE343.out) | exact HB.out)) hb); have n5_ := zA.mk (hbox); have n6_ := zA.mk ((by rw [hg]; exact (zBb (by repeat (first | (with_reducible first | exact HB.out | apply zAb | apply zAc | apply zAh | refine zAj ?_ GE341.out | refine zAj ?_ GE342.out | refine zAj ?_ GE343.out) | exact HB.out))) : w.heap.size ≤ gb346)); have n7_ := zA.mk ((by rw [hg]; exact (zBb (by repeat (first | (with_reducible first | exact HB.out | apply zAb | apply zAc | apply zAh | refine zAj ?_ GE341.out | refine zAj ?_ GE342.out | refine zAj ?_ GE343.out) | exact HB.out))) : w.heap.size ≤ gb346)); have n8_ := zA.mk ((by rw [hg]; exact Nat.ne_of_lt (zBa (g := gb341) (o := .cells #[.string a0_0, .string a0_1, .slice A0_2 l0_2.length c0_2] 25 (0, 0)) (by (with_reducible repeat (first | refine zAf ?_ _ | refine zAg ?_ | refine zAe ?_ _)); exact BK341.out)) : gb341 ≠ gb346)); have n9_ := zA.mk ((by rw [hg]; exact Nat.ne_of_gt (zBa (g := gb341) (o := .cells #[.string a0_0, .string a0_1, .slice A0_2 l0_2.length c0_2] 25 (0, 0)) (by (with_reducible repeat (first | refine zAf ?_ _ | refine zAg ?_ | refine zAe ?_ _)); exact BK341.out)) : gb346 ≠ gb341)); have n10_ := zA.mk ((by rw [hg]; exact Nat.ne_of_lt (zBa (g := gb342) (o := .cells #[.string (⟨#[]⟩ : ByteArray), .string (⟨#[]⟩ : ByteArray), .slice none 0 0] 25 (0, 0)) (by (with_reducible repeat (first | refine zAf ?_ _ | refine zAg ?_ | refine zAe ?_ _)); exact BK342.out)) : gb342 ≠ gb346)); have n11_ := zA.mk ((by rw [hg]; exact Nat.ne_of_gt (zBa (g := gb342) (o := .cells #[.string (⟨#[]⟩ : ByteArray), .string (⟨#[]⟩ : ByteArray), .slice none 0 0] 25 (0, 0)) (by (with_reducible repeat (first | refine zAf ?_ _ | refine zAg ?_ | refine zAe ?_ _)); exact BK342.out)) : gb346 ≠ gb342)); have n12_ := zA.mk ((by rw [hg]; exact Nat.ne_of_lt (zBa (g := gb343) (o := .cells #[.string (⟨#[]⟩ : ByteArray), .string (⟨#[]⟩ : ByteArray), .slice none 0 0] 25 (0, 0)) (by (with_reducible repeat (first | refine zAf ?_ _ | refine zAg ?_ | refine zAe ?_ _)); exact BK343.out)) : gb343 ≠ gb346)); have n13_ := zA.mk ((by rw [hg]; exact Nat.ne_of_gt (zBa (g := gb343) (o := .cells #[.string (⟨#[]⟩ : ByteArray), .string (⟨#[]⟩ : ByteArray), .slice none 0 0] 25 (0, 0)) (by (with_reducible repeat (first | refine zAf ?_ _ | refine zAg ?_ | refine zAe ?_ _)); exact BK343.out)) : gb346 ≠ gb343)); clear HO_342002; clear BK341; clear BK342; clear BK343; clear HB; have HO_342002 := n0_; have BK341 := n1_; have BK342 := n2_; have BK343 := n3_; have HB := n4_; have BK346 := n5_; have GW346 := n6_; have GE346 := n7_; have NB341_346 := n8_; have NB346_341 := n9_; have NB342_346 := n10_; have NB346_342 := n11_; have NB343_346 := n12_; have NB346_343 := n13_; clear n0_ n1_ n2_ n3_ n4_ n5_ n6_ n7_ n8_ n9_ n10_ n11_ n12_ n13_; clear hb hbox hg; have hnb38 := NB346_341.out; have hnc38 := NB341_346.out; have hnb39 := NB346_342.out; have hnc39 := NB342_346.out; have hnb40 := NB346_343.out; have hnc40 := NB343_346.out; have hcz41_0 : w37.cell? ⟨gb346, 0, none⟩ = some (.string (⟨#[]⟩ : ByteArray)) := (zAa BK346.out 0).trans rfl; have hcz41_1 : w37.cell? ⟨gb346, 1, none⟩ = some (.string (⟨#[]⟩ : ByteArray)) := (zAa BK346.out 1).trans rfl; have hcz41_2 : w37.cell? ⟨gb346, 2, none⟩ = some (.slice none 0 0) := (zAa BK346.out 2).trans rfl; have hfz41_0 := zAd BK346.out 0; have hfz41_1 := zAd BK346.out 1; have hfz41_2 := zAd BK346.out 2; have hcz42_0 : w37.cell? ⟨gb341, 0, none⟩ = some (.string a0_0) := (zAa BK341.out 0).trans rfl; have hcz42_1 : w37.cell? ⟨gb341, 1, none⟩ = some (.string a0_1) := (zAa BK341.out 1).trans rfl; have hcz42_2 : w37.cell? ⟨gb341, 2, none⟩ = some (.slice A0_2 l0_2.length c0_2) := (zAa BK341.out 2).trans rfl; have hfz42_0 := zAd BK341.out 0; have hfz42_1 := zAd BK341.out 1; have hfz42_2 := zAd BK341.out 2) | ((with_reducible refine zCc (N := 8) rfl ?_); (try (refine zCi (by rfl) ?_; dsimp only)); refine zBk ?hg (N := 8) ?hd (cs := #[.string (⟨#[]⟩ : ByteArray), .string (⟨#[]⟩ : ByteArray), .slice none 0 0]) (t := 25) ?hr ?_; (case hd => rfl); (case hg => rfl); (case hr => first | (go_simp; done) | (go_simp; rfl)); intro gb347 hg w43 hbox hb; have n0_ := zA.mk (Kd.V_below (Kd.V_elderB (by (with_reducible repeat (first | apply Kd.zDj | apply Kd.zDi | apply Kd.zDg)); exact (Kd.zFd (Kd.V_far (p := ⟨gb346, 2, none⟩) (Kd.V_far (p := ⟨gb346, 1, none⟩) (Kd.V_far (p := ⟨gb346, 0, none⟩) (Kd.zFd HO_342002.out (fun k_ hk => (⟨hk, hk.2⟩ : _ ∧ k_ ≠ gb346))) (fun _ hk => hk.2) (.string a0_0)) (fun _ hk => hk.2) (.string a1)) (fun _ hk => hk.2) (.slice none 0 0)) (fun _ h_ => h_.1))) gb347 (Nat.le_of_eq hg.symm)) hb); have n1_ := zA.mk (zAi (g := gb341) (o := .cells #[.string a0_0, .string a0_1, .slice A0_2 l0_2.length c0_2] 25 (0, 0)) (by (with_reducible repeat (first | refine zAf ?_ _ | refine zAg ?_ | refine zAe ?_ _)); refine zBd ?_ NB341_346.out _; (with_reducible repeat (first | refine zAf ?_ _ | refine zAg ?_ | refine zAe ?_ _)); refine zBd ?_ NB341_346.out _; (with_reducible repeat (first | refine zAf ?_ _ | refine zAg ?_ | refine zAe ?_ _)); refine zBd ?_ NB341_346.out _; (with_reducible repeat (first | refine zAf ?_ _ | refine zAg ?_ | refine zAe ?_ _)); exact BK341.out) hb); have n2_ := zA.mk (zAi (g := gb342) (o := .cells #[.string (⟨#[]⟩ : ByteArray), .string (⟨#[]⟩ : ByteArray), .slice none 0 0] 25 (0, 0)) (by (with_reducible repeat (first | refine zAf ?_ _ | refine zAg ?_ | refine zAe ?_ _)); refine zBd ?_ NB342_346.out _; (with_reducible repeat (first | refine zAf ?_ _ | refine zAg ?_ | refine zAe ?_ _)); refine zBd ?_ NB342_346.out _; (with_reducible repeat (first | refine zAf ?_ _ | refine zAg ?_ | refine zAe ?_ _)); refine zBd ?_ NB342_346.out _; (with_reducible repeat (first | refine zAf ?_ _ | refine zAg ?_ | refine zAe ?_ _)); exact BK342.out) hb); have n3_ := zA.mk (zAi (g := gb343) (o := .cells #[.string (⟨#[]⟩ : ByteArray), .string (⟨#[]⟩ : ByteArray), .slice none 0 0] 25 (0, 0)) (by (with_reducible repeat (first | refine zAf ?_ _ | refine zAg ?_ | refine zAe ?_ _)); refine zBd ?_ NB343_346.out _; (with_reducible repeat (first | refine zAf ?_ _ | refine zAg ?_ | refine zAe ?_ _)); refine zBd ?_ NB343_346.out _; (with_reducible repeat (first | refine zAf ?_ _ | refine zAg ?_ | refine zAe ?_ _)); refine zBd ?_ NB343_346.out _; (with_reducible repeat (first | refine zAf ?_ _ | refine zAg ?_ | refine zAe ?_ _)); exact BK343.out) hb); have n4_ := zA.mk (zAi (g := gb346) (o := .cells #[.string a0_0, .string a1, .slice none 0 0] 25 (0, 0)) (by (with_reducible repeat (first | refine zAf ?_ _ | refine zAg ?_ | refine zAe ?_ _)); refine zCj (cs := #[.string a0_0, .string a1, .slice none 0 0]) ?_ 2 _ rfl; (with_reducible repeat (first | refine zAf ?_ _ | refine zAg ?_ | refine zAe ?_ _)); refine zCj (cs := #[.string a0_0, .string (⟨#[]⟩ : ByteArray), .slice none 0 0]) ?_ 1 _ rfl; (with_reducible repeat (first | refine zAf ?_ _ | refine zAg ?_ | refine zAe ?_ _)); refine zCj (cs := #[.string (⟨#[]⟩ : ByteArray), .string (⟨#[]⟩ : ByteArray), .slice none 0 0]) ?_ 0 _ rfl; (with_reducible repeat (first | refine zAf ?_ _ | refine zAg ?_ | refine zAe ?_ _)); exact BK346.out) hb); have n5_ := zA.mk (zBh (by repeat (first | (with_reducible first | exact HB.out | apply zAb | apply zAc | apply zAh | refine zAj ?_ GE341.out | refine zAj ?_ GE342.out | refine zAj ?_ GE343.out | refine zAj ?_ GE346.out) | exact HB.out)) hb); have n6_ := zA.mk (hbox); have n7_ := zA.mk ((by rw [hg]; exact (zBb (by repeat (first | (with_reducible first | exact HB.out | apply zAb | apply zAc | apply zAh | refine zAj ?_ GE341.out | refine zAj ?_ GE342.out | refine zAj ?_ GE343.out | refine zAj ?_ GE346.out) | exact HB.out))) : w.heap.size ≤ gb347)); have n8_ := zA.mk ((by rw [hg]; exact (zBb (by repeat (first | (with_reducible first | exact HB.out | apply zAb | apply zAc | apply zAh | refine zAj ?_ GE341.out | refine zAj ?_ GE342.out | refine zAj ?_ GE343.out | refine zAj ?_ GE346.out) | exact HB.out))) : w.heap.size ≤ gb347)); have n9_ := zA.mk ((by rw [hg]; exact Nat.ne_of_lt (zBa (g := gb341) (o := .cells #[.string a0_0, .string a0_1, .slice A0_2 l0_2.length c0_2] 25 (0, 0)) (by (with_reducible repeat (first | refine zAf ?_ _ | refine zAg ?_ | refine zAe ?_ _)); refine zBd ?_ NB341_346.out _; (with_reducible repeat (first | refine zAf ?_ _ | refine zAg ?_ | refine zAe ?_ _)); refine zBd ?_ NB341_346.out _; (with_reducible repeat (first | refine zAf ?_ _ | refine zAg ?_ | refine zAe ?_ _)); refine zBd ?_ NB341_346.out _; (with_reducible repeat (first | refine zAf ?_ _ | refine zAg ?_ | refine zAe ?_ _)); exact BK341.out)) : gb341 ≠ gb347)); have n10_ := zA.mk ((by rw [hg]; exact Nat.ne_of_gt (zBa (g := gb341) (o := .cells #[.string a0_0, .string a0_1, .slice A0_2 l0_2.length c0_2] 25 (0, 0)) (by (with_reducible repeat (first | refine zAf ?_ _ | refine zAg ?_ | refine zAe ?_ _)); refine zBd ?_ NB341_346.out _; (with_reducible repeat (first | refine zAf ?_ _ | refine zAg ?_ | refine zAe ?_ _)); refine zBd ?_ NB341_346.out _; (with_reducible repeat (first | refine zAf ?_ _ | refine zAg ?_ | refine zAe ?_ _)); refine zBd ?_ NB341_346.out _; (with_reducible repeat (first | refine zAf ?_ _ | refine zAg ?_ | refine zAe ?_ _)); exact BK341.out)) : gb347 ≠ gb341)); have n11_ := zA.mk ((by rw [hg]; exact Nat.ne_of_lt (zBa (g := gb342) (o := .cells #[.string (⟨#[]⟩ : ByteArray), .string (⟨#[]⟩ : ByteArray), .slice none 0 0] 25 (0, 0)) (by (with_reducible repeat (first | refine zAf ?_ _ | refine zAg ?_ | refine zAe ?_ _)); refine zBd ?_ NB342_346.out _; (with_reducible repeat (first | refine zAf ?_ _ | refine zAg ?_ | refine zAe ?_ _)); refine zBd ?_ NB342_346.out _; (with_reducible repeat (first | refine zAf ?_ _ | refine zAg ?_ | refine zAe ?_ _)); refine zBd ?_ NB342_346.out _; (with_reducible repeat (first | refine zAf ?_ _ | refine zAg ?_ | refine zAe ?_ _)); exact BK342.out)) : gb342 ≠ gb347)); have n12_ := zA.mk ((by rw [hg]; exact Nat.ne_of_gt (zBa (g := gb342) (o := .cells #[.string (⟨#[]⟩ : ByteArray), .string (⟨#[]⟩ : ByteArray), .slice none 0 0] 25 (0, 0)) (by (with_reducible repeat (first | refine zAf ?_ _ | refine zAg ?_ | refine zAe ?_ _)); refine zBd ?_ NB342_346.out _; (with_reducible repeat (first | refine zAf ?_ _ | refine zAg ?_ | refine zAe ?_ _)); refine zBd ?_ NB342_346.out _; (with_reducible repeat (first | refine zAf ?_ _ | refine zAg ?_ | refine zAe ?_ _)); refine zBd ?_ NB342_346.out _; (with_reducible repeat (first | refine zAf ?_ _ | refine zAg ?_ | refine zAe ?_ _)); exact BK342.out)) : gb347 ≠ gb342)); have n13_ := zA.mk ((by rw [hg]; exact Nat.ne_of_lt (zBa (g := gb343) (o := .cells #[.string (⟨#[]⟩ : ByteArray), .string (⟨#[]⟩ : ByteArray), .slice none 0 0] 25 (0, 0)) (by (with_reducible repeat (first | refine zAf ?_ _ | refine zAg ?_ | refine zAe ?_ _)); refine zBd ?_ NB343_346.out _; (with_reducible repeat (first | refine zAf ?_ _ | refine zAg ?_ | refine zAe ?_ _)); refine zBd ?_ NB343_346.out _; (with_reducible repeat (first | refine zAf ?_ _ | refine zAg ?_ | refine zAe ?_ _)); refine zBd ?_ NB343_346.out _; (with_reducible repeat (first | refine zAf ?_ _ | refine zAg ?_ | refine zAe ?_ _)); exact BK343.out)) : gb343 ≠ gb347)); have n14_ := zA.mk ((by rw [hg]; exact Nat.ne_of_gt (zBa (g := gb343) (o := .cells #[.string (⟨#[]⟩ : ByteArray), .string (⟨#[]⟩ : ByteArray), .slice none 0 0] 25 (0, 0)) (by (with_reducible repeat (first | refine zAf ?_ _ | refine zAg ?_ | refine zAe ?_ _)); refine zBd ?_ NB343_346.out _; (with_reducible repeat (first | refine zAf ?_ _ | refine zAg ?_ | refine zAe ?_ _)); refine zBd ?_ NB343_346.out _; (with_reducible repeat (first | refine zAf ?_ _ | refine zAg ?_ | refine zAe ?_ _)); refine zBd ?_ NB343_346.out _; (with_reducible repeat (first | refine zAf ?_ _ | refine zAg ?_ | refine zAe ?_ _)); exact BK343.out)) : gb347 ≠ gb343)); have n15_ := zA.mk ((by rw [hg]; exact Nat.ne_of_lt (zBa (g := gb346) (o := .cells #[.string a0_0, .string a1, .slice none 0 0] 25 (0, 0)) (by (with_reducible repeat (first | refine zAf ?_ _ | refine zAg ?_ | refine zAe ?_ _)); refine zCj (cs := #[.string a0_0, .string a1, .slice none 0 0]) ?_ 2 _ rfl; (with_reducible repeat (first | refine zAf ?_ _ | refine zAg ?_ | refine zAe ?_ _)); refine zCj (cs := #[.string a0_0, .string (⟨#[]⟩ : ByteArray), .slice none 0 0]) ?_ 1 _ rfl; (with_reducible repeat (first | refine zAf ?_ _ | refine zAg ?_ | refine zAe ?_ _)); refine zCj (cs := #[.string (⟨#[]⟩ : ByteArray), .string (⟨#[]⟩ : ByteArray), .slice none 0 0]) ?_ 0 _ rfl; (with_reducible repeat (first | refine zAf ?_ _ | refine zAg ?_ | refine zAe ?_ _)); exact BK346.out)) : gb346 ≠ gb347)); have n16_ := zA.mk ((by rw [hg]; exact Nat.ne_of_gt (zBa (g := gb346) (o := .cells #[.string a0_0, .string a1, .slice none 0 0] 25 (0, 0)) (by (with_reducible repeat (first | refine zAf ?_ _ | refine zAg ?_ | refine zAe ?_ _)); refine zCj (cs := #[.string a0_0, .string a1, .slice none 0 0]) ?_ 2 _ rfl; (with_reducible repeat (first | refine zAf ?_ _ | refine zAg ?_ | refine zAe ?_ _)); refine zCj (cs := #[.string a0_0, .string (⟨#[]⟩ : ByteArray), .slice none 0 0]) ?_ 1 _ rfl; (with_reducible repeat (first | refine zAf ?_ _ | refine zAg ?_ | refine zAe ?_ _)); refine zCj (cs := #[.string (⟨#[]⟩ : ByteArray), .string (⟨#[]⟩ : ByteArray), .slice none 0 0]) ?_ 0 _ rfl; (with_reducible repeat (first | refine zAf ?_ _ | refine zAg ?_ | refine zAe ?_ _)); exact BK346.out)) : gb347 ≠ gb346)); clear HO_342002; clear BK341; clear BK342; clear BK343; clear BK346; clear HB; have HO_342002 := n0_; have BK341 := n1_; have BK342 := n2_; have BK343 := n3_; have BK346 := n4_; have HB := n5_; have BK347 := n6_; have GW347 := n7_; have GE347 := n8_; have NB341_347 := n9_; have NB347_341 := n10_; have NB342_347 := n11_; have NB347_342 := n12_; have NB343_347 := n13_; have NB347_343 := n14_; have NB346_347 := n15_; have NB347_346 := n16_; clear n0_ n1_ n2_ n3_ n4_ n5_ n6_ n7_ n8_ n9_ n10_ n11_ n12_ n13_ n14_ n15_ n16_; clear hb hbox hg; have hnb44 := NB347_341.out; have hnc44 := NB341_347.out; have hnb45 := NB347_342.out; have hnc45 := NB342_347.out; have hnb46 := NB347_343.out; have hnc46 := NB343_347.out; have hnb47 := NB347_346.out; have hnc47 := NB346_347.out; have hcz48_0 : w43.cell? ⟨gb347, 0, none⟩ = some (.string (⟨#[]⟩ : ByteArray)) := (zAa BK347.out 0).trans rfl; have hcz48_1 : w43.cell? ⟨gb347, 1, none⟩ = some (.string (⟨#[]⟩ : ByteArray)) := (zAa BK347.out 1).trans rfl; have hcz48_2 : w43.cell? ⟨gb347, 2, none⟩ = some (.slice none 0 0) := (zAa BK347.out 2).trans rfl; have hfz48_0 := zAd BK347.out 0; have hfz48_1 := zAd BK347.out 1; have hfz48_2 := zAd BK347.out 2))
       go_loopg [9] kj13 (fun kq v9 w' => ∃ (x9_3 : Int) (x347002_3 : List (S49)) (x348002_3 : List (S49)) (u347002 : Value) (u348002 : Value), v9 = .int .i64 x9_3 ∧ zA (bulwarkref11_Split.l0 kq x9_3 a0_0 a0_1 l0_2 a0_0 a1 x347002_3 a1 a0_1 x348002_3 = some (r1, r2, r3, r4, r5, r6, r7)) ∧ zA (kq ≤ kj13) ∧ zA (Kd.V k49 49 w' w.heap.size (fun k_ => (P0_2_ k_ ∨ w.heap.size ≤ k_) ∧ some k_ ≠ (u347002 : Value).ownBlock ∧ some k_ ≠ (u348002 : Value).ownBlock ∧ k_ ≠ gb341 ∧ k_ ≠ gb342 ∧ k_ ≠ gb343 ∧ k_ ≠ gb346 ∧ k_ ≠ gb347) (.slice A0_2 l0_2.length c0_2) l0_2) ∧ zA (Kd.N k49 49 w' w.heap.size (fun k_ => (P0_2_ k_ ∨ w.heap.size ≤ k_) ∧ some k_ ≠ (u348002 : Value).ownBlock ∧ k_ ≠ gb341 ∧ k_ ≠ gb342 ∧ k_ ≠ gb343 ∧ k_ ≠ gb346 ∧ k_ ≠ gb347) u347002 x347002_3) ∧ zA (Kd.N k49 49 w' w.heap.size (fun k_ => (P0_2_ k_ ∨ w.heap.size ≤ k_) ∧ some k_ ≠ (u347002 : Value).ownBlock ∧ k_ ≠ gb341 ∧ k_ ≠ gb342 ∧ k_ ≠ gb343 ∧ k_ ≠ gb346 ∧ k_ ≠ gb347) u348002 x348002_3) ∧ zA (w'.heap[gb341]? = some (.cells #[.string a0_0, .string a0_1, (.slice A0_2 l0_2.length c0_2)] 25 (0, 0))) ∧ zA (w'.heap[gb342]? = some (.cells #[.string (⟨#[]⟩ : ByteArray), .string (⟨#[]⟩ : ByteArray), (.slice none 0 0)] 25 (0, 0))) ∧ zA (w'.heap[gb343]? = some (.cells #[.string (⟨#[]⟩ : ByteArray), .string (⟨#[]⟩ : ByteArray), (.slice none 0 0)] 25 (0, 0))) ∧ zA (w'.heap[gb346]? = some (.cells #[.string a0_0, .string a1, u347002] 25 (0, 0))) ∧ zA (w'.heap[gb347]? = some (.cells #[.string a1, .string a0_1, u348002] 25 (0, 0))) ∧ zA (Below w.heap.size w w'))
       case atStart => exact ⟨(0), (([] : List (S49))), (([] : List (S49))), (.slice none 0 0), (.slice none 0 0), (by first | rfl | (simp; done) | (simp [*]; done)), H', ⟨Nat.le_refl _⟩, ⟨by (with_reducible repeat (first | apply Kd.zDj | apply Kd.zDi | apply Kd.zDg)); exact Kd.zFd (Kd.V_far (p := ⟨gb347, 2, none⟩) (Kd.V_far (p := ⟨gb347, 1, none⟩) (Kd.V_far (p := ⟨gb347, 0, none⟩) (Kd.zFd HO_342002.out (fun k_ hk => (⟨hk, hk.2⟩ : _ ∧ k_ ≠ gb347))) (fun _ hk => hk.2) (.string a1)) (fun _ hk => hk.2) (.string a0_1)) (fun _ hk => hk.2) (.slice none 0 0)) (fun _ hk => ⟨hk.1.1.1.1, ⟨(by simp [Value.ownBlock]), ⟨(by simp [Value.ownBlock]), ⟨hk.1.1.1.2.1, ⟨hk.1.1.1.2.2.1, ⟨hk.1.1.1.2.2.2, ⟨hk.1.1.2, hk.1.2⟩⟩⟩⟩⟩⟩⟩)⟩, ⟨by first | exact Kd.S_nil _ _ _ _ _ | exact Kd.N_nil _ _ _ _ _ | exact Kd.V_nil _ _ _ _ _ | exact Kd.Q_nil _ _ _ _ _ | exact Kd.R_nil _ _ _ _ _⟩, ⟨by first | exact Kd.S_nil _ _ _ _ _ | exact Kd.N_nil _ _ _ _ _ | exact Kd.V_nil _ _ _ _ _ | exact Kd.Q_nil _ _ _ _ _ | exact Kd.R_nil _ _ _ _ _⟩, ⟨by (with_reducible repeat (first | refine zAf ?_ _ | refine zAg ?_ | refine zAe ?_ _)); refine zBd ?_ NB341_347.out _; (with_reducible repeat (first | refine zAf ?_ _ | refine zAg ?_ | refine zAe ?_ _)); refine zBd ?_ NB341_347.out _; (with_reducible repeat (first | refine zAf ?_ _ | refine zAg ?_ | refine zAe ?_ _)); refine zBd ?_ NB341_347.out _; (with_reducible repeat (first | refine zAf ?_ _ | refine zAg ?_ | refine zAe ?_ _)); exact BK341.out⟩, ⟨by (with_reducible repeat (first | refine zAf ?_ _ | refine zAg ?_ | refine zAe ?_ _)); refine zBd ?_ NB342_347.out _; (with_reducible repeat (first | refine zAf ?_ _ | refine zAg ?_ | refine zAe ?_ _)); refine zBd ?_ NB342_347.out _; (with_reducible repeat (first | refine zAf ?_ _ | refine zAg ?_ | refine zAe ?_ _)); refine zBd ?_ NB342_347.out _; (with_reducible repeat (first | refine zAf ?_ _ | refine zAg ?_ | refine zAe ?_ _)); exact BK342.out⟩, ⟨by (with_reducible repeat (first | refine zAf ?_ _ | refine zAg ?_ | refine zAe ?_ _)); refine zBd ?_ NB343_347.out _; (with_reducible repeat (first | refine zAf ?_ _ | refine zAg ?_ | refine zAe ?_ _)); refine zBd ?_ NB343_347.out _; (with_reducible repeat (first | refine zAf ?_ _ | refine zAg ?_ | refine zAe ?_ _)); refine zBd ?_ NB343_347.out _; (with_reducible repeat (first | refine zAf ?_ _ | refine zAg ?_ | refine zAe ?_ _)); exact BK343.out⟩, ⟨by (with_reducible repeat (first | refine zAf ?_ _ | refine zAg ?_ | refine zAe ?_ _)); refine zBd ?_ NB346_347.out _; (with_reducible repeat (first | refine zAf ?_ _ | refine zAg ?_ | refine zAe ?_ _)); refine zBd ?_ NB346_347.out _; (with_reducible repeat (first | refine zAf ?_ _ | refine zAg ?_ | refine zAe ?_ _)); refine zBd ?_ NB346_347.out _; (with_reducible repeat (first | refine zAf ?_ _ | refine zAg ?_ | refine zAe ?_ _)); exact BK346.out⟩, ⟨by (with_reducible repeat (first | refine zAf ?_ _ | refine zAg ?_ | refine zAe ?_ _)); refine zCj (cs := #[.string a1, .string a0_1, .slice none 0 0]) ?_ 2 _ rfl; (with_reducible repeat (first | refine zAf ?_ _ | refine zAg ?_ | refine zAe ?_ _)); refine zCj (cs := #[.string a1, .string (⟨#[]⟩ : ByteArray), .slice none 0 0]) ?_ 1 _ rfl; (with_reducible repeat (first | refine zAf ?_ _ | refine zAg ?_ | refine zAe ?_ _)); refine zCj (cs := #[.string (⟨#[]⟩ : ByteArray), .string (⟨#[]⟩ : ByteArray), .slice none 0 0]) ?_ 0 _ rfl; (with_reducible repeat (first | refine zAf ?_ _ | refine zAg ?_ | refine zAe ?_ _)); exact BK347.out⟩, ⟨by repeat (first | (with_reducible first | exact HB.out | apply zAb | apply zAc | apply zAh | refine zAj ?_ GE341.out | refine zAj ?_ GE342.out | refine zAj ?_ GE343.out | refine zAj ?_ GE346.out | refine zAj ?_ GE347.out) | exact HB.out)⟩⟩
       case round =>
        clear H'
        try clear c1
        try clear c2
        try clear p2
        try clear c3
        try clear c4
        try clear c5
        try clear c7
        try clear c7b0
        try clear c7b1
        try clear c8
        try clear c9
        try clear c10
        try clear c12
        try clear c16
        try clear c16b0
        try clear c17
        try clear c18
        try clear c20
        try clear c20b0
        try clear c20b1
        try clear c21
        try clear c22
        try clear c25
        try clear c26
        try clear c28
        try clear c29
        try clear c30
        try clear c32
        try clear c34
        try clear c35
        try clear c38
        try clear c39
        try clear c40
        try clear c44
        try clear c45
        try clear c46
        try clear c47
        try clear hcz11_0
        try clear hcz11_1
        try clear hcz11_2
        try clear hcz13_0
        try clear hcz13_1
        try clear hcz13_2
        try clear hcz19_0
        try clear hcz19_1
        try clear hcz19_2
        try clear hcz23_0
        try clear hcz23_1
        try clear hcz23_2
        try clear hcz27_0
        try clear hcz27_1
        try clear hcz27_2
        try clear hcz31_0
        try clear hcz31_1
        try clear hcz31_2
        try clear hcz33_0
        try clear hcz33_1
        try clear hcz33_2
        try clear hcz36_0
        try clear hcz36_1
        try clear hcz36_2
        try clear hcz41_0
        try clear hcz41_1
        try clear hcz41_2
        try clear hcz42_0
        try clear hcz42_1
        try clear hcz42_2
        try clear hcz48_0
        try clear hcz48_1
        try clear hcz48_2
        try clear hfz11_0
        try clear hfz11_1
        try clear hfz11_2
        try clear hfz13_0
        try clear hfz13_1
        try clear hfz13_2
        try clear hfz19_0
        try clear hfz19_1
        try clear hfz19_2
        try clear hfz23_0
        try clear hfz23_1
        try clear hfz23_2
        try clear hfz27_0
        try clear hfz27_1
        try clear hfz27_2
        try clear hfz31_0
        try clear hfz31_1
        try clear hfz31_2
        try clear hfz33_0
        try clear hfz33_1
        try clear hfz33_2
        try clear hfz36_0
        try clear hfz36_1
        try clear hfz36_2
        try clear hfz41_0
        try clear hfz41_1
        try clear hfz41_2
        try clear hfz42_0
        try clear hfz42_1
        try clear hfz42_2
        try clear hfz48_0
        try clear hfz48_1
        try clear hfz48_2
        try clear p2
        obtain ⟨x9_3, x347002_3, x348002_3, u347002, u348002, rfl, HA, HK3, HO_342002, HO_347002, HO_348002, BK341, BK342, BK343, BK346, BK347, HB⟩ := hrel
        cases gk with
        | zero => exact absurd HA.out (by simp [bulwarkref11_Split.l0])
        | succ k3 =>
         have H := HA.out
         clear HA
         simp only [bulwarkref11_Split.l0] at H
         by_cases c49 : x9_3 < (l0_2.length : Int)
         ·rw [if_pos c49] at H
          have c49b0 : decide (x9_3 < (l0_2.length : Int)) = true := decide_eq_true c49
          clear c49
          by_cases c50 : 0 ≤ x9_3
          ·rw [if_pos c50] at H
           have c50b0 : decide (0 ≤ x9_3) = true := decide_eq_true c50
           clear c50
           replace H := Option.bind_eq_some_iff.mp H
           obtain ⟨t349, A510, H⟩ := H
           replace H : (if t349 = true then (if x347002_3.length < 1599289640401 then (bulwarkref11_Split.l0 k3 (wrap64 (x9_3 + 1)) a0_0 a0_1 l0_2 a0_0 a1 (x347002_3 ++ [(⟨(⟨(zB l0_2 x9_3).f0.f0, (zB l0_2 x9_3).f0.f1, (zB l0_2 x9_3).f0.f2, (zB l0_2 x9_3).f0.f3⟩ : S46), (zB l0_2 x9_3).f1, (zB l0_2 x9_3).f2⟩ : S49)]) a1 a0_1 x348002_3) else (none)) else (if x348002_3.length < 1599289640401 then (bulwarkref11_Split.l0 k3 (wrap64 (x9_3 + 1)) a0_0 a0_1 l0_2 a0_0 a1 x347002_3 a1 a0_1 (x348002_3 ++ [(⟨(⟨(zB l0_2 x9_3).f0.f0, (zB l0_2 x9_3).f0.f1, (zB l0_2 x9_3).f0.f2, (zB l0_2 x9_3).f0.f3⟩ : S46), (zB l0_2 x9_3).f1, (zB l0_2 x9_3).f2⟩ : S49)])) else (none))) = some (r1, r2, r3, r4, r5, r6, r7) := H
           have A51 := zA.mk A510
           clear A510
           by_cases c52 : t349 = true
           ·subst c52
            have H1 : (if x347002_3.length < 1599289640401 then (bulwarkref11_Split.l0 k3 (wrap64 (x9_3 + 1)) a0_0 a0_1 l0_2 a0_0 a1 (x347002_3 ++ [(⟨(⟨(zB l0_2 x9_3).f0.f0, (zB l0_2 x9_3).f0.f1, (zB l0_2 x9_3).f0.f2, (zB l0_2 x9_3).f0.f3⟩ : S46), (zB l0_2 x9_3).f1, (zB l0_2 x9_3).f2⟩ : S49)]) a1 a0_1 x348002_3) else (none)) = some (r1, r2, r3, r4, r5, r6, r7) := by rw [if_pos rfl] at H; exact H
            clear H
            have H := H1
            clear H1
            by_cases c53 : x347002_3.length < 1599289640401
            ·rw [if_pos c53] at H
             have LMc53 := zA.mk c53
             clear c53
             obtain ⟨y351, hy351⟩ : ∃ y_ : List (S49), y_ = (x347002_3 ++ [(⟨(⟨(zB l0_2 x9_3).f0.f0, (zB l0_2 x9_3).f0.f1, (zB l0_2 x9_3).f0.f2, (zB l0_2 x9_3).f0.f3⟩ : S46), (zB l0_2 x9_3).f1, (zB l0_2 x9_3).f2⟩ : S49)]) := ⟨_, rfl⟩
             replace H : (bulwarkref11_Split.l0 k3 (wrap64 (x9_3 + 1)) a0_0 a0_1 l0_2 a0_0 a1 y351 a1 a0_1 x348002_3) = some (r1, r2, r3, r4, r5, r6, r7) := by first | (rw [hy351]; with_reducible exact H) | (have H2_ := (Option.bind_some _ _).symm.trans H; rw [hy351]; with_reducible exact H2_) | (have H2_ := (Option.bind_some _ _).symm.trans H; with_reducible exact H2_) | with_reducible exact H | (rw [hy351]; exact H) | exact H
             have Ny351 := zA.mk hy351
             clear hy351
             have H' := zA.mk H
             clear H
             have hnb54 := NB341_342.out
             have hnc54 := NB342_341.out
             have hnb55 := NB341_343.out
             have hnc55 := NB343_341.out
             have hnb56 := NB341_346.out
             have hnc56 := NB346_341.out
             have hnb57 := NB341_347.out
             have hnc57 := NB347_341.out
             have hcz58_0 : wr.cell? ⟨gb341, 0, none⟩ = some (.string a0_0) := (zAa BK341.out 0).trans rfl
             have hcz58_1 : wr.cell? ⟨gb341, 1, none⟩ = some (.string a0_1) := (zAa BK341.out 1).trans rfl
             have hcz58_2 : wr.cell? ⟨gb341, 2, none⟩ = some (.slice A0_2 l0_2.length c0_2) := (zAa BK341.out 2).trans rfl
             have hfz58_0 := zAd BK341.out 0
             have hfz58_1 := zAd BK341.out 1
             have hfz58_2 := zAd BK341.out 2
             try go_wp2
             have n0_ := zA.mk (Kd.zDg HO_342002.out)
             have n1_ := zA.mk (Kd.zEg HO_347002.out)
             have n2_ := zA.mk (Kd.zEg HO_348002.out)
             have n3_ := zA.mk (zAg BK341.out)
             have n4_ := zA.mk (zAg BK342.out)
             have n5_ := zA.mk (zAg BK343.out)
             have n6_ := zA.mk (zAg BK346.out)
             have n7_ := zA.mk (zAg BK347.out)
             have n8_ := zA.mk (zAh HB.out)
             clear HO_342002
             clear HO_347002
             clear HO_348002
             clear BK341
             clear BK342
             clear BK343
             clear BK346
             clear BK347
             clear HB
             have HO_342002 := n0_
             have HO_347002 := n1_
             have HO_348002 := n2_
             have BK341 := n3_
             have BK342 := n4_
             have BK343 := n5_
             have BK346 := n6_
             have BK347 := n7_
             have HB := n8_
             clear n0_ n1_ n2_ n3_ n4_ n5_ n6_ n7_ n8_
             have p348 : 0 ≤ (x9_3 : Int) := of_decide_eq_true (by first | (with_reducible assumption) | assumption)
             have q348 : x9_3 < (l0_2.length : Int) := of_decide_eq_true (by first | (with_reducible assumption) | assumption)
             obtain ⟨ad348, A348_4, c348_4, e348, hx348_0, hx348_1, hx348_2, hx348_3, hx348_4, hx348_5, hl348_4, hi348_4⟩ := zFj (Kd.V_reads' HO_342002.out).2.2 x9_3 p348 q348
             cases e348
             obtain ⟨ce348, hce348, hMe348, hcc348⟩ := Kd.V_get HO_342002.out z49 x9_3 p348 (by first | exact q348 | exact of_decide_eq_true (by first | (with_reducible assumption) | assumption) | (have e_ := (Kd.V_reads' HO_342002.out).1; omega))
             obtain ⟨ua348_4, uc348_4, rfl, ul348_4, ge348_4⟩ := k49_openF hMe348
             have hv348_4 := hcc348 4 _ rfl
             rw [zEe _ _ 4 (by omega)] at hv348_4
             replace hv348_4 := Option.some.inj (hv348_4.symm.trans hx348_4)
             injection hv348_4 with hva_ hvn_ hvc_
             rw [hva_] at ge348_4
             rw [hvc_] at ul348_4
             have HL348_4 := zA.mk (show Kd.V (Kd.int .u8) 5 _ w.heap.size _ _ ((zB l0_2 x9_3).f1) from Kd.V_mk ul348_4 ge348_4)
             clear hva_ hvn_ hvc_ ge348_4 ul348_4
             clear hcc348 hce348
             have HR348_4 := zA.mk hi348_4
             have HC348_4 := zA.mk hl348_4
             clear hi348_4 hl348_4
             replace p348 := eq_true p348
             replace q348 := eq_true q348
             obtain ⟨Ao60, co60, eo60⟩ := Kd.N_slice HO_347002.out
             (first | subst eo60 | (injection eo60 with f1_ f2_ f3_; have f4_ := f1_.symm; have f5_ := f3_.symm; clear f1_ f2_ f3_; subst f4_; subst f5_))
             refine start_ (n := 9) (S := fun w' => w'.cell? ⟨gb346, 0, none⟩ = some (.string a0_0) ∧ w'.cell? ⟨gb346, 1, none⟩ = some (.string a1) ∧ w'.cell? ⟨gb346, 2, none⟩ = some (.slice Ao60 x347002_3.length co60) ∧ w'.cell? ⟨gb341, 0, none⟩ = some (.string a0_0) ∧ w'.cell? ⟨gb341, 1, none⟩ = some (.string a0_1) ∧ w'.cell? ⟨gb341, 2, none⟩ = some (.slice (some ad348) l0_2.length c0_2) ∧ w'.cell? (ad348.add ((x9_3).toNat * 6)) = some (.string ((zB l0_2 x9_3).f0.f0)) ∧ w'.cell? ⟨(ad348.add ((x9_3).toNat * 6)).block, (ad348.add ((x9_3).toNat * 6)).off + 1, none⟩ = some (.string ((zB l0_2 x9_3).f0.f1)) ∧ w'.cell? ⟨(ad348.add ((x9_3).toNat * 6)).block, (ad348.add ((x9_3).toNat * 6)).off + 2, none⟩ = some (.string ((zB l0_2 x9_3).f0.f2)) ∧ w'.cell? ⟨(ad348.add ((x9_3).toNat * 6)).block, (ad348.add ((x9_3).toNat * 6)).off + 3, none⟩ = some (.int .u64 ((zB l0_2 x9_3).f0.f3)) ∧ w'.cell? ⟨(ad348.add ((x9_3).toNat * 6)).block, (ad348.add ((x9_3).toNat * 6)).off + 4, none⟩ = some (.slice A348_4 ((zB l0_2 x9_3).f1).length c348_4) ∧ w'.cell? ⟨(ad348.add ((x9_3).toNat * 6)).block, (ad348.add ((x9_3).toNat * 6)).off + 5, none⟩ = some (.bool ((zB l0_2 x9_3).f2))) (ds := []) #[false, false, false, false, false, false, false, false, false] (by kernel_rfl) rfl rfl ⟨(zAa BK346.out 0).trans rfl, (zAa BK346.out 1).trans rfl, (zAa BK346.out 2).trans rfl, (zAa BK341.out 0).trans rfl, (zAa BK341.out 1).trans rfl, (zAa BK341.out 2).trans rfl, hx348_0, hx348_1, hx348_2, hx348_3, hx348_4, hx348_5⟩ (fun hHeld => ?_); refine with_tabW bulwarkref11_Split.tab10 bulwarkref11_Split.bits10 (fun HT_ HW_ => ?_)
             generalize wr.drew = w59 at HO_342002 HO_347002 HO_348002 BK341 BK342 BK343 BK346 BK347 HB HL348_4 HR348_4 hx348_0 hx348_1 hx348_2 hx348_3 hx348_4 hx348_5 hHeld ⊢
             refine pure_ (i := 1) (N := some 55) (v := ?_) (a' := ?_) #[false, true, false, false, false, false, false, false, false] rfl rfl (zFg HT_.out (by kernel_rfl)) (fun _ _ _ h => h) (Or.inl ⟨by rfl, ?_⟩) ?_ ?_
             rotate_left
             ·intro w'
              go_simp
              with_reducible rfl
             rotate_left
             ·simp only [Act.put, List.setIfInBounds_toArray, List.set_cons_zero, List.set_cons_succ, i64_w, i32_w]
              rfl
             refine pure_ (i := 3) (N := some 57) (v := ?_) (a' := ?_) #[false, true, false, true, false, false, false, false, false] rfl rfl (zFg HT_.out (by kernel_rfl)) (fun _ _ _ h => h) (Or.inl ⟨by rfl, ?_⟩) ?_ ?_
             rotate_left
             ·intro w'
              go_simp
              with_reducible rfl
             rotate_left
             ·simp only [Act.put, List.setIfInBounds_toArray, List.set_cons_zero, List.set_cons_succ, i64_w, i32_w]
              rfl
             refine take_ (i := 0) (N := some 54) (v := ?_) (a' := ?_) #[true, true, false, true, false, false, false, false, false] rfl rfl (zGa HT_.out HW_.out (by kernel_rfl)) (fun _ _ _ h => h) (Or.inl ⟨by rfl, ?_⟩) hHeld ?_ ?_
             rotate_left
             ·rintro w' ⟨s0, s1, s2, s3, s4, s5, s6, s7, s8, s9, s10, s11⟩
              go_simp
              with_reducible rfl
             rotate_left
             ·simp only [Act.put, List.setIfInBounds_toArray, List.set_cons_zero, List.set_cons_succ, i64_w, i32_w]
              rfl
             refine take_ (i := 2) (N := some 56) (v := ?_) (a' := ?_) #[true, true, true, true, false, false, false, false, false] rfl rfl (zGa HT_.out HW_.out (by kernel_rfl)) (fun _ _ _ h => h) (Or.inl ⟨by rfl, ?_⟩) hHeld ?_ ?_
             rotate_left
             ·rintro w' ⟨s0, s1, s2, s3, s4, s5, s6, s7, s8, s9, s10, s11⟩
              go_simp
              with_reducible rfl
             rotate_left
             ·simp only [Act.put, List.setIfInBounds_toArray, List.set_cons_zero, List.set_cons_succ, i64_w, i32_w]
              rfl
             refine pure_ (i := 4) (N := some 58) (v := ?_) (a' := ?_) #[true, true, true, true, true, false, false, false, false] rfl rfl (zFg HT_.out (by kernel_rfl)) (fun _ _ _ h => h) (Or.inl ⟨by rfl, ?_⟩) ?_ ?_
             rotate_left
             ·intro w'
              go_simp
              with_reducible rfl
             rotate_left
             ·simp only [Act.put, List.setIfInBounds_toArray, List.set_cons_zero, List.set_cons_succ, i64_w, i32_w]
              rfl
             refine pure_ (i := 5) (N := some 59) (v := ?_) (a' := ?_) #[true, true, true, true, true, true, false, false, false] rfl rfl (zFg HT_.out (by kernel_rfl)) (fun _ _ _ h => h) (Or.inl ⟨by rfl, ?_⟩) ?_ ?_
             rotate_left
             ·intro w'
              go_simp
              with_reducible rfl
             rotate_left
             ·simp only [Act.put, List.setIfInBounds_toArray, List.set_cons_zero, List.set_cons_succ, i64_w, i32_w]
              rfl
             refine pure_ (i := 6) (N := some 60) (v := ?_) (a' := ?_) #[true, true, true, true, true, true, true, false, false] rfl rfl (zFg HT_.out (by kernel_rfl)) (fun _ _ _ h => h) (Or.inl ⟨by rfl, ?_⟩) ?_ ?_
             rotate_left
             ·intro w'
              go_simp
              with_reducible rfl
             rotate_left
             ·simp only [Act.put, List.setIfInBounds_toArray, List.set_cons_zero, List.set_cons_succ, i64_w, i32_w]
              rfl
             refine take_ (i := 7) (N := some 61) (v := ?_) (a' := ?_) #[true, true, true, true, true, true, true, true, false] rfl rfl (zGa HT_.out HW_.out (by kernel_rfl)) (fun _ _ _ h => h) (Or.inl ⟨by rfl, ?_⟩) hHeld ?_ ?_
             rotate_left
             ·rintro w' ⟨s0, s1, s2, s3, s4, s5, s6, s7, s8, s9, s10, s11⟩
              go_simp
              with_reducible rfl
             rotate_left
             ·simp only [Act.put, List.setIfInBounds_toArray, List.set_cons_zero, List.set_cons_succ, i64_w, i32_w]
              rfl
             refine one_ (i := 8) (N := some 62) #[true, true, true, true, true, true, true, true, true] rfl rfl (one_of HT_.out (by kernel_rfl)) (by decide) (fun K hK => ?_)
             refine goes_ Tryz.func56 (by kernel_rfl) rfl #[.agg #[.string a0_0, .string a1, .slice Ao60 x347002_3.length co60], .string ((zB l0_2 x9_3).f0.f0)] (by rfl) rfl rfl (by (try simp only [List.map_toArray, List.map_cons, List.map_nil]); first | done | rfl | (simp only [List.length_drop, List.length_take]; rfl)) ?_
             with_reducible refine (bulwarkref10_Tablet_Inside.calls k3 a0_0 a1 _ _ x347002_3 ((zB l0_2 x9_3).f0.f0) true _ ?side1 ?side2 A51.out).mono ?_
             (case side1 => repeat (first | exact (Kd.N_reads' HO_347002.out).2.2 | (with_reducible refine Kd.C_alloc ?_ _) | (with_reducible refine Kd.C_drewN ?_ _) | (with_reducible refine Kd.C_drew ?_)))
             (case side2 => exact (Kd.N_reads' HO_347002.out).2.1)
             rintro e w61 ⟨rfl, hb⟩
             have HS6_ := (hb.cell (World.block_lt_of_cell? _ _ (hHeld.2.2.2.2.2.2.1))).trans (hHeld.2.2.2.2.2.2.1)
             have HS7_ := (hb.cell (World.block_lt_of_cell? _ _ (hHeld.2.2.2.2.2.2.2.1))).trans (hHeld.2.2.2.2.2.2.2.1)
             have HS8_ := (hb.cell (World.block_lt_of_cell? _ _ (hHeld.2.2.2.2.2.2.2.2.1))).trans (hHeld.2.2.2.2.2.2.2.2.1)
             have HS9_ := (hb.cell (World.block_lt_of_cell? _ _ (hHeld.2.2.2.2.2.2.2.2.2.1))).trans (hHeld.2.2.2.2.2.2.2.2.2.1)
             have HS10_ := (hb.cell (World.block_lt_of_cell? _ _ (hHeld.2.2.2.2.2.2.2.2.2.2.1))).trans (hHeld.2.2.2.2.2.2.2.2.2.2.1)
             have HS11_ := (hb.cell (World.block_lt_of_cell? _ _ (hHeld.2.2.2.2.2.2.2.2.2.2.2))).trans (hHeld.2.2.2.2.2.2.2.2.2.2.2)
             refine ⟨_, rfl, ?_⟩
             have n0_ := zA.mk (Kd.V_below (by (with_reducible repeat (first | apply Kd.zDj | apply Kd.zDi | apply Kd.zDg)); exact HO_342002.out) hb)
             have n1_ := zA.mk (Kd.N_below (by (with_reducible repeat (first | apply Kd.zFf | apply Kd.zFe | apply Kd.zEg)); exact HO_347002.out) hb)
             have n2_ := zA.mk (Kd.N_below (by (with_reducible repeat (first | apply Kd.zFf | apply Kd.zFe | apply Kd.zEg)); exact HO_348002.out) hb)
             have n3_ := zA.mk (Kd.V_below (by (with_reducible repeat (first | apply Kd.zDj | apply Kd.zDi | apply Kd.zDg)); exact HL348_4.out) hb)
             have n4_ := zA.mk (zAi (g := gb341) (o := .cells #[.string a0_0, .string a0_1, .slice (some ad348) l0_2.length c0_2] 25 (0, 0)) (by (with_reducible repeat (first | refine zAf ?_ _ | refine zAg ?_ | refine zAe ?_ _)); exact BK341.out) hb)
             have n5_ := zA.mk (zAi (g := gb342) (o := .cells #[.string (⟨#[]⟩ : ByteArray), .string (⟨#[]⟩ : ByteArray), .slice none 0 0] 25 (0, 0)) (by (with_reducible repeat (first | refine zAf ?_ _ | refine zAg ?_ | refine zAe ?_ _)); exact BK342.out) hb)
             have n6_ := zA.mk (zAi (g := gb343) (o := .cells #[.string (⟨#[]⟩ : ByteArray), .string (⟨#[]⟩ : ByteArray), .slice none 0 0] 25 (0, 0)) (by (with_reducible repeat (first | refine zAf ?_ _ | refine zAg ?_ | refine zAe ?_ _)); exact BK343.out) hb)
             have n7_ := zA.mk (zAi (g := gb346) (o := .cells #[.string a0_0, .string a1, .slice Ao60 x347002_3.length co60] 25 (0, 0)) (by (with_reducible repeat (first | refine zAf ?_ _ | refine zAg ?_ | refine zAe ?_ _)); exact BK346.out) hb)
             have n8_ := zA.mk (zAi (g := gb347) (o := .cells #[.string a1, .string a0_1, u348002] 25 (0, 0)) (by (with_reducible repeat (first | refine zAf ?_ _ | refine zAg ?_ | refine zAe ?_ _)); exact BK347.out) hb)
             have n9_ := zA.mk (Kd.zBe (by repeat (first | (with_reducible exact HR348_4.out) | (with_reducible refine Kd.C_alloc ?_ _) | (with_reducible refine Kd.C_drewN ?_ _) | (with_reducible refine Kd.C_drew ?_) | exact HR348_4.out)) hb)
             have n10_ := zA.mk (zBh (by repeat (first | (with_reducible first | exact HB.out | apply zAb | apply zAc | apply zAh | refine zAj ?_ GE341.out | refine zAj ?_ GE342.out | refine zAj ?_ GE343.out | refine zAj ?_ GE346.out | refine zAj ?_ GE347.out) | exact HB.out)) hb)
             clear HO_342002
             clear HO_347002
             clear HO_348002
             clear HL348_4
             clear BK341
             clear BK342
             clear BK343
             clear BK346
             clear BK347
             clear HR348_4
             clear HB
             have HO_342002 := n0_
             have HO_347002 := n1_
             have HO_348002 := n2_
             have HL348_4 := n3_
             have BK341 := n4_
             have BK342 := n5_
             have BK343 := n6_
             have BK346 := n7_
             have BK347 := n8_
             have HR348_4 := n9_
             have HB := n10_
             clear n0_ n1_ n2_ n3_ n4_ n5_ n6_ n7_ n8_ n9_ n10_
             (try clear hb)
             (try clear hb2)
             (try clear hk)
             (try clear hi)
             refine hK.out _ _ ⟨(zAa BK346.out 0).trans rfl, (zAa BK346.out 1).trans rfl, (zAa BK346.out 2).trans rfl, (zAa BK341.out 0).trans rfl, (zAa BK341.out 1).trans rfl, (zAa BK341.out 2).trans rfl, HS6_, HS7_, HS8_, HS9_, HS10_, HS11_⟩ (fun hHeld => ?_)
             clear hK K
             refine norm_ (a' := ?_) ?_ ?_
             rotate_left
             ·show Act.put _ (some 62) _ = _
              simp only [Act.put, List.setIfInBounds_toArray, List.set_cons_zero, List.set_cons_succ, i64_w, i32_w]
              rfl
             refine done_ (done_of HT_.out (by kernel_rfl)) ?_
             try go_wp2
             have n0_ := zA.mk (Kd.zDg HO_342002.out)
             have n1_ := zA.mk (Kd.zEg HO_347002.out)
             have n2_ := zA.mk (Kd.zEg HO_348002.out)
             have n3_ := zA.mk (Kd.zDg HL348_4.out)
             have n4_ := zA.mk (zAg BK341.out)
             have n5_ := zA.mk (zAg BK342.out)
             have n6_ := zA.mk (zAg BK343.out)
             have n7_ := zA.mk (zAg BK346.out)
             have n8_ := zA.mk (zAg BK347.out)
             have n9_ := zA.mk (Kd.C_drew HR348_4.out)
             have n10_ := zA.mk (zAh HB.out)
             clear HO_342002
             clear HO_347002
             clear HO_348002
             clear HL348_4
             clear BK341
             clear BK342
             clear BK343
             clear BK346
             clear BK347
             clear HR348_4
             clear HB
             have HO_342002 := n0_
             have HO_347002 := n1_
             have HO_348002 := n2_
             have HL348_4 := n3_
             have BK341 := n4_
             have BK342 := n5_
             have BK343 := n6_
             have BK346 := n7_
             have BK347 := n8_
             have HR348_4 := n9_
             have HB := n10_
             clear n0_ n1_ n2_ n3_ n4_ n5_ n6_ n7_ n8_ n9_ n10_
             have p350 : 0 ≤ (x9_3 : Int) := of_decide_eq_true (by first | (with_reducible assumption) | assumption)
             have q350 : x9_3 < (l0_2.length : Int) := of_decide_eq_true (by first | (with_reducible assumption) | assumption)
             obtain ⟨ad350, A350_4, c350_4, e350, hx350_0, hx350_1, hx350_2, hx350_3, hx350_4, hx350_5, hl350_4, hi350_4⟩ := zFj (Kd.V_reads' HO_342002.out).2.2 x9_3 p350 q350
             obtain rfl : ad348 = ad350 := (by injection e350)
             obtain ⟨ce350, hce350, hMe350, hcc350⟩ := Kd.V_get HO_342002.out z49 x9_3 p350 (by first | exact q350 | exact of_decide_eq_true (by first | (with_reducible assumption) | assumption) | (have e_ := (Kd.V_reads' HO_342002.out).1; omega))
             obtain ⟨ua350_4, uc350_4, rfl, ul350_4, ge350_4⟩ := k49_openF hMe350
             have hv350_4 := hcc350 4 _ rfl
             rw [zEe _ _ 4 (by omega)] at hv350_4
             replace hv350_4 := Option.some.inj (hv350_4.symm.trans hx350_4)
             injection hv350_4 with hva_ hvn_ hvc_
             rw [hva_] at ge350_4
             rw [hvc_] at ul350_4
             have HL350_4 := zA.mk (show Kd.V (Kd.int .u8) 5 _ w.heap.size _ _ ((zB l0_2 x9_3).f1) from Kd.V_mk ul350_4 ge350_4)
             clear hva_ hvn_ hvc_ ge350_4 ul350_4
             clear hcc350 hce350
             have HR350_4 := zA.mk hi350_4
             have HC350_4 := zA.mk hl350_4
             clear hi350_4 hl350_4
             replace p350 := eq_true p350
             replace q350 := eq_true q350
             refine start_ (n := 11) (S := fun w' => w'.cell? ⟨gb346, 0, none⟩ = some (.string a0_0) ∧ w'.cell? ⟨gb346, 1, none⟩ = some (.string a1) ∧ w'.cell? ⟨gb346, 2, none⟩ = some (.slice Ao60 x347002_3.length co60) ∧ w'.cell? ⟨gb341, 0, none⟩ = some (.string a0_0) ∧ w'.cell? ⟨gb341, 1, none⟩ = some (.string a0_1) ∧ w'.cell? ⟨gb341, 2, none⟩ = some (.slice (some ad348) l0_2.length c0_2) ∧ w'.cell? (ad348.add ((x9_3).toNat * 6)) = some (.string ((zB l0_2 x9_3).f0.f0)) ∧ w'.cell? ⟨(ad348.add ((x9_3).toNat * 6)).block, (ad348.add ((x9_3).toNat * 6)).off + 1, none⟩ = some (.string ((zB l0_2 x9_3).f0.f1)) ∧ w'.cell? ⟨(ad348.add ((x9_3).toNat * 6)).block, (ad348.add ((x9_3).toNat * 6)).off + 2, none⟩ = some (.string ((zB l0_2 x9_3).f0.f2)) ∧ w'.cell? ⟨(ad348.add ((x9_3).toNat * 6)).block, (ad348.add ((x9_3).toNat * 6)).off + 3, none⟩ = some (.int .u64 ((zB l0_2 x9_3).f0.f3)) ∧ w'.cell? ⟨(ad348.add ((x9_3).toNat * 6)).block, (ad348.add ((x9_3).toNat * 6)).off + 4, none⟩ = some (.slice A350_4 ((zB l0_2 x9_3).f1).length c350_4) ∧ w'.cell? ⟨(ad348.add ((x9_3).toNat * 6)).block, (ad348.add ((x9_3).toNat * 6)).off + 5, none⟩ = some (.bool ((zB l0_2 x9_3).f2))) (ds := [8, 10]) #[false, false, false, false, false, false, false, false, false, false, false] (by kernel_rfl) rfl rfl ⟨(zAa BK346.out 0).trans rfl, (zAa BK346.out 1).trans rfl, (zAa BK346.out 2).trans rfl, (zAa BK341.out 0).trans rfl, (zAa BK341.out 1).trans rfl, (zAa BK341.out 2).trans rfl, hx350_0, hx350_1, hx350_2, hx350_3, hx350_4, hx350_5⟩ (fun hHeld => ?_); refine with_tabW bulwarkref11_Split.tab11 bulwarkref11_Split.bits11 (fun HT_ HW_ => ?_)
             generalize w61.drew = w62 at HO_342002 HO_347002 HO_348002 HL348_4 BK341 BK342 BK343 BK346 BK347 HR348_4 HB HL350_4 HR350_4 hx350_0 hx350_1 hx350_2 hx350_3 hx350_4 hx350_5 hHeld ⊢
             refine pure_ (i := 0) (N := some 63) (v := ?_) (a' := ?_) #[true, false, false, false, false, false, false, false, false, false, false] rfl rfl (zFg HT_.out (by kernel_rfl)) (fun _ _ _ h => h) (Or.inl ⟨by rfl, ?_⟩) ?_ ?_
             rotate_left
             ·intro w'
              go_simp
              with_reducible rfl
             rotate_left
             ·simp only [Act.put, List.setIfInBounds_toArray, List.set_cons_zero, List.set_cons_succ, i64_w, i32_w]
              rfl
             refine pure_ (i := 2) (N := some 65) (v := ?_) (a' := ?_) #[true, false, true, false, false, false, false, false, false, false, false] rfl rfl (zFg HT_.out (by kernel_rfl)) (fun _ _ _ h => h) (Or.inl ⟨by rfl, ?_⟩) ?_ ?_
             rotate_left
             ·intro w'
              go_simp
              with_reducible rfl
             rotate_left
             ·simp only [Act.put, List.setIfInBounds_toArray, List.set_cons_zero, List.set_cons_succ, i64_w, i32_w]
              rfl
             refine pure_ (i := 4) (N := some 67) (v := ?_) (a' := ?_) #[true, false, true, false, true, false, false, false, false, false, false] rfl rfl (zFg HT_.out (by kernel_rfl)) (fun _ _ _ h => h) (Or.inl ⟨by rfl, ?_⟩) ?_ ?_
             rotate_left
             ·intro w'
              go_simp
              with_reducible rfl
             rotate_left
             ·simp only [Act.put, List.setIfInBounds_toArray, List.set_cons_zero, List.set_cons_succ, i64_w, i32_w]
              rfl
             refine take_ (i := 1) (N := some 64) (v := ?_) (a' := ?_) #[true, true, true, false, true, false, false, false, false, false, false] rfl rfl (zGa HT_.out HW_.out (by kernel_rfl)) (fun _ _ _ h => h) (Or.inl ⟨by rfl, ?_⟩) hHeld ?_ ?_
             rotate_left
             ·rintro w' ⟨s0, s1, s2, s3, s4, s5, s6, s7, s8, s9, s10, s11⟩
              go_simp
              with_reducible rfl
             rotate_left
             ·simp only [Act.put, List.setIfInBounds_toArray, List.set_cons_zero, List.set_cons_succ, i64_w, i32_w]
              rfl
             refine take_ (i := 3) (N := some 66) (v := ?_) (a' := ?_) #[true, true, true, true, true, false, false, false, false, false, false] rfl rfl (zGa HT_.out HW_.out (by kernel_rfl)) (fun _ _ _ h => h) (Or.inl ⟨by rfl, ?_⟩) hHeld ?_ ?_
             rotate_left
             ·rintro w' ⟨s0, s1, s2, s3, s4, s5, s6, s7, s8, s9, s10, s11⟩
              go_simp
              with_reducible rfl
             rotate_left
             ·simp only [Act.put, List.setIfInBounds_toArray, List.set_cons_zero, List.set_cons_succ, i64_w, i32_w]
              rfl
             refine pure_ (i := 5) (N := some 68) (v := ?_) (a' := ?_) #[true, true, true, true, true, true, false, false, false, false, false] rfl rfl (zFg HT_.out (by kernel_rfl)) (fun _ _ _ h => h) (Or.inl ⟨by rfl, ?_⟩) ?_ ?_
             rotate_left
             ·intro w'
              go_simp
              with_reducible rfl
             rotate_left
             ·simp only [Act.put, List.setIfInBounds_toArray, List.set_cons_zero, List.set_cons_succ, i64_w, i32_w]
              rfl
             refine take_ (i := 6) (N := some 69) (v := ?_) (a' := ?_) #[true, true, true, true, true, true, true, false, false, false, false] rfl rfl (zGa HT_.out HW_.out (by kernel_rfl)) (fun _ _ _ h => h) (Or.inl ⟨by rfl, ?_⟩) hHeld ?_ ?_
             rotate_left
             ·rintro w' ⟨s0, s1, s2, s3, s4, s5, s6, s7, s8, s9, s10, s11⟩
              go_simp
              with_reducible rfl
             rotate_left
             ·simp only [Act.put, List.setIfInBounds_toArray, List.set_cons_zero, List.set_cons_succ, i64_w, i32_w]
              rfl
             refine one_ (i := 7) (N := some 70) #[true, true, true, true, true, true, true, true, false, false, false] rfl rfl (one_of HT_.out (by kernel_rfl)) (by decide) (fun K hK => ?_)
             refine value_ (w1 := ?_) (v := ?_) (by rfl) rfl ?_ ?_
             rotate_left 2
             ·go_simp
              constructor
              ·rfl
              ·rfl
             refine hK.out _ _ ⟨(zAa (zAe BK346.out _) 0).trans rfl, (zAa (zAe BK346.out _) 1).trans rfl, (zAa (zAe BK346.out _) 2).trans rfl, (zAa (zAe BK341.out _) 0).trans rfl, (zAa (zAe BK341.out _) 1).trans rfl, (zAa (zAe BK341.out _) 2).trans rfl, (World.cell?_alloc_lt _ _ _ (World.block_lt_of_cell? _ _ (hHeld.2.2.2.2.2.2.1))).trans (hHeld.2.2.2.2.2.2.1), (World.cell?_alloc_lt _ _ _ (World.block_lt_of_cell? _ _ (hHeld.2.2.2.2.2.2.2.1))).trans (hHeld.2.2.2.2.2.2.2.1), (World.cell?_alloc_lt _ _ _ (World.block_lt_of_cell? _ _ (hHeld.2.2.2.2.2.2.2.2.1))).trans (hHeld.2.2.2.2.2.2.2.2.1), (World.cell?_alloc_lt _ _ _ (World.block_lt_of_cell? _ _ (hHeld.2.2.2.2.2.2.2.2.2.1))).trans (hHeld.2.2.2.2.2.2.2.2.2.1), (World.cell?_alloc_lt _ _ _ (World.block_lt_of_cell? _ _ (hHeld.2.2.2.2.2.2.2.2.2.2.1))).trans (hHeld.2.2.2.2.2.2.2.2.2.2.1), (World.cell?_alloc_lt _ _ _ (World.block_lt_of_cell? _ _ (hHeld.2.2.2.2.2.2.2.2.2.2.2))).trans (hHeld.2.2.2.2.2.2.2.2.2.2.2)⟩ (fun hHeld => ?_)
             clear hK K
             refine norm_ (a' := ?_) ?_ ?_
             rotate_left
             ·show Act.put _ (some 70) _ = _
              simp only [Act.put, List.setIfInBounds_toArray, List.set_cons_zero, List.set_cons_succ, i64_w, i32_w]
              rfl
             refine last_ (i := 8) (N := some 71) #[true, true, true, true, true, true, true, true, true, false, false] rfl rfl (one_of HT_.out (by kernel_rfl)) (by decide) (fun K hK => ?_)
             refine Kd.N_append_step k49 (w0 := w) w.heap.size (by rfl) (.tmp 64) (.tmp 70) 22 49 (.agg #[(.string ⟨#[]⟩), (.string ⟨#[]⟩), (.string ⟨#[]⟩), (.int .u64 0), (.slice none 0 0), (.bool false)]) 88 rfl Tryz.underlying22 zEj rfl (by decide) (by omega) (.slice Ao60 x347002_3.length co60) x347002_3 (⟨(⟨(zB l0_2 x9_3).f0.f0, (zB l0_2 x9_3).f0.f1, (zB l0_2 x9_3).f0.f2, (zB l0_2 x9_3).f0.f3⟩ : S46), (zB l0_2 x9_3).f1, (zB l0_2 x9_3).f2⟩ : S49) [.string ((zB l0_2 x9_3).f0.f0), .string ((zB l0_2 x9_3).f0.f1), .string ((zB l0_2 x9_3).f0.f2), .int .u64 ((zB l0_2 x9_3).f0.f3), .slice A350_4 ((zB l0_2 x9_3).f1).length c350_4, .bool ((zB l0_2 x9_3).f2)] (fun k_ => (P0_2_ k_ ∨ w.heap.size ≤ k_) ∧ some k_ ≠ (u348002 : Value).ownBlock ∧ k_ ≠ gb341 ∧ k_ ≠ gb342 ∧ k_ ≠ gb343 ∧ k_ ≠ gb346 ∧ k_ ≠ gb347) (fun k_ => ((fun k_ => (P0_2_ k_ ∨ w.heap.size ≤ k_) ∧ some k_ ≠ (u348002 : Value).ownBlock ∧ k_ ≠ gb341 ∧ k_ ≠ gb342 ∧ k_ ≠ gb343 ∧ k_ ≠ gb346 ∧ k_ ≠ gb347)) k_ ∧ some k_ ≠ (.slice Ao60 x347002_3.length co60 : Value).ownBlock) rfl rfl ?aP (fun _ hk => hk) ?aF ?aO ?aB ?aS ?aL ?_
             (case aP => exact (k49_mkF _ _ (⟨(⟨(zB l0_2 x9_3).f0.f0, (zB l0_2 x9_3).f0.f1, (zB l0_2 x9_3).f0.f2, (zB l0_2 x9_3).f0.f3⟩ : S46), (zB l0_2 x9_3).f1, (zB l0_2 x9_3).f2⟩ : S49) (Kd.V_reads' (Kd.zFd (ok' := (fun k_ => ((fun k_ => (P0_2_ k_ ∨ w.heap.size ≤ k_) ∧ some k_ ≠ (u348002 : Value).ownBlock ∧ k_ ≠ gb341 ∧ k_ ≠ gb342 ∧ k_ ≠ gb343 ∧ k_ ≠ gb346 ∧ k_ ≠ gb347)) k_ ∧ some k_ ≠ (.slice Ao60 x347002_3.length co60 : Value).ownBlock)) (HL350_4.out) (fun k_ hk => ⟨⟨hk.1, ⟨hk.2.2.1, ⟨hk.2.2.2.1, ⟨hk.2.2.2.2.1, ⟨hk.2.2.2.2.2.1, ⟨hk.2.2.2.2.2.2.1, hk.2.2.2.2.2.2.2⟩⟩⟩⟩⟩⟩, hk.2.1⟩))).2.1 (Kd.V_F (Kd.zFd (ok' := (fun k_ => ((fun k_ => (P0_2_ k_ ∨ w.heap.size ≤ k_) ∧ some k_ ≠ (u348002 : Value).ownBlock ∧ k_ ≠ gb341 ∧ k_ ≠ gb342 ∧ k_ ≠ gb343 ∧ k_ ≠ gb346 ∧ k_ ≠ gb347)) k_ ∧ some k_ ≠ (.slice Ao60 x347002_3.length co60 : Value).ownBlock)) (HL350_4.out) (fun k_ hk => ⟨⟨hk.1, ⟨hk.2.2.1, ⟨hk.2.2.2.1, ⟨hk.2.2.2.2.1, ⟨hk.2.2.2.2.2.1, ⟨hk.2.2.2.2.2.2.1, hk.2.2.2.2.2.2.2⟩⟩⟩⟩⟩⟩, hk.2.1⟩)))))
             (case aB => exact (by repeat (first | (with_reducible first | exact HB.out | apply zAb | apply zAc | apply zAh | refine zAj ?_ GE341.out | refine zAj ?_ GE342.out | refine zAj ?_ GE343.out | refine zAj ?_ GE346.out | refine zAj ?_ GE347.out) | exact HB.out)))
             (case aF => exact (fun k_ hk => ⟨(.inr (Nat.le_trans (zBb (by repeat (first | (with_reducible first | exact HB.out | apply zAb | apply zAc | apply zAh | refine zAj ?_ GE341.out | refine zAj ?_ GE342.out | refine zAj ?_ GE343.out | refine zAj ?_ GE346.out | refine zAj ?_ GE347.out) | exact HB.out))) hk)), Kd.fresh' (Kd.N_lt (by (with_reducible repeat (first | apply Kd.zFf | apply Kd.zFe | apply Kd.zEg)); exact HO_348002.out)) k_ hk, Kd.freshB (g := gb341) (o := .cells #[.string a0_0, .string a0_1, .slice (some ad348) l0_2.length c0_2] 25 (0, 0)) (by (with_reducible repeat (first | refine zAf ?_ _ | refine zAg ?_ | refine zAe ?_ _)); exact BK341.out) k_ hk, Kd.freshB (g := gb342) (o := .cells #[.string (⟨#[]⟩ : ByteArray), .string (⟨#[]⟩ : ByteArray), .slice none 0 0] 25 (0, 0)) (by (with_reducible repeat (first | refine zAf ?_ _ | refine zAg ?_ | refine zAe ?_ _)); exact BK342.out) k_ hk, Kd.freshB (g := gb343) (o := .cells #[.string (⟨#[]⟩ : ByteArray), .string (⟨#[]⟩ : ByteArray), .slice none 0 0] 25 (0, 0)) (by (with_reducible repeat (first | refine zAf ?_ _ | refine zAg ?_ | refine zAe ?_ _)); exact BK343.out) k_ hk, Kd.freshB (g := gb346) (o := .cells #[.string a0_0, .string a1, .slice Ao60 x347002_3.length co60] 25 (0, 0)) (by (with_reducible repeat (first | refine zAf ?_ _ | refine zAg ?_ | refine zAe ?_ _)); exact BK346.out) k_ hk, Kd.freshB (g := gb347) (o := .cells #[.string a1, .string a0_1, u348002] 25 (0, 0)) (by (with_reducible repeat (first | refine zAf ?_ _ | refine zAg ?_ | refine zAe ?_ _)); exact BK347.out) k_ hk⟩))
             (case aO => exact (by (with_reducible repeat (first | apply Kd.zFf | apply Kd.zFe | apply Kd.zEg)); exact HO_347002.out))
             (case aS => exact (zBb (by repeat (first | (with_reducible first | exact HB.out | apply zAb | apply zAc | apply zAh | refine zAj ?_ GE341.out | refine zAj ?_ GE342.out | refine zAj ?_ GE343.out | refine zAj ?_ GE346.out | refine zAj ?_ GE347.out) | exact HB.out))))
             (case aL => have := LMc53.out; omega)
             intro v352 w63 ho hb hg hat
             rw [← Ny351.out] at ho
             have n0_ := zA.mk (Kd.V_afterv (ok := (fun k_ => (P0_2_ k_ ∨ w.heap.size ≤ k_) ∧ some k_ ≠ (u348002 : Value).ownBlock ∧ k_ ≠ gb341 ∧ k_ ≠ gb342 ∧ k_ ≠ gb343 ∧ k_ ≠ gb346 ∧ k_ ≠ gb347)) (by (with_reducible repeat (first | apply Kd.zDj | apply Kd.zDi | apply Kd.zDg)); exact Kd.zFd HO_342002.out (fun _ hk => ⟨⟨hk.1, ⟨hk.2.2.1, ⟨hk.2.2.2.1, ⟨hk.2.2.2.2.1, ⟨hk.2.2.2.2.2.1, ⟨hk.2.2.2.2.2.2.1, hk.2.2.2.2.2.2.2⟩⟩⟩⟩⟩⟩, hk.2.1⟩)) hg hat)
             have n1_ := zA.mk (Kd.N_afterv (ok := (fun k_ => (P0_2_ k_ ∨ w.heap.size ≤ k_) ∧ k_ ≠ gb341 ∧ k_ ≠ gb342 ∧ k_ ≠ gb343 ∧ k_ ≠ gb346 ∧ k_ ≠ gb347)) (by (with_reducible repeat (first | apply Kd.zFf | apply Kd.zFe | apply Kd.zEg)); exact Kd.zGg HO_348002.out (fun _ hk => ⟨⟨hk.1, ⟨hk.2.2.1, ⟨hk.2.2.2.1, ⟨hk.2.2.2.2.1, ⟨hk.2.2.2.2.2.1, hk.2.2.2.2.2.2⟩⟩⟩⟩⟩, hk.2.1⟩)) hg hat)
             have n2_ := zA.mk (zC (g := gb341) (o := .cells #[.string a0_0, .string a0_1, .slice (some ad348) l0_2.length c0_2] 25 (0, 0)) (by (with_reducible repeat (first | refine zAf ?_ _ | refine zAg ?_ | refine zAe ?_ _)); exact BK341.out) hg (Kd.N_ne HO_347002.out BK341.out (by decide)))
             have n3_ := zA.mk (zC (g := gb342) (o := .cells #[.string (⟨#[]⟩ : ByteArray), .string (⟨#[]⟩ : ByteArray), .slice none 0 0] 25 (0, 0)) (by (with_reducible repeat (first | refine zAf ?_ _ | refine zAg ?_ | refine zAe ?_ _)); exact BK342.out) hg (Kd.N_ne HO_347002.out BK342.out (by decide)))
             have n4_ := zA.mk (zC (g := gb343) (o := .cells #[.string (⟨#[]⟩ : ByteArray), .string (⟨#[]⟩ : ByteArray), .slice none 0 0] 25 (0, 0)) (by (with_reducible repeat (first | refine zAf ?_ _ | refine zAg ?_ | refine zAe ?_ _)); exact BK343.out) hg (Kd.N_ne HO_347002.out BK343.out (by decide)))
             have n5_ := zA.mk (zC (g := gb346) (o := .cells #[.string a0_0, .string a1, .slice Ao60 x347002_3.length co60] 25 (0, 0)) (by (with_reducible repeat (first | refine zAf ?_ _ | refine zAg ?_ | refine zAe ?_ _)); exact BK346.out) hg (Kd.N_ne HO_347002.out BK346.out (by decide)))
             have n6_ := zA.mk (zC (g := gb347) (o := .cells #[.string a1, .string a0_1, u348002] 25 (0, 0)) (by (with_reducible repeat (first | refine zAf ?_ _ | refine zAg ?_ | refine zAe ?_ _)); exact BK347.out) hg (Kd.N_ne HO_347002.out BK347.out (by decide)))
             have n7_ := zA.mk (Kd.V_afterv (ok := (fun k_ => (P0_2_ k_ ∨ w.heap.size ≤ k_) ∧ some k_ ≠ (u348002 : Value).ownBlock ∧ k_ ≠ gb341 ∧ k_ ≠ gb342 ∧ k_ ≠ gb343 ∧ k_ ≠ gb346 ∧ k_ ≠ gb347)) (by (with_reducible repeat (first | apply Kd.zDj | apply Kd.zDi | apply Kd.zDg)); exact Kd.zFd HL348_4.out (fun _ hk => ⟨⟨hk.1, ⟨hk.2.2.1, ⟨hk.2.2.2.1, ⟨hk.2.2.2.2.1, ⟨hk.2.2.2.2.2.1, ⟨hk.2.2.2.2.2.2.1, hk.2.2.2.2.2.2.2⟩⟩⟩⟩⟩⟩, hk.2.1⟩)) hg hat)
             have n8_ := zA.mk (Kd.V_afterv (ok := (fun k_ => (P0_2_ k_ ∨ w.heap.size ≤ k_) ∧ some k_ ≠ (u348002 : Value).ownBlock ∧ k_ ≠ gb341 ∧ k_ ≠ gb342 ∧ k_ ≠ gb343 ∧ k_ ≠ gb346 ∧ k_ ≠ gb347)) (by (with_reducible repeat (first | apply Kd.zDj | apply Kd.zDi | apply Kd.zDg)); exact Kd.zFd HL350_4.out (fun _ hk => ⟨⟨hk.1, ⟨hk.2.2.1, ⟨hk.2.2.2.1, ⟨hk.2.2.2.2.1, ⟨hk.2.2.2.2.2.1, ⟨hk.2.2.2.2.2.2.1, hk.2.2.2.2.2.2.2⟩⟩⟩⟩⟩⟩, hk.2.1⟩)) hg hat)
             have n9_ := zA.mk (hb)
             have n10_ := zA.mk (ho)
             clear HO_342002
             clear HO_348002
             clear BK341
             clear BK342
             clear BK343
             clear BK346
             clear BK347
             clear HL348_4
             clear HL350_4
             clear HB
             clear HO_347002
             have HO_342002 := n0_
             have HO_348002 := n1_
             have BK341 := n2_
             have BK342 := n3_
             have BK343 := n4_
             have BK346 := n5_
             have BK347 := n6_
             have HL348_4 := n7_
             have HL350_4 := n8_
             have HB := n9_
             have HO353 := n10_
             clear n0_ n1_ n2_ n3_ n4_ n5_ n6_ n7_ n8_ n9_ n10_
             clear ho hb hg hat
             obtain ⟨Ao64, co64, eo64⟩ := Kd.N_slice HO353.out
             (first | subst eo64 | (injection eo64 with f1_ f2_ f3_; have f4_ := f1_.symm; have f5_ := f3_.symm; clear f1_ f2_ f3_; subst f4_; subst f5_))
             refine hK.out _ _ ?_
             clear hK K
             refine norm_ (a' := ?_) ?_ ?_
             rotate_left
             ·show Act.put _ (some 71) _ = _
              simp only [Act.put, List.setIfInBounds_toArray, List.set_cons_zero, List.set_cons_succ, i64_w, i32_w]
              rfl
             refine pure_ (i := 9) (N := some 72) (v := ?_) (a' := ?_) #[true, true, true, true, true, true, true, true, true, true, false] rfl rfl (zFg HT_.out (by kernel_rfl)) (fun _ _ _ h => h) (Or.inl ⟨by rfl, ?_⟩) ?_ ?_
             rotate_left
             ·intro w'
              go_simp
              with_reducible rfl
             rotate_left
             ·simp only [Act.put, List.setIfInBounds_toArray, List.set_cons_zero, List.set_cons_succ, i64_w, i32_w]
              rfl
             refine last_ (i := 10) (N := none) #[true, true, true, true, true, true, true, true, true, true, true] rfl rfl (one_of HT_.out (by kernel_rfl)) (by decide) (fun K hK => ?_)
             have hs65 : w63.cell? ⟨gb346, 2, none⟩ = some (.slice Ao60 x347002_3.length co60) := (zAa BK346.out 2).trans rfl
             have hfs65 := zAd BK346.out 2
             have hns65_0 := NB341_346.out
             have hns65_1 := NB342_346.out
             have hns65_2 := NB343_346.out
             have hns65_4 := NB347_346.out
             have hms65_0 := NB346_341.out
             have hms65_1 := NB346_342.out
             have hms65_2 := NB346_343.out
             have hms65_4 := NB346_347.out
             refine skip_ (w1 := ?_) (by rfl) rfl ?_ ?_
             rotate_left
             ·go_simp
              rfl
             refine hK.out _ _ ?_
             clear hK K
             refine done_ (done_of HT_.out (by kernel_rfl)) ?_
             try go_wp2
             go_roundg k3
             case measure => have := HJ2.out; have := HJ13.out; have := HK3.out; omega
             case rel => exact ⟨(wrap64 (x9_3 + 1)), (y351), (x348002_3), (.slice Ao64 y351.length co64), (u348002), (by first | rfl | (simp; done) | (simp [*]; done)), H', ⟨by have := HJ2.out; have := HJ13.out; have := HK3.out; omega⟩, ⟨by (with_reducible repeat (first | apply Kd.zDj | apply Kd.zDi | apply Kd.zDg)); exact Kd.zFd (Kd.V_far (p := ⟨gb346, 2, none⟩) (Kd.zFd HO_342002.out (fun k_ hk => (⟨hk, hk.1.2.2.2.2.2.1⟩ : _ ∧ k_ ≠ gb346))) (fun _ hk => hk.2) (.slice Ao64 y351.length co64)) (fun _ hk => ⟨hk.1.1.1, ⟨hk.1.2, ⟨hk.1.1.2.1, ⟨hk.1.1.2.2.1, ⟨hk.1.1.2.2.2.1, ⟨hk.1.1.2.2.2.2.1, ⟨hk.1.1.2.2.2.2.2.1, hk.1.1.2.2.2.2.2.2⟩⟩⟩⟩⟩⟩⟩)⟩, ⟨by (with_reducible repeat (first | apply Kd.zFf | apply Kd.zFe | apply Kd.zEg)); exact Kd.zGg (Kd.N_far (p := ⟨gb346, 2, none⟩) (Kd.zGg HO353.out (fun k_ hk => (⟨hk, hk.2.2.2.2.2.1⟩ : _ ∧ k_ ≠ gb346))) (fun _ hk => hk.2) (.slice Ao64 y351.length co64)) (fun _ hk => ⟨hk.1.1, ⟨hk.1.2.1, ⟨hk.1.2.2.1, ⟨hk.1.2.2.2.1, ⟨hk.1.2.2.2.2.1, ⟨hk.1.2.2.2.2.2.1, hk.1.2.2.2.2.2.2⟩⟩⟩⟩⟩⟩)⟩, ⟨by (with_reducible repeat (first | apply Kd.zFf | apply Kd.zFe | apply Kd.zEg)); exact Kd.zGg (Kd.N_far (p := ⟨gb346, 2, none⟩) (Kd.zGg HO_348002.out (fun k_ hk => (⟨hk, hk.1.2.2.2.2.1⟩ : _ ∧ k_ ≠ gb346))) (fun _ hk => hk.2) (.slice Ao64 y351.length co64)) (fun _ hk => ⟨hk.1.1.1, ⟨hk.1.2, ⟨hk.1.1.2.1, ⟨hk.1.1.2.2.1, ⟨hk.1.1.2.2.2.1, ⟨hk.1.1.2.2.2.2.1, hk.1.1.2.2.2.2.2⟩⟩⟩⟩⟩⟩)⟩, ⟨by (with_reducible repeat (first | refine zAf ?_ _ | refine zAg ?_ | refine zAe ?_ _)); refine zBd ?_ NB341_346.out _; (with_reducible repeat (first | refine zAf ?_ _ | refine zAg ?_ | refine zAe ?_ _)); exact BK341.out⟩, ⟨by (with_reducible repeat (first | refine zAf ?_ _ | refine zAg ?_ | refine zAe ?_ _)); refine zBd ?_ NB342_346.out _; (with_reducible repeat (first | refine zAf ?_ _ | refine zAg ?_ | refine zAe ?_ _)); exact BK342.out⟩, ⟨by (with_reducible repeat (first | refine zAf ?_ _ | refine zAg ?_ | refine zAe ?_ _)); refine zBd ?_ NB343_346.out _; (with_reducible repeat (first | refine zAf ?_ _ | refine zAg ?_ | refine zAe ?_ _)); exact BK343.out⟩, ⟨by (with_reducible repeat (first | refine zAf ?_ _ | refine zAg ?_ | refine zAe ?_ _)); refine zCj (cs := #[.string a0_0, .string a1, .slice Ao60 x347002_3.length co60]) ?_ 2 _ rfl; (with_reducible repeat (first | refine zAf ?_ _ | refine zAg ?_ | refine zAe ?_ _)); exact BK346.out⟩, ⟨by (with_reducible repeat (first | refine zAf ?_ _ | refine zAg ?_ | refine zAe ?_ _)); refine zBd ?_ NB347_346.out _; (with_reducible repeat (first | refine zAf ?_ _ | refine zAg ?_ | refine zAe ?_ _)); exact BK347.out⟩, ⟨by repeat (first | (with_reducible first | exact HB.out | apply zAb | apply zAc | apply zAh | refine zAj ?_ GE341.out | refine zAj ?_ GE342.out | refine zAj ?_ GE343.out | refine zAj ?_ GE346.out | refine zAj ?_ GE347.out) | exact HB.out)⟩⟩
            ·rw [if_neg c53] at H
             exact absurd H (by simp)
           ·replace c52 := Bool.eq_false_iff.mpr c52
            subst c52
            have H1 : (if x348002_3.length < 1599289640401 then (bulwarkref11_Split.l0 k3 (wrap64 (x9_3 + 1)) a0_0 a0_1 l0_2 a0_0 a1 x347002_3 a1 a0_1 (x348002_3 ++ [(⟨(⟨(zB l0_2 x9_3).f0.f0, (zB l0_2 x9_3).f0.f1, (zB l0_2 x9_3).f0.f2, (zB l0_2 x9_3).f0.f3⟩ : S46), (zB l0_2 x9_3).f1, (zB l0_2 x9_3).f2⟩ : S49)])) else (none)) = some (r1, r2, r3, r4, r5, r6, r7) := by rw [if_neg (show ¬ (false = true) by decide)] at H; exact H
            clear H
            have H := H1
            clear H1
            by_cases c66 : x348002_3.length < 1599289640401
            ·rw [if_pos c66] at H
             have LMc66 := zA.mk c66
             clear c66
             obtain ⟨y355, hy355⟩ : ∃ y_ : List (S49), y_ = (x348002_3 ++ [(⟨(⟨(zB l0_2 x9_3).f0.f0, (zB l0_2 x9_3).f0.f1, (zB l0_2 x9_3).f0.f2, (zB l0_2 x9_3).f0.f3⟩ : S46), (zB l0_2 x9_3).f1, (zB l0_2 x9_3).f2⟩ : S49)]) := ⟨_, rfl⟩
             replace H : (bulwarkref11_Split.l0 k3 (wrap64 (x9_3 + 1)) a0_0 a0_1 l0_2 a0_0 a1 x347002_3 a1 a0_1 y355) = some (r1, r2, r3, r4, r5, r6, r7) := by first | (rw [hy355]; with_reducible exact H) | (have H2_ := (Option.bind_some _ _).symm.trans H; rw [hy355]; with_reducible exact H2_) | (have H2_ := (Option.bind_some _ _).symm.trans H; with_reducible exact H2_) | with_reducible exact H | (rw [hy355]; exact H) | exact H
             have Ny355 := zA.mk hy355
             clear hy355
             have H' := zA.mk H
             clear H
             have hnb67 := NB341_342.out
             have hnc67 := NB342_341.out
             have hnb68 := NB341_343.out
             have hnc68 := NB343_341.out
             have hnb69 := NB341_346.out
             have hnc69 := NB346_341.out
             have hnb70 := NB341_347.out
             have hnc70 := NB347_341.out
             have hcz71_0 : wr.cell? ⟨gb341, 0, none⟩ = some (.string a0_0) := (zAa BK341.out 0).trans rfl
             have hcz71_1 : wr.cell? ⟨gb341, 1, none⟩ = some (.string a0_1) := (zAa BK341.out 1).trans rfl
             have hcz71_2 : wr.cell? ⟨gb341, 2, none⟩ = some (.slice A0_2 l0_2.length c0_2) := (zAa BK341.out 2).trans rfl
             have hfz71_0 := zAd BK341.out 0
             have hfz71_1 := zAd BK341.out 1
             have hfz71_2 := zAd BK341.out 2
             try go_wp2
             have n0_ := zA.mk (Kd.zDg HO_342002.out)
             have n1_ := zA.mk (Kd.zEg HO_347002.out)
             have n2_ := zA.mk (Kd.zEg HO_348002.out)
             have n3_ := zA.mk (zAg BK341.out)
             have n4_ := zA.mk (zAg BK342.out)
             have n5_ := zA.mk (zAg BK343.out)
             have n6_ := zA.mk (zAg BK346.out)
             have n7_ := zA.mk (zAg BK347.out)
             have n8_ := zA.mk (zAh HB.out)
             clear HO_342002
             clear HO_347002
             clear HO_348002
             clear BK341
             clear BK342
             clear BK343
             clear BK346
             clear BK347
             clear HB
             have HO_342002 := n0_
             have HO_347002 := n1_
             have HO_348002 := n2_
             have BK341 := n3_
             have BK342 := n4_
             have BK343 := n5_
             have BK346 := n6_
             have BK347 := n7_
             have HB := n8_
             clear n0_ n1_ n2_ n3_ n4_ n5_ n6_ n7_ n8_
             have p348 : 0 ≤ (x9_3 : Int) := of_decide_eq_true (by first | (with_reducible assumption) | assumption)
             have q348 : x9_3 < (l0_2.length : Int) := of_decide_eq_true (by first | (with_reducible assumption) | assumption)
             obtain ⟨ad348, A348_4, c348_4, e348, hx348_0, hx348_1, hx348_2, hx348_3, hx348_4, hx348_5, hl348_4, hi348_4⟩ := zFj (Kd.V_reads' HO_342002.out).2.2 x9_3 p348 q348
             cases e348
             obtain ⟨ce348, hce348, hMe348, hcc348⟩ := Kd.V_get HO_342002.out z49 x9_3 p348 (by first | exact q348 | exact of_decide_eq_true (by first | (with_reducible assumption) | assumption) | (have e_ := (Kd.V_reads' HO_342002.out).1; omega))
             obtain ⟨ua348_4, uc348_4, rfl, ul348_4, ge348_4⟩ := k49_openF hMe348
             have hv348_4 := hcc348 4 _ rfl
             rw [zEe _ _ 4 (by omega)] at hv348_4
             replace hv348_4 := Option.some.inj (hv348_4.symm.trans hx348_4)
             injection hv348_4 with hva_ hvn_ hvc_
             rw [hva_] at ge348_4
             rw [hvc_] at ul348_4
             have HL348_4 := zA.mk (show Kd.V (Kd.int .u8) 5 _ w.heap.size _ _ ((zB l0_2 x9_3).f1) from Kd.V_mk ul348_4 ge348_4)
             clear hva_ hvn_ hvc_ ge348_4 ul348_4
             clear hcc348 hce348
             have HR348_4 := zA.mk hi348_4
             have HC348_4 := zA.mk hl348_4
             clear hi348_4 hl348_4
             replace p348 := eq_true p348
             replace q348 := eq_true q348
             obtain ⟨Ao73, co73, eo73⟩ := Kd.N_slice HO_347002.out
             (first | subst eo73 | (injection eo73 with f1_ f2_ f3_; have f4_ := f1_.symm; have f5_ := f3_.symm; clear f1_ f2_ f3_; subst f4_; subst f5_))
             refine start_ (n := 9) (S := fun w' => w'.cell? ⟨gb346, 0, none⟩ = some (.string a0_0) ∧ w'.cell? ⟨gb346, 1, none⟩ = some (.string a1) ∧ w'.cell? ⟨gb346, 2, none⟩ = some (.slice Ao73 x347002_3.length co73) ∧ w'.cell? ⟨gb341, 0, none⟩ = some (.string a0_0) ∧ w'.cell? ⟨gb341, 1, none⟩ = some (.string a0_1) ∧ w'.cell? ⟨gb341, 2, none⟩ = some (.slice (some ad348) l0_2.length c0_2) ∧ w'.cell? (ad348.add ((x9_3).toNat * 6)) = some (.string ((zB l0_2 x9_3).f0.f0)) ∧ w'.cell? ⟨(ad348.add ((x9_3).toNat * 6)).block, (ad348.add ((x9_3).toNat * 6)).off + 1, none⟩ = some (.string ((zB l0_2 x9_3).f0.f1)) ∧ w'.cell? ⟨(ad348.add ((x9_3).toNat * 6)).block, (ad348.add ((x9_3).toNat * 6)).off + 2, none⟩ = some (.string ((zB l0_2 x9_3).f0.f2)) ∧ w'.cell? ⟨(ad348.add ((x9_3).toNat * 6)).block, (ad348.add ((x9_3).toNat * 6)).off + 3, none⟩ = some (.int .u64 ((zB l0_2 x9_3).f0.f3)) ∧ w'.cell? ⟨(ad348.add ((x9_3).toNat * 6)).block, (ad348.add ((x9_3).toNat * 6)).off + 4, none⟩ = some (.slice A348_4 ((zB l0_2 x9_3).f1).length c348_4) ∧ w'.cell? ⟨(ad348.add ((x9_3).toNat * 6)).block, (ad348.add ((x9_3).toNat * 6)).off + 5, none⟩ = some (.bool ((zB l0_2 x9_3).f2))) (ds := []) #[false, false, false, false, false, false, false, false, false] (by kernel_rfl) rfl rfl ⟨(zAa BK346.out 0).trans rfl, (zAa BK346.out 1).trans rfl, (zAa BK346.out 2).trans rfl, (zAa BK341.out 0).trans rfl, (zAa BK341.out 1).trans rfl, (zAa BK341.out 2).trans rfl, hx348_0, hx348_1, hx348_2, hx348_3, hx348_4, hx348_5⟩ (fun hHeld => ?_); refine with_tabW bulwarkref11_Split.tab10 bulwarkref11_Split.bits10 (fun HT_ HW_ => ?_)
             generalize wr.drew = w72 at HO_342002 HO_347002 HO_348002 BK341 BK342 BK343 BK346 BK347 HB HL348_4 HR348_4 hx348_0 hx348_1 hx348_2 hx348_3 hx348_4 hx348_5 hHeld ⊢
             refine pure_ (i := 1) (N := some 55) (v := ?_) (a' := ?_) #[false, true, false, false, false, false, false, false, false] rfl rfl (zFg HT_.out (by kernel_rfl)) (fun _ _ _ h => h) (Or.inl ⟨by rfl, ?_⟩) ?_ ?_
             rotate_left
             ·intro w'
              go_simp
              with_reducible rfl
             rotate_left
             ·simp only [Act.put, List.setIfInBounds_toArray, List.set_cons_zero, List.set_cons_succ, i64_w, i32_w]
              rfl
             refine pure_ (i := 3) (N := some 57) (v := ?_) (a' := ?_) #[false, true, false, true, false, false, false, false, false] rfl rfl (zFg HT_.out (by kernel_rfl)) (fun _ _ _ h => h) (Or.inl ⟨by rfl, ?_⟩) ?_ ?_
             rotate_left
             ·intro w'
              go_simp
              with_reducible rfl
             rotate_left
             ·simp only [Act.put, List.setIfInBounds_toArray, List.set_cons_zero, List.set_cons_succ, i64_w, i32_w]
              rfl
             refine take_ (i := 0) (N := some 54) (v := ?_) (a' := ?_) #[true, true, false, true, false, false, false, false, false] rfl rfl (zGa HT_.out HW_.out (by kernel_rfl)) (fun _ _ _ h => h) (Or.inl ⟨by rfl, ?_⟩) hHeld ?_ ?_
             rotate_left
             ·rintro w' ⟨s0, s1, s2, s3, s4, s5, s6, s7, s8, s9, s10, s11⟩
              go_simp
              with_reducible rfl
             rotate_left
             ·simp only [Act.put, List.setIfInBounds_toArray, List.set_cons_zero, List.set_cons_succ, i64_w, i32_w]
              rfl
             refine take_ (i := 2) (N := some 56) (v := ?_) (a' := ?_) #[true, true, true, true, false, false, false, false, false] rfl rfl (zGa HT_.out HW_.out (by kernel_rfl)) (fun _ _ _ h => h) (Or.inl ⟨by rfl, ?_⟩) hHeld ?_ ?_
             rotate_left
             ·rintro w' ⟨s0, s1, s2, s3, s4, s5, s6, s7, s8, s9, s10, s11⟩
              go_simp
              with_reducible rfl
             rotate_left
             ·simp only [Act.put, List.setIfInBounds_toArray, List.set_cons_zero, List.set_cons_succ, i64_w, i32_w]
              rfl
             refine pure_ (i := 4) (N := some 58) (v := ?_) (a' := ?_) #[true, true, true, true, true, false, false, false, false] rfl rfl (zFg HT_.out (by kernel_rfl)) (fun _ _ _ h => h) (Or.inl ⟨by rfl, ?_⟩) ?_ ?_
             rotate_left
             ·intro w'
              go_simp
              with_reducible rfl
             rotate_left
             ·simp only [Act.put, List.setIfInBounds_toArray, List.set_cons_zero, List.set_cons_succ, i64_w, i32_w]
              rfl
             refine pure_ (i := 5) (N := some 59) (v := ?_) (a' := ?_) #[true, true, true, true, true, true, false, false, false] rfl rfl (zFg HT_.out (by kernel_rfl)) (fun _ _ _ h => h) (Or.inl ⟨by rfl, ?_⟩) ?_ ?_
             rotate_left
             ·intro w'
              go_simp
              with_reducible rfl
             rotate_left
             ·simp only [Act.put, List.setIfInBounds_toArray, List.set_cons_zero, List.set_cons_succ, i64_w, i32_w]
              rfl
             refine pure_ (i := 6) (N := some 60) (v := ?_) (a' := ?_) #[true, true, true, true, true, true, true, false, false] rfl rfl (zFg HT_.out (by kernel_rfl)) (fun _ _ _ h => h) (Or.inl ⟨by rfl, ?_⟩) ?_ ?_
             rotate_left
             ·intro w'
              go_simp
              with_reducible rfl
             rotate_left
             ·simp only [Act.put, List.setIfInBounds_toArray, List.set_cons_zero, List.set_cons_succ, i64_w, i32_w]
              rfl
             refine take_ (i := 7) (N := some 61) (v := ?_) (a' := ?_) #[true, true, true, true, true, true, true, true, false] rfl rfl (zGa HT_.out HW_.out (by kernel_rfl)) (fun _ _ _ h => h) (Or.inl ⟨by rfl, ?_⟩) hHeld ?_ ?_
             rotate_left
             ·rintro w' ⟨s0, s1, s2, s3, s4, s5, s6, s7, s8, s9, s10, s11⟩
              go_simp
              with_reducible rfl
             rotate_left
             ·simp only [Act.put, List.setIfInBounds_toArray, List.set_cons_zero, List.set_cons_succ, i64_w, i32_w]
              rfl
             refine one_ (i := 8) (N := some 62) #[true, true, true, true, true, true, true, true, true] rfl rfl (one_of HT_.out (by kernel_rfl)) (by decide) (fun K hK => ?_)
             refine goes_ Tryz.func56 (by kernel_rfl) rfl #[.agg #[.string a0_0, .string a1, .slice Ao73 x347002_3.length co73], .string ((zB l0_2 x9_3).f0.f0)] (by rfl) rfl rfl (by (try simp only [List.map_toArray, List.map_cons, List.map_nil]); first | done | rfl | (simp only [List.length_drop, List.length_take]; rfl)) ?_
             with_reducible refine (bulwarkref10_Tablet_Inside.calls k3 a0_0 a1 _ _ x347002_3 ((zB l0_2 x9_3).f0.f0) false _ ?side1 ?side2 A51.out).mono ?_
             (case side1 => repeat (first | exact (Kd.N_reads' HO_347002.out).2.2 | (with_reducible refine Kd.C_alloc ?_ _) | (with_reducible refine Kd.C_drewN ?_ _) | (with_reducible refine Kd.C_drew ?_)))
             (case side2 => exact (Kd.N_reads' HO_347002.out).2.1)
             rintro e w74 ⟨rfl, hb⟩
             have HS6_ := (hb.cell (World.block_lt_of_cell? _ _ (hHeld.2.2.2.2.2.2.1))).trans (hHeld.2.2.2.2.2.2.1)
             have HS7_ := (hb.cell (World.block_lt_of_cell? _ _ (hHeld.2.2.2.2.2.2.2.1))).trans (hHeld.2.2.2.2.2.2.2.1)
             have HS8_ := (hb.cell (World.block_lt_of_cell? _ _ (hHeld.2.2.2.2.2.2.2.2.1))).trans (hHeld.2.2.2.2.2.2.2.2.1)
             have HS9_ := (hb.cell (World.block_lt_of_cell? _ _ (hHeld.2.2.2.2.2.2.2.2.2.1))).trans (hHeld.2.2.2.2.2.2.2.2.2.1)
             have HS10_ := (hb.cell (World.block_lt_of_cell? _ _ (hHeld.2.2.2.2.2.2.2.2.2.2.1))).trans (hHeld.2.2.2.2.2.2.2.2.2.2.1)
             have HS11_ := (hb.cell (World.block_lt_of_cell? _ _ (hHeld.2.2.2.2.2.2.2.2.2.2.2))).trans (hHeld.2.2.2.2.2.2.2.2.2.2.2)
             refine ⟨_, rfl, ?_⟩
             have n0_ := zA.mk (Kd.V_below (by (with_reducible repeat (first | apply Kd.zDj | apply Kd.zDi | apply Kd.zDg)); exact HO_342002.out) hb)
             have n1_ := zA.mk (Kd.N_below (by (with_reducible repeat (first | apply Kd.zFf | apply Kd.zFe | apply Kd.zEg)); exact HO_347002.out) hb)
             have n2_ := zA.mk (Kd.N_below (by (with_reducible repeat (first | apply Kd.zFf | apply Kd.zFe | apply Kd.zEg)); exact HO_348002.out) hb)
             have n3_ := zA.mk (Kd.V_below (by (with_reducible repeat (first | apply Kd.zDj | apply Kd.zDi | apply Kd.zDg)); exact HL348_4.out) hb)
             have n4_ := zA.mk (zAi (g := gb341) (o := .cells #[.string a0_0, .string a0_1, .slice (some ad348) l0_2.length c0_2] 25 (0, 0)) (by (with_reducible repeat (first | refine zAf ?_ _ | refine zAg ?_ | refine zAe ?_ _)); exact BK341.out) hb)
             have n5_ := zA.mk (zAi (g := gb342) (o := .cells #[.string (⟨#[]⟩ : ByteArray), .string (⟨#[]⟩ : ByteArray), .slice none 0 0] 25 (0, 0)) (by (with_reducible repeat (first | refine zAf ?_ _ | refine zAg ?_ | refine zAe ?_ _)); exact BK342.out) hb)
             have n6_ := zA.mk (zAi (g := gb343) (o := .cells #[.string (⟨#[]⟩ : ByteArray), .string (⟨#[]⟩ : ByteArray), .slice none 0 0] 25 (0, 0)) (by (with_reducible repeat (first | refine zAf ?_ _ | refine zAg ?_ | refine zAe ?_ _)); exact BK343.out) hb)
             have n7_ := zA.mk (zAi (g := gb346) (o := .cells #[.string a0_0, .string a1, .slice Ao73 x347002_3.length co73] 25 (0, 0)) (by (with_reducible repeat (first | refine zAf ?_ _ | refine zAg ?_ | refine zAe ?_ _)); exact BK346.out) hb)
             have n8_ := zA.mk (zAi (g := gb347) (o := .cells #[.string a1, .string a0_1, u348002] 25 (0, 0)) (by (with_reducible repeat (first | refine zAf ?_ _ | refine zAg ?_ | refine zAe ?_ _)); exact BK347.out) hb)
             have n9_ := zA.mk (Kd.zBe (by repeat (first | (with_reducible exact HR348_4.out) | (with_reducible refine Kd.C_alloc ?_ _) | (with_reducible refine Kd.C_drewN ?_ _) | (with_reducible refine Kd.C_drew ?_) | exact HR348_4.out)) hb)
             have n10_ := zA.mk (zBh (by repeat (first | (with_reducible first | exact HB.out | apply zAb | apply zAc | apply zAh | refine zAj ?_ GE341.out | refine zAj ?_ GE342.out | refine zAj ?_ GE343.out | refine zAj ?_ GE346.out | refine zAj ?_ GE347.out) | exact HB.out)) hb)
             clear HO_342002
             clear HO_347002
             clear HO_348002
             clear HL348_4
             clear BK341
             clear BK342
             clear BK343
             clear BK346
             clear BK347
             clear HR348_4
             clear HB
             have HO_342002 := n0_
             have HO_347002 := n1_
             have HO_348002 := n2_
             have HL348_4 := n3_
             have BK341 := n4_
             have BK342 := n5_
             have BK343 := n6_
             have BK346 := n7_
             have BK347 := n8_
             have HR348_4 := n9_
             have HB := n10_
             clear n0_ n1_ n2_ n3_ n4_ n5_ n6_ n7_ n8_ n9_ n10_
             (try clear hb)
             (try clear hb2)
             (try clear hk)
             (try clear hi)
             refine hK.out _ _ ⟨(zAa BK346.out 0).trans rfl, (zAa BK346.out 1).trans rfl, (zAa BK346.out 2).trans rfl, (zAa BK341.out 0).trans rfl, (zAa BK341.out 1).trans rfl, (zAa BK341.out 2).trans rfl, HS6_, HS7_, HS8_, HS9_, HS10_, HS11_⟩ (fun hHeld => ?_)
             clear hK K
             refine norm_ (a' := ?_) ?_ ?_
             rotate_left
             ·show Act.put _ (some 62) _ = _
              simp only [Act.put, List.setIfInBounds_toArray, List.set_cons_zero, List.set_cons_succ, i64_w, i32_w]
              rfl
             refine done_ (done_of HT_.out (by kernel_rfl)) ?_
             try go_wp2
             have n0_ := zA.mk (Kd.zDg HO_342002.out)
             have n1_ := zA.mk (Kd.zEg HO_347002.out)
             have n2_ := zA.mk (Kd.zEg HO_348002.out)
             have n3_ := zA.mk (Kd.zDg HL348_4.out)
             have n4_ := zA.mk (zAg BK341.out)
             have n5_ := zA.mk (zAg BK342.out)
             have n6_ := zA.mk (zAg BK343.out)
             have n7_ := zA.mk (zAg BK346.out)
             have n8_ := zA.mk (zAg BK347.out)
             have n9_ := zA.mk (Kd.C_drew HR348_4.out)
             have n10_ := zA.mk (zAh HB.out)
             clear HO_342002
             clear HO_347002
             clear HO_348002
             clear HL348_4
             clear BK341
             clear BK342
             clear BK343
             clear BK346
             clear BK347
             clear HR348_4
             clear HB
             have HO_342002 := n0_
             have HO_347002 := n1_
             have HO_348002 := n2_
             have HL348_4 := n3_
             have BK341 := n4_
             have BK342 := n5_
             have BK343 := n6_
             have BK346 := n7_
             have BK347 := n8_
             have HR348_4 := n9_
             have HB := n10_
             clear n0_ n1_ n2_ n3_ n4_ n5_ n6_ n7_ n8_ n9_ n10_
             have p354 : 0 ≤ (x9_3 : Int) := of_decide_eq_true (by first | (with_reducible assumption) | assumption)
             have q354 : x9_3 < (l0_2.length : Int) := of_decide_eq_true (by first | (with_reducible assumption) | assumption)
             obtain ⟨ad354, A354_4, c354_4, e354, hx354_0, hx354_1, hx354_2, hx354_3, hx354_4, hx354_5, hl354_4, hi354_4⟩ := zFj (Kd.V_reads' HO_342002.out).2.2 x9_3 p354 q354
             obtain rfl : ad348 = ad354 := (by injection e354)
             obtain ⟨ce354, hce354, hMe354, hcc354⟩ := Kd.V_get HO_342002.out z49 x9_3 p354 (by first | exact q354 | exact of_decide_eq_true (by first | (with_reducible assumption) | assumption) | (have e_ := (Kd.V_reads' HO_342002.out).1; omega))
             obtain ⟨ua354_4, uc354_4, rfl, ul354_4, ge354_4⟩ := k49_openF hMe354
             have hv354_4 := hcc354 4 _ rfl
             rw [zEe _ _ 4 (by omega)] at hv354_4
             replace hv354_4 := Option.some.inj (hv354_4.symm.trans hx354_4)
             injection hv354_4 with hva_ hvn_ hvc_
             rw [hva_] at ge354_4
             rw [hvc_] at ul354_4
             have HL354_4 := zA.mk (show Kd.V (Kd.int .u8) 5 _ w.heap.size _ _ ((zB l0_2 x9_3).f1) from Kd.V_mk ul354_4 ge354_4)
             clear hva_ hvn_ hvc_ ge354_4 ul354_4
             clear hcc354 hce354
             have HR354_4 := zA.mk hi354_4
             have HC354_4 := zA.mk hl354_4
             clear hi354_4 hl354_4
             replace p354 := eq_true p354
             replace q354 := eq_true q354
             refine start_ (n := 11) (S := fun w' => w'.cell? ⟨gb347, 0, none⟩ = some (.string a1) ∧ w'.cell? ⟨gb347, 1, none⟩ = some (.string a0_1) ∧ w'.cell? ⟨gb347, 2, none⟩ = some (u348002) ∧ w'.cell? ⟨gb341, 0, none⟩ = some (.string a0_0) ∧ w'.cell? ⟨gb341, 1, none⟩ = some (.string a0_1) ∧ w'.cell? ⟨gb341, 2, none⟩ = some (.slice (some ad348) l0_2.length c0_2) ∧ w'.cell? (ad348.add ((x9_3).toNat * 6)) = some (.string ((zB l0_2 x9_3).f0.f0)) ∧ w'.cell? ⟨(ad348.add ((x9_3).toNat * 6)).block, (ad348.add ((x9_3).toNat * 6)).off + 1, none⟩ = some (.string ((zB l0_2 x9_3).f0.f1)) ∧ w'.cell? ⟨(ad348.add ((x9_3).toNat * 6)).block, (ad348.add ((x9_3).toNat * 6)).off + 2, none⟩ = some (.string ((zB l0_2 x9_3).f0.f2)) ∧ w'.cell? ⟨(ad348.add ((x9_3).toNat * 6)).block, (ad348.add ((x9_3).toNat * 6)).off + 3, none⟩ = some (.int .u64 ((zB l0_2 x9_3).f0.f3)) ∧ w'.cell? ⟨(ad348.add ((x9_3).toNat * 6)).block, (ad348.add ((x9_3).toNat * 6)).off + 4, none⟩ = some (.slice A354_4 ((zB l0_2 x9_3).f1).length c354_4) ∧ w'.cell? ⟨(ad348.add ((x9_3).toNat * 6)).block, (ad348.add ((x9_3).toNat * 6)).off + 5, none⟩ = some (.bool ((zB l0_2 x9_3).f2))) (ds := [8, 10]) #[false, false, false, false, false, false, false, false, false, false, false] (by kernel_rfl) rfl rfl ⟨(zAa BK347.out 0).trans rfl, (zAa BK347.out 1).trans rfl, (zAa BK347.out 2).trans rfl, (zAa BK341.out 0).trans rfl, (zAa BK341.out 1).trans rfl, (zAa BK341.out 2).trans rfl, hx354_0, hx354_1, hx354_2, hx354_3, hx354_4, hx354_5⟩ (fun hHeld => ?_); refine with_tabW bulwarkref11_Split.tab12 bulwarkref11_Split.bits12 (fun HT_ HW_ => ?_)
             generalize w74.drew = w75 at HO_342002 HO_347002 HO_348002 HL348_4 BK341 BK342 BK343 BK346 BK347 HR348_4 HB HL354_4 HR354_4 hx354_0 hx354_1 hx354_2 hx354_3 hx354_4 hx354_5 hHeld ⊢
             refine pure_ (i := 0) (N := some 73) (v := ?_) (a' := ?_) #[true, false, false, false, false, false, false, false, false, false, false] rfl rfl (zFg HT_.out (by kernel_rfl)) (fun _ _ _ h => h) (Or.inl ⟨by rfl, ?_⟩) ?_ ?_
             rotate_left
             ·intro w'
              go_simp
              with_reducible rfl
             rotate_left
             ·simp only [Act.put, List.setIfInBounds_toArray, List.set_cons_zero, List.set_cons_succ, i64_w, i32_w]
              rfl
             refine pure_ (i := 2) (N := some 75) (v := ?_) (a' := ?_) #[true, false, true, false, false, false, false, false, false, false, false] rfl rfl (zFg HT_.out (by kernel_rfl)) (fun _ _ _ h => h) (Or.inl ⟨by rfl, ?_⟩) ?_ ?_
             rotate_left
             ·intro w'
              go_simp
              with_reducible rfl
             rotate_left
             ·simp only [Act.put, List.setIfInBounds_toArray, List.set_cons_zero, List.set_cons_succ, i64_w, i32_w]
              rfl
             refine pure_ (i := 4) (N := some 77) (v := ?_) (a' := ?_) #[true, false, true, false, true, false, false, false, false, false, false] rfl rfl (zFg HT_.out (by kernel_rfl)) (fun _ _ _ h => h) (Or.inl ⟨by rfl, ?_⟩) ?_ ?_
             rotate_left
             ·intro w'
              go_simp
              with_reducible rfl
             rotate_left
             ·simp only [Act.put, List.setIfInBounds_toArray, List.set_cons_zero, List.set_cons_succ, i64_w, i32_w]
              rfl
             refine take_ (i := 1) (N := some 74) (v := ?_) (a' := ?_) #[true, true, true, false, true, false, false, false, false, false, false] rfl rfl (zGa HT_.out HW_.out (by kernel_rfl)) (fun _ _ _ h => h) (Or.inl ⟨by rfl, ?_⟩) hHeld ?_ ?_
             rotate_left
             ·rintro w' ⟨s0, s1, s2, s3, s4, s5, s6, s7, s8, s9, s10, s11⟩
              go_simp
              with_reducible rfl
             rotate_left
             ·simp only [Act.put, List.setIfInBounds_toArray, List.set_cons_zero, List.set_cons_succ, i64_w, i32_w]
              rfl
             refine take_ (i := 3) (N := some 76) (v := ?_) (a' := ?_) #[true, true, true, true, true, false, false, false, false, false, false] rfl rfl (zGa HT_.out HW_.out (by kernel_rfl)) (fun _ _ _ h => h) (Or.inl ⟨by rfl, ?_⟩) hHeld ?_ ?_
             rotate_left
             ·rintro w' ⟨s0, s1, s2, s3, s4, s5, s6, s7, s8, s9, s10, s11⟩
              go_simp
              with_reducible rfl
             rotate_left
             ·simp only [Act.put, List.setIfInBounds_toArray, List.set_cons_zero, List.set_cons_succ, i64_w, i32_w]
              rfl
             refine pure_ (i := 5) (N := some 78) (v := ?_) (a' := ?_) #[true, true, true, true, true, true, false, false, false, false, false] rfl rfl (zFg HT_.out (by kernel_rfl)) (fun _ _ _ h => h) (Or.inl ⟨by rfl, ?_⟩) ?_ ?_
             rotate_left
             ·intro w'
              go_simp
              with_reducible rfl
             rotate_left
             ·simp only [Act.put, List.setIfInBounds_toArray, List.set_cons_zero, List.set_cons_succ, i64_w, i32_w]
              rfl
             refine take_ (i := 6) (N := some 79) (v := ?_) (a' := ?_) #[true, true, true, true, true, true, true, false, false, false, false] rfl rfl (zGa HT_.out HW_.out (by kernel_rfl)) (fun _ _ _ h => h) (Or.inl ⟨by rfl, ?_⟩) hHeld ?_ ?_
             rotate_left
             ·rintro w' ⟨s0, s1, s2, s3, s4, s5, s6, s7, s8, s9, s10, s11⟩
              go_simp
              with_reducible rfl
             rotate_left
             ·simp only [Act.put, List.setIfInBounds_toArray, List.set_cons_zero, List.set_cons_succ, i64_w, i32_w]
              rfl
             refine one_ (i := 7) (N := some 80) #[true, true, true, true, true, true, true, true, false, false, false] rfl rfl (one_of HT_.out (by kernel_rfl)) (by decide) (fun K hK => ?_)
             refine value_ (w1 := ?_) (v := ?_) (by rfl) rfl ?_ ?_
             rotate_left 2
             ·go_simp
              constructor
              ·rfl
              ·rfl
             refine hK.out _ _ ⟨(zAa (zAe BK347.out _) 0).trans rfl, (zAa (zAe BK347.out _) 1).trans rfl, (zAa (zAe BK347.out _) 2).trans rfl, (zAa (zAe BK341.out _) 0).trans rfl, (zAa (zAe BK341.out _) 1).trans rfl, (zAa (zAe BK341.out _) 2).trans rfl, (World.cell?_alloc_lt _ _ _ (World.block_lt_of_cell? _ _ (hHeld.2.2.2.2.2.2.1))).trans (hHeld.2.2.2.2.2.2.1), (World.cell?_alloc_lt _ _ _ (World.block_lt_of_cell? _ _ (hHeld.2.2.2.2.2.2.2.1))).trans (hHeld.2.2.2.2.2.2.2.1), (World.cell?_alloc_lt _ _ _ (World.block_lt_of_cell? _ _ (hHeld.2.2.2.2.2.2.2.2.1))).trans (hHeld.2.2.2.2.2.2.2.2.1), (World.cell?_alloc_lt _ _ _ (World.block_lt_of_cell? _ _ (hHeld.2.2.2.2.2.2.2.2.2.1))).trans (hHeld.2.2.2.2.2.2.2.2.2.1), (World.cell?_alloc_lt _ _ _ (World.block_lt_of_cell? _ _ (hHeld.2.2.2.2.2.2.2.2.2.2.1))).trans (hHeld.2.2.2.2.2.2.2.2.2.2.1), (World.cell?_alloc_lt _ _ _ (World.block_lt_of_cell? _ _ (hHeld.2.2.2.2.2.2.2.2.2.2.2))).trans (hHeld.2.2.2.2.2.2.2.2.2.2.2)⟩ (fun hHeld => ?_)
             clear hK K
             refine norm_ (a' := ?_) ?_ ?_
             rotate_left
             ·show Act.put _ (some 80) _ = _
              simp only [Act.put, List.setIfInBounds_toArray, List.set_cons_zero, List.set_cons_succ, i64_w, i32_w]
              rfl
             refine last_ (i := 8) (N := some 81) #[true, true, true, true, true, true, true, true, true, false, false] rfl rfl (one_of HT_.out (by kernel_rfl)) (by decide) (fun K hK => ?_)
             refine Kd.N_append_step k49 (w0 := w) w.heap.size (by rfl) (.tmp 74) (.tmp 80) 22 49 (.agg #[(.string ⟨#[]⟩), (.string ⟨#[]⟩), (.string ⟨#[]⟩), (.int .u64 0), (.slice none 0 0), (.bool false)]) 88 rfl Tryz.underlying22 zEj rfl (by decide) (by omega) u348002 x348002_3 (⟨(⟨(zB l0_2 x9_3).f0.f0, (zB l0_2 x9_3).f0.f1, (zB l0_2 x9_3).f0.f2, (zB l0_2 x9_3).f0.f3⟩ : S46), (zB l0_2 x9_3).f1, (zB l0_2 x9_3).f2⟩ : S49) [.string ((zB l0_2 x9_3).f0.f0), .string ((zB l0_2 x9_3).f0.f1), .string ((zB l0_2 x9_3).f0.f2), .int .u64 ((zB l0_2 x9_3).f0.f3), .slice A354_4 ((zB l0_2 x9_3).f1).length c354_4, .bool ((zB l0_2 x9_3).f2)] (fun k_ => (P0_2_ k_ ∨ w.heap.size ≤ k_) ∧ some k_ ≠ (.slice Ao73 x347002_3.length co73 : Value).ownBlock ∧ k_ ≠ gb341 ∧ k_ ≠ gb342 ∧ k_ ≠ gb343 ∧ k_ ≠ gb346 ∧ k_ ≠ gb347) (fun k_ => ((fun k_ => (P0_2_ k_ ∨ w.heap.size ≤ k_) ∧ some k_ ≠ (.slice Ao73 x347002_3.length co73 : Value).ownBlock ∧ k_ ≠ gb341 ∧ k_ ≠ gb342 ∧ k_ ≠ gb343 ∧ k_ ≠ gb346 ∧ k_ ≠ gb347)) k_ ∧ some k_ ≠ (u348002 : Value).ownBlock) rfl rfl ?aP (fun _ hk => hk) ?aF ?aO ?aB ?aS ?aL ?_
             (case aP => exact (k49_mkF _ _ (⟨(⟨(zB l0_2 x9_3).f0.f0, (zB l0_2 x9_3).f0.f1, (zB l0_2 x9_3).f0.f2, (zB l0_2 x9_3).f0.f3⟩ : S46), (zB l0_2 x9_3).f1, (zB l0_2 x9_3).f2⟩ : S49) (Kd.V_reads' (Kd.zFd (ok' := (fun k_ => ((fun k_ => (P0_2_ k_ ∨ w.heap.size ≤ k_) ∧ some k_ ≠ (.slice Ao73 x347002_3.length co73 : Value).ownBlock ∧ k_ ≠ gb341 ∧ k_ ≠ gb342 ∧ k_ ≠ gb343 ∧ k_ ≠ gb346 ∧ k_ ≠ gb347)) k_ ∧ some k_ ≠ (u348002 : Value).ownBlock)) (HL354_4.out) (fun k_ hk => ⟨⟨hk.1, ⟨hk.2.1, ⟨hk.2.2.2.1, ⟨hk.2.2.2.2.1, ⟨hk.2.2.2.2.2.1, ⟨hk.2.2.2.2.2.2.1, hk.2.2.2.2.2.2.2⟩⟩⟩⟩⟩⟩, hk.2.2.1⟩))).2.1 (Kd.V_F (Kd.zFd (ok' := (fun k_ => ((fun k_ => (P0_2_ k_ ∨ w.heap.size ≤ k_) ∧ some k_ ≠ (.slice Ao73 x347002_3.length co73 : Value).ownBlock ∧ k_ ≠ gb341 ∧ k_ ≠ gb342 ∧ k_ ≠ gb343 ∧ k_ ≠ gb346 ∧ k_ ≠ gb347)) k_ ∧ some k_ ≠ (u348002 : Value).ownBlock)) (HL354_4.out) (fun k_ hk => ⟨⟨hk.1, ⟨hk.2.1, ⟨hk.2.2.2.1, ⟨hk.2.2.2.2.1, ⟨hk.2.2.2.2.2.1, ⟨hk.2.2.2.2.2.2.1, hk.2.2.2.2.2.2.2⟩⟩⟩⟩⟩⟩, hk.2.2.1⟩)))))
             (case aB => exact (by repeat (first | (with_reducible first | exact HB.out | apply zAb | apply zAc | apply zAh | refine zAj ?_ GE341.out | refine zAj ?_ GE342.out | refine zAj ?_ GE343.out | refine zAj ?_ GE346.out | refine zAj ?_ GE347.out) | exact HB.out)))
             (case aF => exact (fun k_ hk => ⟨(.inr (Nat.le_trans (zBb (by repeat (first | (with_reducible first | exact HB.out | apply zAb | apply zAc | apply zAh | refine zAj ?_ GE341.out | refine zAj ?_ GE342.out | refine zAj ?_ GE343.out | refine zAj ?_ GE346.out | refine zAj ?_ GE347.out) | exact HB.out))) hk)), Kd.fresh' (Kd.N_lt (by (with_reducible repeat (first | apply Kd.zFf | apply Kd.zFe | apply Kd.zEg)); exact HO_347002.out)) k_ hk, Kd.freshB (g := gb341) (o := .cells #[.string a0_0, .string a0_1, .slice (some ad348) l0_2.length c0_2] 25 (0, 0)) (by (with_reducible repeat (first | refine zAf ?_ _ | refine zAg ?_ | refine zAe ?_ _)); exact BK341.out) k_ hk, Kd.freshB (g := gb342) (o := .cells #[.string (⟨#[]⟩ : ByteArray), .string (⟨#[]⟩ : ByteArray), .slice none 0 0] 25 (0, 0)) (by (with_reducible repeat (first | refine zAf ?_ _ | refine zAg ?_ | refine zAe ?_ _)); exact BK342.out) k_ hk, Kd.freshB (g := gb343) (o := .cells #[.string (⟨#[]⟩ : ByteArray), .string (⟨#[]⟩ : ByteArray), .slice none 0 0] 25 (0, 0)) (by (with_reducible repeat (first | refine zAf ?_ _ | refine zAg ?_ | refine zAe ?_ _)); exact BK343.out) k_ hk, Kd.freshB (g := gb346) (o := .cells #[.string a0_0, .string a1, .slice Ao73 x347002_3.length co73] 25 (0, 0)) (by (with_reducible repeat (first | refine zAf ?_ _ | refine zAg ?_ | refine zAe ?_ _)); exact BK346.out) k_ hk, Kd.freshB (g := gb347) (o := .cells #[.string a1, .string a0_1, u348002] 25 (0, 0)) (by (with_reducible repeat (first | refine zAf ?_ _ | refine zAg ?_ | refine zAe ?_ _)); exact BK347.out) k_ hk⟩))
             (case aO => exact (by (with_reducible repeat (first | apply Kd.zFf | apply Kd.zFe | apply Kd.zEg)); exact HO_348002.out))
             (case aS => exact (zBb (by repeat (first | (with_reducible first | exact HB.out | apply zAb | apply zAc | apply zAh | refine zAj ?_ GE341.out | refine zAj ?_ GE342.out | refine zAj ?_ GE343.out | refine zAj ?_ GE346.out | refine zAj ?_ GE347.out) | exact HB.out))))
             (case aL => have := LMc66.out; omega)
             intro v356 w76 ho hb hg hat
             rw [← Ny355.out] at ho
             have n0_ := zA.mk (Kd.V_afterv (ok := (fun k_ => (P0_2_ k_ ∨ w.heap.size ≤ k_) ∧ some k_ ≠ (.slice Ao73 x347002_3.length co73 : Value).ownBlock ∧ k_ ≠ gb341 ∧ k_ ≠ gb342 ∧ k_ ≠ gb343 ∧ k_ ≠ gb346 ∧ k_ ≠ gb347)) (by (with_reducible repeat (first | apply Kd.zDj | apply Kd.zDi | apply Kd.zDg)); exact Kd.zFd HO_342002.out (fun _ hk => ⟨⟨hk.1, ⟨hk.2.1, ⟨hk.2.2.2.1, ⟨hk.2.2.2.2.1, ⟨hk.2.2.2.2.2.1, ⟨hk.2.2.2.2.2.2.1, hk.2.2.2.2.2.2.2⟩⟩⟩⟩⟩⟩, hk.2.2.1⟩)) hg hat)
             have n1_ := zA.mk (Kd.N_afterv (ok := (fun k_ => (P0_2_ k_ ∨ w.heap.size ≤ k_) ∧ k_ ≠ gb341 ∧ k_ ≠ gb342 ∧ k_ ≠ gb343 ∧ k_ ≠ gb346 ∧ k_ ≠ gb347)) (by (with_reducible repeat (first | apply Kd.zFf | apply Kd.zFe | apply Kd.zEg)); exact Kd.zGg HO_347002.out (fun _ hk => ⟨⟨hk.1, ⟨hk.2.2.1, ⟨hk.2.2.2.1, ⟨hk.2.2.2.2.1, ⟨hk.2.2.2.2.2.1, hk.2.2.2.2.2.2⟩⟩⟩⟩⟩, hk.2.1⟩)) hg hat)
             have n2_ := zA.mk (zC (g := gb341) (o := .cells #[.string a0_0, .string a0_1, .slice (some ad348) l0_2.length c0_2] 25 (0, 0)) (by (with_reducible repeat (first | refine zAf ?_ _ | refine zAg ?_ | refine zAe ?_ _)); exact BK341.out) hg (Kd.N_ne HO_348002.out BK341.out (by decide)))
             have n3_ := zA.mk (zC (g := gb342) (o := .cells #[.string (⟨#[]⟩ : ByteArray), .string (⟨#[]⟩ : ByteArray), .slice none 0 0] 25 (0, 0)) (by (with_reducible repeat (first | refine zAf ?_ _ | refine zAg ?_ | refine zAe ?_ _)); exact BK342.out) hg (Kd.N_ne HO_348002.out BK342.out (by decide)))
             have n4_ := zA.mk (zC (g := gb343) (o := .cells #[.string (⟨#[]⟩ : ByteArray), .string (⟨#[]⟩ : ByteArray), .slice none 0 0] 25 (0, 0)) (by (with_reducible repeat (first | refine zAf ?_ _ | refine zAg ?_ | refine zAe ?_ _)); exact BK343.out) hg (Kd.N_ne HO_348002.out BK343.out (by decide)))
             have n5_ := zA.mk (zC (g := gb346) (o := .cells #[.string a0_0, .string a1, .slice Ao73 x347002_3.length co73] 25 (0, 0)) (by (with_reducible repeat (first | refine zAf ?_ _ | refine zAg ?_ | refine zAe ?_ _)); exact BK346.out) hg (Kd.N_ne HO_348002.out BK346.out (by decide)))
             have n6_ := zA.mk (zC (g := gb347) (o := .cells #[.string a1, .string a0_1, u348002] 25 (0, 0)) (by (with_reducible repeat (first | refine zAf ?_ _ | refine zAg ?_ | refine zAe ?_ _)); exact BK347.out) hg (Kd.N_ne HO_348002.out BK347.out (by decide)))
             have n7_ := zA.mk (Kd.V_afterv (ok := (fun k_ => (P0_2_ k_ ∨ w.heap.size ≤ k_) ∧ some k_ ≠ (.slice Ao73 x347002_3.length co73 : Value).ownBlock ∧ k_ ≠ gb341 ∧ k_ ≠ gb342 ∧ k_ ≠ gb343 ∧ k_ ≠ gb346 ∧ k_ ≠ gb347)) (by (with_reducible repeat (first | apply Kd.zDj | apply Kd.zDi | apply Kd.zDg)); exact Kd.zFd HL348_4.out (fun _ hk => ⟨⟨hk.1, ⟨hk.2.1, ⟨hk.2.2.2.1, ⟨hk.2.2.2.2.1, ⟨hk.2.2.2.2.2.1, ⟨hk.2.2.2.2.2.2.1, hk.2.2.2.2.2.2.2⟩⟩⟩⟩⟩⟩, hk.2.2.1⟩)) hg hat)
             have n8_ := zA.mk (Kd.V_afterv (ok := (fun k_ => (P0_2_ k_ ∨ w.heap.size ≤ k_) ∧ some k_ ≠ (.slice Ao73 x347002_3.length co73 : Value).ownBlock ∧ k_ ≠ gb341 ∧ k_ ≠ gb342 ∧ k_ ≠ gb343 ∧ k_ ≠ gb346 ∧ k_ ≠ gb347)) (by (with_reducible repeat (first | apply Kd.zDj | apply Kd.zDi | apply Kd.zDg)); exact Kd.zFd HL354_4.out (fun _ hk => ⟨⟨hk.1, ⟨hk.2.1, ⟨hk.2.2.2.1, ⟨hk.2.2.2.2.1, ⟨hk.2.2.2.2.2.1, ⟨hk.2.2.2.2.2.2.1, hk.2.2.2.2.2.2.2⟩⟩⟩⟩⟩⟩, hk.2.2.1⟩)) hg hat)
             have n9_ := zA.mk (hb)
             have n10_ := zA.mk (ho)
             clear HO_342002
             clear HO_347002
             clear BK341
             clear BK342
             clear BK343
             clear BK346
             clear BK347
             clear HL348_4
             clear HL354_4
             clear HB
             clear HO_348002
             have HO_342002 := n0_
             have HO_347002 := n1_
             have BK341 := n2_
             have BK342 := n3_
             have BK343 := n4_
             have BK346 := n5_
             have BK347 := n6_
             have HL348_4 := n7_
             have HL354_4 := n8_
             have HB := n9_
             have HO357 := n10_
             clear n0_ n1_ n2_ n3_ n4_ n5_ n6_ n7_ n8_ n9_ n10_
             clear ho hb hg hat
             obtain ⟨Ao77, co77, eo77⟩ := Kd.N_slice HO357.out
             (first | subst eo77 | (injection eo77 with f1_ f2_ f3_; have f4_ := f1_.symm; have f5_ := f3_.symm; clear f1_ f2_ f3_; subst f4_; subst f5_))
             refine hK.out _ _ ?_
             clear hK K
             refine norm_ (a' := ?_) ?_ ?_
             rotate_left
             ·show Act.put _ (some 81) _ = _
              simp only [Act.put, List.setIfInBounds_toArray, List.set_cons_zero, List.set_cons_succ, i64_w, i32_w]
              rfl
             refine pure_ (i := 9) (N := some 82) (v := ?_) (a' := ?_) #[true, true, true, true, true, true, true, true, true, true, false] rfl rfl (zFg HT_.out (by kernel_rfl)) (fun _ _ _ h => h) (Or.inl ⟨by rfl, ?_⟩) ?_ ?_
             rotate_left
             ·intro w'
              go_simp
              with_reducible rfl
             rotate_left
             ·simp only [Act.put, List.setIfInBounds_toArray, List.set_cons_zero, List.set_cons_succ, i64_w, i32_w]
              rfl
             refine last_ (i := 10) (N := none) #[true, true, true, true, true, true, true, true, true, true, true] rfl rfl (one_of HT_.out (by kernel_rfl)) (by decide) (fun K hK => ?_)
             have hs78 : w76.cell? ⟨gb347, 2, none⟩ = some (u348002) := (zAa BK347.out 2).trans rfl
             have hfs78 := zAd BK347.out 2
             have hns78_0 := NB341_347.out
             have hns78_1 := NB342_347.out
             have hns78_2 := NB343_347.out
             have hns78_3 := NB346_347.out
             have hms78_0 := NB347_341.out
             have hms78_1 := NB347_342.out
             have hms78_2 := NB347_343.out
             have hms78_3 := NB347_346.out
             refine skip_ (w1 := ?_) (by rfl) rfl ?_ ?_
             rotate_left
             ·go_simp
              rfl
             refine hK.out _ _ ?_
             clear hK K
             refine done_ (done_of HT_.out (by kernel_rfl)) ?_
             try go_wp2
             go_roundg k3
             case measure => have := HJ2.out; have := HJ13.out; have := HK3.out; omega
             case rel => exact ⟨(wrap64 (x9_3 + 1)), (x347002_3), (y355), (.slice Ao73 x347002_3.length co73), (.slice Ao77 y355.length co77), (by first | rfl | (simp; done) | (simp [*]; done)), H', ⟨by have := HJ2.out; have := HJ13.out; have := HK3.out; omega⟩, ⟨by (with_reducible repeat (first | apply Kd.zDj | apply Kd.zDi | apply Kd.zDg)); exact Kd.zFd (Kd.V_far (p := ⟨gb347, 2, none⟩) (Kd.zFd HO_342002.out (fun k_ hk => (⟨hk, hk.1.2.2.2.2.2.2⟩ : _ ∧ k_ ≠ gb347))) (fun _ hk => hk.2) (.slice Ao77 y355.length co77)) (fun _ hk => ⟨hk.1.1.1, ⟨hk.1.1.2.1, ⟨hk.1.2, ⟨hk.1.1.2.2.1, ⟨hk.1.1.2.2.2.1, ⟨hk.1.1.2.2.2.2.1, ⟨hk.1.1.2.2.2.2.2.1, hk.1.1.2.2.2.2.2.2⟩⟩⟩⟩⟩⟩⟩)⟩, ⟨by (with_reducible repeat (first | apply Kd.zFf | apply Kd.zFe | apply Kd.zEg)); exact Kd.zGg (Kd.N_far (p := ⟨gb347, 2, none⟩) (Kd.zGg HO_347002.out (fun k_ hk => (⟨hk, hk.1.2.2.2.2.2⟩ : _ ∧ k_ ≠ gb347))) (fun _ hk => hk.2) (.slice Ao77 y355.length co77)) (fun _ hk => ⟨hk.1.1.1, ⟨hk.1.2, ⟨hk.1.1.2.1, ⟨hk.1.1.2.2.1, ⟨hk.1.1.2.2.2.1, ⟨hk.1.1.2.2.2.2.1, hk.1.1.2.2.2.2.2⟩⟩⟩⟩⟩⟩)⟩, ⟨by (with_reducible repeat (first | apply Kd.zFf | apply Kd.zFe | apply Kd.zEg)); exact Kd.zGg (Kd.N_far (p := ⟨gb347, 2, none⟩) (Kd.zGg HO357.out (fun k_ hk => (⟨hk, hk.2.2.2.2.2.2⟩ : _ ∧ k_ ≠ gb347))) (fun _ hk => hk.2) (.slice Ao77 y355.length co77)) (fun _ hk => ⟨hk.1.1, ⟨hk.1.2.1, ⟨hk.1.2.2.1, ⟨hk.1.2.2.2.1, ⟨hk.1.2.2.2.2.1, ⟨hk.1.2.2.2.2.2.1, hk.1.2.2.2.2.2.2⟩⟩⟩⟩⟩⟩)⟩, ⟨by (with_reducible repeat (first | refine zAf ?_ _ | refine zAg ?_ | refine zAe ?_ _)); refine zBd ?_ NB341_347.out _; (with_reducible repeat (first | refine zAf ?_ _ | refine zAg ?_ | refine zAe ?_ _)); exact BK341.out⟩, ⟨by (with_reducible repeat (first | refine zAf ?_ _ | refine zAg ?_ | refine zAe ?_ _)); refine zBd ?_ NB342_347.out _; (with_reducible repeat (first | refine zAf ?_ _ | refine zAg ?_ | refine zAe ?_ _)); exact BK342.out⟩, ⟨by (with_reducible repeat (first | refine zAf ?_ _ | refine zAg ?_ | refine zAe ?_ _)); refine zBd ?_ NB343_347.out _; (with_reducible repeat (first | refine zAf ?_ _ | refine zAg ?_ | refine zAe ?_ _)); exact BK343.out⟩, ⟨by (with_reducible repeat (first | refine zAf ?_ _ | refine zAg ?_ | refine zAe ?_ _)); refine zBd ?_ NB346_347.out _; (with_reducible repeat (first | refine zAf ?_ _ | refine zAg ?_ | refine zAe ?_ _)); exact BK346.out⟩, ⟨by (with_reducible repeat (first | refine zAf ?_ _ | refine zAg ?_ | refine zAe ?_ _)); refine zCj (cs := #[.string a1, .string a0_1, u348002]) ?_ 2 _ rfl; (with_reducible repeat (first | refine zAf ?_ _ | refine zAg ?_ | refine zAe ?_ _)); exact BK347.out⟩, ⟨by repeat (first | (with_reducible first | exact HB.out | apply zAb | apply zAc | apply zAh | refine zAj ?_ GE341.out | refine zAj ?_ GE342.out | refine zAj ?_ GE343.out | refine zAj ?_ GE346.out | refine zAj ?_ GE347.out) | exact HB.out)⟩⟩
            ·rw [if_neg c66] at H
             exact absurd H (by simp)
          ·rw [if_neg c50] at H
           exact absurd H (by simp)
         ·rw [if_neg c49] at H
          have c49b0 : decide (x9_3 < (l0_2.length : Int)) = false := decide_eq_false c49
          clear c49
          simp only [Option.some.injEq, Prod.mk.injEq] at H
          obtain ⟨rfl, rfl, rfl, rfl, rfl, rfl, rfl⟩ := H
          have hnb79 := NB341_342.out
          have hnc79 := NB342_341.out
          have hnb80 := NB341_343.out
          have hnc80 := NB343_341.out
          have hnb81 := NB341_346.out
          have hnc81 := NB346_341.out
          have hnb82 := NB341_347.out
          have hnc82 := NB347_341.out
          have hcz83_0 : wr.cell? ⟨gb341, 0, none⟩ = some (.string a0_0) := (zAa BK341.out 0).trans rfl
          have hcz83_1 : wr.cell? ⟨gb341, 1, none⟩ = some (.string a0_1) := (zAa BK341.out 1).trans rfl
          have hcz83_2 : wr.cell? ⟨gb341, 2, none⟩ = some (.slice A0_2 l0_2.length c0_2) := (zAa BK341.out 2).trans rfl
          have hfz83_0 := zAd BK341.out 0
          have hfz83_1 := zAd BK341.out 1
          have hfz83_2 := zAd BK341.out 2
          try go_wp2
          have n0_ := zA.mk (Kd.zDg HO_342002.out)
          have n1_ := zA.mk (Kd.zEg HO_347002.out)
          have n2_ := zA.mk (Kd.zEg HO_348002.out)
          have n3_ := zA.mk (zAg BK341.out)
          have n4_ := zA.mk (zAg BK342.out)
          have n5_ := zA.mk (zAg BK343.out)
          have n6_ := zA.mk (zAg BK346.out)
          have n7_ := zA.mk (zAg BK347.out)
          have n8_ := zA.mk (zAh HB.out)
          clear HO_342002
          clear HO_347002
          clear HO_348002
          clear BK341
          clear BK342
          clear BK343
          clear BK346
          clear BK347
          clear HB
          have HO_342002 := n0_
          have HO_347002 := n1_
          have HO_348002 := n2_
          have BK341 := n3_
          have BK342 := n4_
          have BK343 := n5_
          have BK346 := n6_
          have BK347 := n7_
          have HB := n8_
          clear n0_ n1_ n2_ n3_ n4_ n5_ n6_ n7_ n8_
          obtain ⟨Ao87, co87, eo87⟩ := Kd.N_slice HO_347002.out
          (first | subst eo87 | (injection eo87 with f1_ f2_ f3_; have f4_ := f1_.symm; have f5_ := f3_.symm; clear f1_ f2_ f3_; subst f4_; subst f5_))
          obtain ⟨Ao91, co91, eo91⟩ := Kd.N_slice HO_348002.out
          (first | subst eo91 | (injection eo91 with f1_ f2_ f3_; have f4_ := f1_.symm; have f5_ := f3_.symm; clear f1_ f2_ f3_; subst f4_; subst f5_))
          refine start_ (n := 5) (S := fun w' => w'.cell? ⟨gb346, 0, none⟩ = some (.string a0_0) ∧ w'.cell? ⟨gb346, 1, none⟩ = some (.string a1) ∧ w'.cell? ⟨gb346, 2, none⟩ = some (.slice Ao87 x347002_3.length co87) ∧ w'.cell? ⟨gb347, 0, none⟩ = some (.string a1) ∧ w'.cell? ⟨gb347, 1, none⟩ = some (.string a0_1) ∧ w'.cell? ⟨gb347, 2, none⟩ = some (.slice Ao91 x348002_3.length co91)) (ds := []) #[false, false, false, false, false] (by kernel_rfl) rfl rfl ⟨(zAa BK346.out 0).trans rfl, (zAa BK346.out 1).trans rfl, (zAa BK346.out 2).trans rfl, (zAa BK347.out 0).trans rfl, (zAa BK347.out 1).trans rfl, (zAa BK347.out 2).trans rfl⟩ (fun hHeld => ?_)
          generalize wr.drew = w84 at HO_342002 HO_347002 HO_348002 BK341 BK342 BK343 BK346 BK347 HB hHeld ⊢
          refine take_ (i := 0) (N := some 83) (v := ?_) (a' := ?_) #[true, false, false, false, false] rfl rfl (by kernel_rfl) (fun _ _ _ h => h) (Or.inl ⟨by rfl, ?_⟩) hHeld ?_ ?_
          rotate_left
          ·rintro w' ⟨s0, s1, s2, s3, s4, s5⟩
           go_simp
           with_reducible rfl
          rotate_left
          ·simp only [Act.put, List.setIfInBounds_toArray, List.set_cons_zero, List.set_cons_succ, i64_w, i32_w]
           rfl
          refine take_ (i := 1) (N := some 84) (v := ?_) (a' := ?_) #[true, true, false, false, false] rfl rfl (by kernel_rfl) (fun _ _ _ h => h) (Or.inl ⟨by rfl, ?_⟩) hHeld ?_ ?_
          rotate_left
          ·rintro w' ⟨s0, s1, s2, s3, s4, s5⟩
           go_simp
           with_reducible rfl
          rotate_left
          ·simp only [Act.put, List.setIfInBounds_toArray, List.set_cons_zero, List.set_cons_succ, i64_w, i32_w]
           rfl
          refine one_ (i := 2) (N := none) #[true, true, true, false, false] rfl rfl (by kernel_rfl) (by decide) (fun K hK => ?_)
          have hs85 : w84.cell? ⟨gb342, 0, none⟩ = some (.string (⟨#[]⟩ : ByteArray)) := (zAa BK342.out 0).trans rfl
          have hfs85 := zAd BK342.out 0
          have hns85_0 := NB341_342.out
          have hns85_2 := NB343_342.out
          have hns85_3 := NB346_342.out
          have hns85_4 := NB347_342.out
          have hms85_0 := NB342_341.out
          have hms85_2 := NB342_343.out
          have hms85_3 := NB342_346.out
          have hms85_4 := NB342_347.out
          have hs86 : w84.cell? ⟨gb342, 1, none⟩ = some (.string (⟨#[]⟩ : ByteArray)) := (zAa BK342.out 1).trans rfl
          have hfs86 := zAd BK342.out 1
          have hns86_0 := NB341_342.out
          have hns86_2 := NB343_342.out
          have hns86_3 := NB346_342.out
          have hns86_4 := NB347_342.out
          have hms86_0 := NB342_341.out
          have hms86_2 := NB342_343.out
          have hms86_3 := NB342_346.out
          have hms86_4 := NB342_347.out
          have hs88 : w84.cell? ⟨gb342, 2, none⟩ = some (.slice none 0 0) := (zAa BK342.out 2).trans rfl
          have hfs88 := zAd BK342.out 2
          have hns88_0 := NB341_342.out
          have hns88_2 := NB343_342.out
          have hns88_3 := NB346_342.out
          have hns88_4 := NB347_342.out
          have hms88_0 := NB342_341.out
          have hms88_2 := NB342_343.out
          have hms88_3 := NB342_346.out
          have hms88_4 := NB342_347.out
          refine skip_ (w1 := ?_) (by rfl) rfl ?_ ?_
          rotate_left
          ·go_simp
           rfl
          refine hK.out _ _ ⟨((cell_far (p := ⟨gb342, _, none⟩) NB346_342.out _).trans (((cell_far (p := ⟨gb342, _, none⟩) NB346_342.out _).trans (((cell_far (p := ⟨gb342, _, none⟩) NB346_342.out _).trans (hHeld.1)))))), ((cell_far (p := ⟨gb342, _, none⟩) NB346_342.out _).trans (((cell_far (p := ⟨gb342, _, none⟩) NB346_342.out _).trans (((cell_far (p := ⟨gb342, _, none⟩) NB346_342.out _).trans (hHeld.2.1)))))), ((cell_far (p := ⟨gb342, _, none⟩) NB346_342.out _).trans (((cell_far (p := ⟨gb342, _, none⟩) NB346_342.out _).trans (((cell_far (p := ⟨gb342, _, none⟩) NB346_342.out _).trans (hHeld.2.2.1)))))), ((cell_far (p := ⟨gb342, _, none⟩) NB347_342.out _).trans (((cell_far (p := ⟨gb342, _, none⟩) NB347_342.out _).trans (((cell_far (p := ⟨gb342, _, none⟩) NB347_342.out _).trans (hHeld.2.2.2.1)))))), ((cell_far (p := ⟨gb342, _, none⟩) NB347_342.out _).trans (((cell_far (p := ⟨gb342, _, none⟩) NB347_342.out _).trans (((cell_far (p := ⟨gb342, _, none⟩) NB347_342.out _).trans (hHeld.2.2.2.2.1)))))), ((cell_far (p := ⟨gb342, _, none⟩) NB347_342.out _).trans (((cell_far (p := ⟨gb342, _, none⟩) NB347_342.out _).trans (((cell_far (p := ⟨gb342, _, none⟩) NB347_342.out _).trans (hHeld.2.2.2.2.2))))))⟩ (fun hHeld => ?_)
          clear hK K
          refine one_ (i := 3) (N := none) #[true, true, true, true, false] rfl rfl (by kernel_rfl) (by decide) (fun K hK => ?_)
          have hs89 : w84.cell? ⟨gb343, 0, none⟩ = some (.string (⟨#[]⟩ : ByteArray)) := (zAa BK343.out 0).trans rfl
          have hfs89 := zAd BK343.out 0
          have hns89_0 := NB341_343.out
          have hns89_1 := NB342_343.out
          have hns89_3 := NB346_343.out
          have hns89_4 := NB347_343.out
          have hms89_0 := NB343_341.out
          have hms89_1 := NB343_342.out
          have hms89_3 := NB343_346.out
          have hms89_4 := NB343_347.out
          have hs90 : w84.cell? ⟨gb343, 1, none⟩ = some (.string (⟨#[]⟩ : ByteArray)) := (zAa BK343.out 1).trans rfl
          have hfs90 := zAd BK343.out 1
          have hns90_0 := NB341_343.out
          have hns90_1 := NB342_343.out
          have hns90_3 := NB346_343.out
          have hns90_4 := NB347_343.out
          have hms90_0 := NB343_341.out
          have hms90_1 := NB343_342.out
          have hms90_3 := NB343_346.out
          have hms90_4 := NB343_347.out
          have hs92 : w84.cell? ⟨gb343, 2, none⟩ = some (.slice none 0 0) := (zAa BK343.out 2).trans rfl
          have hfs92 := zAd BK343.out 2
          have hns92_0 := NB341_343.out
          have hns92_1 := NB342_343.out
          have hns92_3 := NB346_343.out
          have hns92_4 := NB347_343.out
          have hms92_0 := NB343_341.out
          have hms92_1 := NB343_342.out
          have hms92_3 := NB343_346.out
          have hms92_4 := NB343_347.out
          refine skip_ (w1 := ?_) (by rfl) rfl ?_ ?_
          rotate_left
          ·go_simp
           rfl
          refine hK.out _ _ ⟨((cell_far (p := ⟨gb343, _, none⟩) NB346_343.out _).trans (((cell_far (p := ⟨gb343, _, none⟩) NB346_343.out _).trans (((cell_far (p := ⟨gb343, _, none⟩) NB346_343.out _).trans (hHeld.1)))))), ((cell_far (p := ⟨gb343, _, none⟩) NB346_343.out _).trans (((cell_far (p := ⟨gb343, _, none⟩) NB346_343.out _).trans (((cell_far (p := ⟨gb343, _, none⟩) NB346_343.out _).trans (hHeld.2.1)))))), ((cell_far (p := ⟨gb343, _, none⟩) NB346_343.out _).trans (((cell_far (p := ⟨gb343, _, none⟩) NB346_343.out _).trans (((cell_far (p := ⟨gb343, _, none⟩) NB346_343.out _).trans (hHeld.2.2.1)))))), ((cell_far (p := ⟨gb343, _, none⟩) NB347_343.out _).trans (((cell_far (p := ⟨gb343, _, none⟩) NB347_343.out _).trans (((cell_far (p := ⟨gb343, _, none⟩) NB347_343.out _).trans (hHeld.2.2.2.1)))))), ((cell_far (p := ⟨gb343, _, none⟩) NB347_343.out _).trans (((cell_far (p := ⟨gb343, _, none⟩) NB347_343.out _).trans (((cell_far (p := ⟨gb343, _, none⟩) NB347_343.out _).trans (hHeld.2.2.2.2.1)))))), ((cell_far (p := ⟨gb343, _, none⟩) NB347_343.out _).trans (((cell_far (p := ⟨gb343, _, none⟩) NB347_343.out _).trans (((cell_far (p := ⟨gb343, _, none⟩) NB347_343.out _).trans (hHeld.2.2.2.2.2))))))⟩ (fun hHeld => ?_)
          clear hK K
          refine pure_ (i := 4) (N := some 6) (v := ?_) (a' := ?_) #[true, true, true, true, true] rfl rfl (by kernel_rfl) (fun _ _ _ h => h) (Or.inl ⟨by rfl, ?_⟩) ?_ ?_
          rotate_left
          ·intro w'
           go_simp
           with_reducible rfl
          rotate_left
          ·simp only [Act.put, List.setIfInBounds_toArray, List.set_cons_zero, List.set_cons_succ, i64_w, i32_w]
           rfl
          refine done_ (by kernel_rfl) ?_
          try go_wp2
          refine bodyPost_ret (results_list (rs := [.cell 4 25, .cell 5 25, .tmp 6]) rfl (by simp) (.cell gb342 25 #[.string a0_0, .string a1, .slice Ao87 x347002_3.length co87] (0, 0) _ rfl (by (with_reducible repeat (first | refine zAf ?_ _ | refine zAg ?_ | refine zAe ?_ _)); refine zBd ?_ NB342_343.out _; (with_reducible repeat (first | refine zAf ?_ _ | refine zAg ?_ | refine zAe ?_ _)); refine zBd ?_ NB342_343.out _; (with_reducible repeat (first | refine zAf ?_ _ | refine zAg ?_ | refine zAe ?_ _)); refine zBd ?_ NB342_343.out _; (with_reducible repeat (first | refine zAf ?_ _ | refine zAg ?_ | refine zAe ?_ _)); refine zCj (cs := #[.string a0_0, .string a1, .slice none 0 0]) ?_ 2 _ rfl; (with_reducible repeat (first | refine zAf ?_ _ | refine zAg ?_ | refine zAe ?_ _)); refine zCj (cs := #[.string a0_0, .string (⟨#[]⟩ : ByteArray), .slice none 0 0]) ?_ 1 _ rfl; (with_reducible repeat (first | refine zAf ?_ _ | refine zAg ?_ | refine zAe ?_ _)); refine zCj (cs := #[.string (⟨#[]⟩ : ByteArray), .string (⟨#[]⟩ : ByteArray), .slice none 0 0]) ?_ 0 _ rfl; (with_reducible repeat (first | refine zAf ?_ _ | refine zAg ?_ | refine zAe ?_ _)); exact BK342.out) Tryz.underlying25 rfl (by kernel_rfl) (.cell gb343 25 #[.string a1, .string a0_1, .slice Ao91 x348002_3.length co91] (0, 0) _ rfl (by (with_reducible repeat (first | refine zAf ?_ _ | refine zAg ?_ | refine zAe ?_ _)); refine zCj (cs := #[.string a1, .string a0_1, .slice none 0 0]) ?_ 2 _ rfl; (with_reducible repeat (first | refine zAf ?_ _ | refine zAg ?_ | refine zAe ?_ _)); refine zCj (cs := #[.string a1, .string (⟨#[]⟩ : ByteArray), .slice none 0 0]) ?_ 1 _ rfl; (with_reducible repeat (first | refine zAf ?_ _ | refine zAg ?_ | refine zAe ?_ _)); refine zCj (cs := #[.string (⟨#[]⟩ : ByteArray), .string (⟨#[]⟩ : ByteArray), .slice none 0 0]) ?_ 0 _ rfl; (with_reducible repeat (first | refine zAf ?_ _ | refine zAg ?_ | refine zAe ?_ _)); refine zBd ?_ NB343_342.out _; (with_reducible repeat (first | refine zAf ?_ _ | refine zAg ?_ | refine zAe ?_ _)); refine zBd ?_ NB343_342.out _; (with_reducible repeat (first | refine zAf ?_ _ | refine zAg ?_ | refine zAe ?_ _)); refine zBd ?_ NB343_342.out _; (with_reducible repeat (first | refine zAf ?_ _ | refine zAg ?_ | refine zAe ?_ _)); exact BK343.out) Tryz.underlying25 rfl (by kernel_rfl) (.tmp .nil)))) rfl ?_
          exact ⟨_, _, by first | rfl | (simp [zBg, zBf] <;> rfl) | (simp [*, zBg, zBf] <;> rfl), by (with_reducible repeat (first | apply Kd.zFf | apply Kd.zFe | apply Kd.zEg)); exact Kd.zGg (Kd.N_far (p := ⟨gb343, 2, none⟩) (Kd.N_far (p := ⟨gb343, 1, none⟩) (Kd.N_far (p := ⟨gb343, 0, none⟩) (Kd.N_far (p := ⟨gb342, 2, none⟩) (Kd.N_far (p := ⟨gb342, 1, none⟩) (Kd.N_far (p := ⟨gb342, 0, none⟩) (Kd.zGg (Kd.zGg HO_347002.out (fun k_ hk => (⟨hk, hk.2.2.2.1⟩ : _ ∧ k_ ≠ gb342))) (fun k_ hk => (⟨hk, hk.1.2.2.2.2.1⟩ : _ ∧ k_ ≠ gb343))) (fun _ hk => hk.1.2) (.string a0_0)) (fun _ hk => hk.1.2) (.string a1)) (fun _ hk => hk.1.2) (.slice Ao87 x347002_3.length co87)) (fun _ hk => hk.2) (.string a1)) (fun _ hk => hk.2) (.string a0_1)) (fun _ hk => hk.2) (.slice Ao91 x348002_3.length co91)) (fun _ hk => ⟨hk.1.1.1, hk.1.1.2.1⟩), by (with_reducible repeat (first | apply Kd.zFf | apply Kd.zFe | apply Kd.zEg)); exact Kd.zGg (Kd.N_far (p := ⟨gb343, 2, none⟩) (Kd.N_far (p := ⟨gb343, 1, none⟩) (Kd.N_far (p := ⟨gb343, 0, none⟩) (Kd.N_far (p := ⟨gb342, 2, none⟩) (Kd.N_far (p := ⟨gb342, 1, none⟩) (Kd.N_far (p := ⟨gb342, 0, none⟩) (Kd.zGg (Kd.zGg HO_348002.out (fun k_ hk => (⟨hk, hk.2.2.2.1⟩ : _ ∧ k_ ≠ gb342))) (fun k_ hk => (⟨hk, hk.1.2.2.2.2.1⟩ : _ ∧ k_ ≠ gb343))) (fun _ hk => hk.1.2) (.string a0_0)) (fun _ hk => hk.1.2) (.string a1)) (fun _ hk => hk.1.2) (.slice Ao87 x347002_3.length co87)) (fun _ hk => hk.2) (.string a1)) (fun _ hk => hk.2) (.string a0_1)) (fun _ hk => hk.2) (.slice Ao91 x348002_3.length co91)) (fun _ hk => ⟨hk.1.1.1, hk.1.1.2.1⟩), by repeat (first | (with_reducible first | exact HB.out | apply zAb | apply zAc | apply zAh | refine zAj ?_ GE341.out | refine zAj ?_ GE342.out | refine zAj ?_ GE343.out | refine zAj ?_ GE346.out | refine zAj ?_ GE347.out) | exact HB.out)⟩
end Go.Proofs.YtpckachmleonlaaGreatDoor.PSplitCuts
end
