/- Words and walks for Split and Tablet: texts of these sessions, and of the kit's print, cut down to what is used (PSplitCutsx5). -/
import Derived.Test.YtpckachmleonlaaGreatDoorCv3
section
namespace Go.Proofs.YtpckachmleonlaaGreatDoor.PSplitCuts
open Go.RowKit Go.Proofs.YtpckachmleonlaaGreatDoorW.PrintWords Go.Proofs.YtpckachmleonlaaGreatDoorW.PrintLast Go.Proofs.YtpckachmleonlaaGreatDoorW.PrintMore
attribute [local go_sem] max2_int min2_int max_two min_two max_three min_three max_four min_four
set_option linter.unusedVariables false
set_option linter.unusedSimpArgs false
def bulwarkref11_Middle.l0 : Nat → List ByteArray → Int → ByteArray → ByteArray → List (S49) → Option (ByteArray × Bool)
 | 0, _, _, _, _, _ => none
 | k + 1, x4, x5, x359000, x359001, x359002 => if x5 < (x359002.length : Int) then (if (x4.length : Int) = 0 then (if 0 ≤ x5 then (if x4.length < 8796093022208 then (bulwarkref11_Middle.l0 k (x4 ++ [(zBd x359002 x5).f0.f0]) (wrap64 (x5 + 1)) x359000 x359001 x359002) else (none)) else (none)) else (if 0 ≤ (wrap64 ((x4.length : Int) - 1)) then (if (wrap64 ((x4.length : Int) - 1)) < (x4.length : Int) then (if 0 ≤ x5 then (if (rdOf ByteArray.empty x4 (wrap64 ((x4.length : Int) - 1))).toList = ((zBd x359002 x5).f0.f0).toList then (bulwarkref11_Middle.l0 k x4 (wrap64 (x5 + 1)) x359000 x359001 x359002) else (if x4.length < 8796093022208 then (bulwarkref11_Middle.l0 k (x4 ++ [(zBd x359002 x5).f0.f0]) (wrap64 (x5 + 1)) x359000 x359001 x359002) else (none))) else (none)) else (none)) else (none))) else (if (x4.length : Int) < 2 then (some ((⟨#[]⟩ : ByteArray), false)) else (if 0 ≤ (wrap64 ((x4.length : Int) / 2)) then (if (wrap64 ((x4.length : Int) / 2)) < (x4.length : Int) then (some (rdOf ByteArray.empty x4 (wrap64 ((x4.length : Int) / 2)), true)) else (none)) else (none)))
def bulwarkref11_Middle.f (k : Nat) (a0_0 : ByteArray) (a0_1 : ByteArray) (l0_2 : List (S49)) : Option (ByteArray × Bool) := bulwarkref11_Middle.l0 k ([] : List ByteArray) 0 a0_0 a0_1 l0_2
set_option maxHeartbeats 8000000 in
set_option maxRecDepth 100000 in
theorem bulwarkref11_Middle.calls (k : Nat) (a0_0 : ByteArray) (a0_1 : ByteArray) (A0_2 : Option Addr) (c0_2 : Nat) (l0_2 : List (S49)) (r1 : ByteArray) (r2 : Bool) (w : World) (hr0_2 : Kd.C k49 w A0_2 l0_2.length l0_2) (hc0_2 : l0_2.length ≤ c0_2) (h : bulwarkref11_Middle.f k a0_0 a0_1 l0_2 = some (r1, r2)) :
  Calls Tryz.prog 20 #[.agg #[.string a0_0, .string a0_1, .slice A0_2 l0_2.length c0_2]] w fun e w' => e = .returned (.tuple #[.string r1, .bool r2]) ∧ Below w.heap.size w w' := by
 have hu25 := Tryz.underlying25
 have HR0_2 := zAa.mk hr0_2
 have HC0_2 := zAa.mk hc0_2
 clear hr0_2 hc0_2
 have HB := zAa.mk (Below.refl w.heap.size w)
 have H : (bulwarkref11_Middle.l0 k ([] : List ByteArray) 0 a0_0 a0_1 l0_2) = some (r1, r2) := h
 clear h
 have H' := zAa.mk H
 clear H
 go_enter Tryz.func20, Tryz.ntmps20
 go_wp2_with (first | ((with_reducible refine zDe (N := 1) rfl ?_); (try (refine gate_guard (by rfl) ?_; dsimp only)); refine zCh ?hg (N := 1) ?hd (cs := #[.string a0_0, .string a0_1, .slice A0_2 l0_2.length c0_2]) (t := 25) ?hr ?_; (case hd => rfl); (case hg => rfl); (case hr => first | (go_simp; done) | (go_simp; rfl)); intro gb358 hg w2 hbox hb; have n0_ := zAa.mk (zCa (by repeat (first | (with_reducible first | exact HB.out | apply zAb | apply zAe | apply zAh) | exact HB.out)) hb); have n1_ := zAa.mk (hbox); have n2_ := zAa.mk ((by rw [hg]; exact (zBa (by repeat (first | (with_reducible first | exact HB.out | apply zAb | apply zAe | apply zAh) | exact HB.out))) : w.heap.size ≤ gb358)); have n3_ := zAa.mk ((by rw [hg]; exact (zBa (by repeat (first | (with_reducible first | exact HB.out | apply zAb | apply zAe | apply zAh) | exact HB.out))) : w.heap.size ≤ gb358)); clear HB; have HB := n0_; have BK358 := n1_; have GW358 := n2_; have GE358 := n3_; clear n0_ n1_ n2_ n3_; clear hb hbox hg))
 repeat (go_quiet (first | ((with_reducible refine zDe (N := 1) rfl ?_); (try (refine gate_guard (by rfl) ?_; dsimp only)); refine zCh ?hg (N := 1) ?hd (cs := #[.string a0_0, .string a0_1, .slice A0_2 l0_2.length c0_2]) (t := 25) ?hr ?_; (case hd => rfl); (case hg => rfl); (case hr => first | (go_simp; done) | (go_simp; rfl)); intro gb358 hg w2 hbox hb; have n0_ := zAa.mk (zCa (by repeat (first | (with_reducible first | exact HB.out | apply zAb | apply zAe | apply zAh) | exact HB.out)) hb); have n1_ := zAa.mk (hbox); have n2_ := zAa.mk ((by rw [hg]; exact (zBa (by repeat (first | (with_reducible first | exact HB.out | apply zAb | apply zAe | apply zAh) | exact HB.out))) : w.heap.size ≤ gb358)); have n3_ := zAa.mk ((by rw [hg]; exact (zBa (by repeat (first | (with_reducible first | exact HB.out | apply zAb | apply zAe | apply zAh) | exact HB.out))) : w.heap.size ≤ gb358)); clear HB; have HB := n0_; have BK358 := n1_; have GW358 := n2_; have GE358 := n3_; clear n0_ n1_ n2_ n3_; clear hb hbox hg)); try go_wp2_with (first | ((with_reducible refine zDe (N := 1) rfl ?_); (try (refine gate_guard (by rfl) ?_; dsimp only)); refine zCh ?hg (N := 1) ?hd (cs := #[.string a0_0, .string a0_1, .slice A0_2 l0_2.length c0_2]) (t := 25) ?hr ?_; (case hd => rfl); (case hg => rfl); (case hr => first | (go_simp; done) | (go_simp; rfl)); intro gb358 hg w2 hbox hb; have n0_ := zAa.mk (zCa (by repeat (first | (with_reducible first | exact HB.out | apply zAb | apply zAe | apply zAh) | exact HB.out)) hb); have n1_ := zAa.mk (hbox); have n2_ := zAa.mk ((by rw [hg]; exact (zBa (by repeat (first | (with_reducible first | exact HB.out | apply zAb | apply zAe | apply zAh) | exact HB.out))) : w.heap.size ≤ gb358)); have n3_ := zAa.mk ((by rw [hg]; exact (zBa (by repeat (first | (with_reducible first | exact HB.out | apply zAb | apply zAe | apply zAh) | exact HB.out))) : w.heap.size ≤ gb358)); clear HB; have HB := n0_; have BK358 := n1_; have GW358 := n2_; have GE358 := n3_; clear n0_ n1_ n2_ n3_; clear hb hbox hg)))
 go_loopg [4, 5] k (fun kq v4 v5 w' => ∃ (x4_1 : List ByteArray) (x5_1 : Int), v5 = .int .i64 x5_1 ∧ zAa (bulwarkref11_Middle.l0 kq x4_1 x5_1 a0_0 a0_1 l0_2 = some (r1, r2)) ∧ zAa (kq ≤ k) ∧ zAa (Kd.R Kd.string 9 w' w.heap.size (fun _ => True) v4 x4_1) ∧ zAa (w'.heap[gb358]? = some (.cells #[.string a0_0, .string a0_1, (.slice A0_2 l0_2.length c0_2)] 25 (0, 0))) ∧ zAa (Below w.heap.size w w'))
 case atStart => exact ⟨(([] : List ByteArray)), (0), (by first | rfl | (simp; done) | (simp [*]; done)), H', ⟨Nat.le_refl _⟩, ⟨by first | exact Kd.R_nil _ _ _ _ _ | exact Kd.N_nil _ _ _ _ _ | exact Kd.V_nil _ _ _ _ _ | exact Kd.Q_nil _ _ _ _ _ | exact Kd.S_nil _ _ _ _ _⟩, ⟨by (with_reducible repeat (first | refine zBf ?_ _ | refine zBg ?_ | refine zAi ?_ _)); exact BK358.out⟩, ⟨by repeat (first | (with_reducible first | exact HB.out | apply zAb | apply zAe | apply zAh | refine zB ?_ GE358.out) | exact HB.out)⟩⟩
 case round =>
  clear H'
  try clear c2
  try clear p2
  obtain ⟨x4_1, x5_1, rfl, HA, HK1, HO_4, BK358, HB⟩ := hrel
  cases gk with
  | zero => exact absurd HA.out (by simp [bulwarkref11_Middle.l0])
  | succ k1 =>
   have H := HA.out
   clear HA
   simp only [bulwarkref11_Middle.l0] at H
   by_cases c3 : x5_1 < (l0_2.length : Int)
   ·rw [if_pos c3] at H
    have c3b0 : decide (x5_1 < (l0_2.length : Int)) = true := decide_eq_true c3
    clear c3
    by_cases c4 : (x4_1.length : Int) = 0
    ·rw [if_pos c4] at H
     have c4b0 : ((x4_1.length : Int) == 0) = true := beq_iff_eq.mpr c4
     have c4b1 : ((x4_1.length : Int) != 0) = false := bne_eq_false_iff_eq.mpr c4
     clear c4
     by_cases c5 : 0 ≤ x5_1
     ·rw [if_pos c5] at H
      have c5b0 : decide (0 ≤ x5_1) = true := decide_eq_true c5
      clear c5
      by_cases c6 : x4_1.length < 8796093022208
      ·rw [if_pos c6] at H
       have LMc6 := zAa.mk c6
       clear c6
       obtain ⟨y360, hy360⟩ : ∃ y_ : List ByteArray, y_ = (x4_1 ++ [(zBd l0_2 x5_1).f0.f0]) := ⟨_, rfl⟩
       replace H : (bulwarkref11_Middle.l0 k1 y360 (wrap64 (x5_1 + 1)) a0_0 a0_1 l0_2) = some (r1, r2) := by first | (rw [hy360]; with_reducible exact H) | (have H2_ := (Option.bind_some _ _).symm.trans H; rw [hy360]; with_reducible exact H2_) | (have H2_ := (Option.bind_some _ _).symm.trans H; with_reducible exact H2_) | with_reducible exact H | (rw [hy360]; exact H) | exact H
       have Ny360 := zAa.mk hy360
       clear hy360
       have H' := zAa.mk H
       clear H
       have hcz7_0 : wr.cell? ⟨gb358, 0, none⟩ = some (.string a0_0) := (zAc BK358.out 0).trans rfl
       have hcz7_1 : wr.cell? ⟨gb358, 1, none⟩ = some (.string a0_1) := (zAc BK358.out 1).trans rfl
       have hcz7_2 : wr.cell? ⟨gb358, 2, none⟩ = some (.slice A0_2 l0_2.length c0_2) := (zAc BK358.out 2).trans rfl
       have hfz7_0 := zAd BK358.out 0
       have hfz7_1 := zAd BK358.out 1
       have hfz7_2 := zAd BK358.out 2
       obtain ⟨Ao8, co8, eo8⟩ := Kd.zAk HO_4.out
       subst eo8
       have p359 : 0 ≤ (x5_1 : Int) := of_decide_eq_true (by first | (with_reducible assumption) | assumption)
       have q359 : x5_1 < (l0_2.length : Int) := of_decide_eq_true (by first | (with_reducible assumption) | assumption)
       obtain ⟨ad359, A359_4, c359_4, e359, hx359_0, hx359_1, hx359_2, hx359_3, hx359_4, hx359_5, hl359_4, hi359_4⟩ := at_T49 HR0_2.out x5_1 p359 q359
       cases e359
       replace hx359_0 := (HB.out.cell (World.block_lt_of_cell? w _ hx359_0)).trans hx359_0
       replace hx359_1 := (HB.out.cell (World.block_lt_of_cell? w _ hx359_1)).trans hx359_1
       replace hx359_2 := (HB.out.cell (World.block_lt_of_cell? w _ hx359_2)).trans hx359_2
       replace hx359_3 := (HB.out.cell (World.block_lt_of_cell? w _ hx359_3)).trans hx359_3
       replace hx359_4 := (HB.out.cell (World.block_lt_of_cell? w _ hx359_4)).trans hx359_4
       replace hx359_5 := (HB.out.cell (World.block_lt_of_cell? w _ hx359_5)).trans hx359_5
       have HR359_4 := zAa.mk hi359_4
       have HC359_4 := zAa.mk hl359_4
       clear hi359_4 hl359_4
       replace p359 := eq_true p359
       replace q359 := eq_true q359
       go_wp2_with (first | ((with_reducible refine gate_builtin (b := .append) (xs := #[.tmp 32, .tmp 40]) rfl ?_); (try (refine gate_guard (by rfl) ?_; dsimp only)); at_builtin; refine Kd.zEf Kd.string (w0 := w) w.heap.size rfl (.tmp 32) (.tmp 40) 97 9 (.string ⟨#[]⟩) 16 rfl Tryz.underlying97 info9 rfl (by decide) (by omega) (.slice Ao8 x4_1.length co8) x4_1 ((zBd l0_2 x5_1).f0.f0) [.string ((zBd l0_2 x5_1).f0.f0)] (fun _ => True) (fun _ => False) rfl rfl ?aP (fun _ hk => hk.elim) ?aF ?aO ?aB ?aS ?aL ?_; (case aP => exact rfl); (case aB => exact (by repeat (first | (with_reducible first | exact HB.out | apply zAb | apply zAe | apply zAh | refine zB ?_ GE358.out) | exact HB.out))); (case aF => exact (fun _ _ => trivial)); (case aO => exact (by (with_reducible repeat (first | apply Kd.zEb | apply Kd.R_drewN | apply Kd.zGd)); exact HO_4.out)); (case aS => exact (zBa (by repeat (first | (with_reducible first | exact HB.out | apply zAb | apply zAe | apply zAh | refine zB ?_ GE358.out) | exact HB.out)))); (case aL => have := LMc6.out; omega); intro v361 w9 ho hb hg hat; rw [← Ny360.out] at ho; have n0_ := zAa.mk (zEc (g := gb358) (o := .cells #[.string a0_0, .string a0_1, .slice (some ad359) l0_2.length c0_2] 25 (0, 0)) (by (with_reducible repeat (first | refine zBf ?_ _ | refine zBg ?_ | refine zAi ?_ _)); exact BK358.out) hg (Kd.R_ne HO_4.out BK358.out (by decide))); have n1_ := zAa.mk (hb); have n2_ := zAa.mk (ho); clear BK358; clear HB; clear HO_4; have BK358 := n0_; have HB := n1_; have HO362 := n2_; clear n0_ n1_ n2_; clear ho hb hg hat))
       repeat (go_quiet (first | ((with_reducible refine gate_builtin (b := .append) (xs := #[.tmp 32, .tmp 40]) rfl ?_); (try (refine gate_guard (by rfl) ?_; dsimp only)); at_builtin; refine Kd.zEf Kd.string (w0 := w) w.heap.size rfl (.tmp 32) (.tmp 40) 97 9 (.string ⟨#[]⟩) 16 rfl Tryz.underlying97 info9 rfl (by decide) (by omega) (.slice Ao8 x4_1.length co8) x4_1 ((zBd l0_2 x5_1).f0.f0) [.string ((zBd l0_2 x5_1).f0.f0)] (fun _ => True) (fun _ => False) rfl rfl ?aP (fun _ hk => hk.elim) ?aF ?aO ?aB ?aS ?aL ?_; (case aP => exact rfl); (case aB => exact (by repeat (first | (with_reducible first | exact HB.out | apply zAb | apply zAe | apply zAh | refine zB ?_ GE358.out) | exact HB.out))); (case aF => exact (fun _ _ => trivial)); (case aO => exact (by (with_reducible repeat (first | apply Kd.zEb | apply Kd.R_drewN | apply Kd.zGd)); exact HO_4.out)); (case aS => exact (zBa (by repeat (first | (with_reducible first | exact HB.out | apply zAb | apply zAe | apply zAh | refine zB ?_ GE358.out) | exact HB.out)))); (case aL => have := LMc6.out; omega); intro v361 w9 ho hb hg hat; rw [← Ny360.out] at ho; have n0_ := zAa.mk (zEc (g := gb358) (o := .cells #[.string a0_0, .string a0_1, .slice (some ad359) l0_2.length c0_2] 25 (0, 0)) (by (with_reducible repeat (first | refine zBf ?_ _ | refine zBg ?_ | refine zAi ?_ _)); exact BK358.out) hg (Kd.R_ne HO_4.out BK358.out (by decide))); have n1_ := zAa.mk (hb); have n2_ := zAa.mk (ho); clear BK358; clear HB; clear HO_4; have BK358 := n0_; have HB := n1_; have HO362 := n2_; clear n0_ n1_ n2_; clear ho hb hg hat)); try go_wp2_with (first | ((with_reducible refine gate_builtin (b := .append) (xs := #[.tmp 32, .tmp 40]) rfl ?_); (try (refine gate_guard (by rfl) ?_; dsimp only)); at_builtin; refine Kd.zEf Kd.string (w0 := w) w.heap.size rfl (.tmp 32) (.tmp 40) 97 9 (.string ⟨#[]⟩) 16 rfl Tryz.underlying97 info9 rfl (by decide) (by omega) (.slice Ao8 x4_1.length co8) x4_1 ((zBd l0_2 x5_1).f0.f0) [.string ((zBd l0_2 x5_1).f0.f0)] (fun _ => True) (fun _ => False) rfl rfl ?aP (fun _ hk => hk.elim) ?aF ?aO ?aB ?aS ?aL ?_; (case aP => exact rfl); (case aB => exact (by repeat (first | (with_reducible first | exact HB.out | apply zAb | apply zAe | apply zAh | refine zB ?_ GE358.out) | exact HB.out))); (case aF => exact (fun _ _ => trivial)); (case aO => exact (by (with_reducible repeat (first | apply Kd.zEb | apply Kd.R_drewN | apply Kd.zGd)); exact HO_4.out)); (case aS => exact (zBa (by repeat (first | (with_reducible first | exact HB.out | apply zAb | apply zAe | apply zAh | refine zB ?_ GE358.out) | exact HB.out)))); (case aL => have := LMc6.out; omega); intro v361 w9 ho hb hg hat; rw [← Ny360.out] at ho; have n0_ := zAa.mk (zEc (g := gb358) (o := .cells #[.string a0_0, .string a0_1, .slice (some ad359) l0_2.length c0_2] 25 (0, 0)) (by (with_reducible repeat (first | refine zBf ?_ _ | refine zBg ?_ | refine zAi ?_ _)); exact BK358.out) hg (Kd.R_ne HO_4.out BK358.out (by decide))); have n1_ := zAa.mk (hb); have n2_ := zAa.mk (ho); clear BK358; clear HB; clear HO_4; have BK358 := n0_; have HB := n1_; have HO362 := n2_; clear n0_ n1_ n2_; clear ho hb hg hat)))
       go_roundg k1
       case measure => have := HK1.out; omega
       case rel => exact ⟨(y360), (wrap64 (x5_1 + 1)), (by first | rfl | (simp; done) | (simp [*]; done)), H', ⟨by have := HK1.out; omega⟩, ⟨by (with_reducible repeat (first | apply Kd.zEb | apply Kd.R_drewN | apply Kd.zGd)); exact HO362.out⟩, ⟨by (with_reducible repeat (first | refine zBf ?_ _ | refine zBg ?_ | refine zAi ?_ _)); exact BK358.out⟩, ⟨by repeat (first | (with_reducible first | exact HB.out | apply zAb | apply zAe | apply zAh | refine zB ?_ GE358.out) | exact HB.out)⟩⟩
      ·rw [if_neg c6] at H
       exact absurd H (by simp)
     ·rw [if_neg c5] at H
      exact absurd H (by simp)
    ·rw [if_neg c4] at H
     have c4b0 : ((x4_1.length : Int) == 0) = false := beq_eq_false_iff_ne.mpr c4
     have c4b1 : ((x4_1.length : Int) != 0) = true := bne_iff_ne.mpr c4
     have c4b2 : ¬ (x4_1 = []) := fun h_ => c4 (by rw [h_]; rfl)
     obtain ⟨ji10, hji10⟩ : ∃ j_ : Int, (wrap64 ((x4_1.length : Int) - 1)) = j_ := ⟨_, rfl⟩
     replace H : (if 0 ≤ (ji10) then (if (ji10) < (x4_1.length : Int) then (if 0 ≤ x5_1 then (if (rdOf ByteArray.empty x4_1 (ji10)).toList = ((zBd l0_2 x5_1).f0.f0).toList then (bulwarkref11_Middle.l0 k1 x4_1 (wrap64 (x5_1 + 1)) a0_0 a0_1 l0_2) else (if x4_1.length < 8796093022208 then (bulwarkref11_Middle.l0 k1 (x4_1 ++ [(zBd l0_2 x5_1).f0.f0]) (wrap64 (x5_1 + 1)) a0_0 a0_1 l0_2) else (none))) else (none)) else (none)) else (none)) = some (r1, r2) := by first | (rw [hji10] at H; exact H) | (simp only [hji10] at H ⊢; exact H)
     have hji10w : (IntKind.i64.wrap ((x4_1.length : Int) - 1)) = ji10 := (i64_w _).trans hji10
     by_cases c11 : 0 ≤ (ji10)
     ·rw [if_pos c11] at H
      have c11b0 : decide (0 ≤ (ji10)) = true := decide_eq_true c11
      clear c11
      by_cases c12 : (ji10) < (x4_1.length : Int)
      ·rw [if_pos c12] at H
       have c12b0 : decide ((ji10) < (x4_1.length : Int)) = true := decide_eq_true c12
       clear c12
       by_cases c13 : 0 ≤ x5_1
       ·rw [if_pos c13] at H
        have c13b0 : decide (0 ≤ x5_1) = true := decide_eq_true c13
        clear c13
        by_cases c14 : (rdOf ByteArray.empty x4_1 (ji10)).toList = ((zBd l0_2 x5_1).f0.f0).toList
        ·rw [if_pos c14] at H
         have c14b0 : ((rdOf ByteArray.empty x4_1 (ji10)).toList == ((zBd l0_2 x5_1).f0.f0).toList) = true := beq_iff_eq.mpr c14
         have c14b1 : ((rdOf ByteArray.empty x4_1 (ji10)).toList != ((zBd l0_2 x5_1).f0.f0).toList) = false := bne_eq_false_iff_eq.mpr c14
         clear c14
         have H' := zAa.mk H
         clear H
         have hcz15_0 : wr.cell? ⟨gb358, 0, none⟩ = some (.string a0_0) := (zAc BK358.out 0).trans rfl
         have hcz15_1 : wr.cell? ⟨gb358, 1, none⟩ = some (.string a0_1) := (zAc BK358.out 1).trans rfl
         have hcz15_2 : wr.cell? ⟨gb358, 2, none⟩ = some (.slice A0_2 l0_2.length c0_2) := (zAc BK358.out 2).trans rfl
         have hfz15_0 := zAd BK358.out 0
         have hfz15_1 := zAd BK358.out 1
         have hfz15_2 := zAd BK358.out 2
         obtain ⟨Ao16, co16, eo16⟩ := Kd.zAk HO_4.out
         subst eo16
         have p363 : 0 ≤ ((ji10) : Int) := of_decide_eq_true (by first | (with_reducible assumption) | assumption)
         have q363 : (ji10) < (x4_1.length : Int) := of_decide_eq_true (by first | (with_reducible assumption) | assumption)
         obtain ⟨ad363, e363, hx363_0⟩ := Kd.at_string (Kd.zEe HO_4.out).2.2 (ji10) p363 q363
         cases e363
         replace p363 := eq_true p363
         replace q363 := eq_true q363
         have p364 : 0 ≤ (x5_1 : Int) := of_decide_eq_true (by first | (with_reducible assumption) | assumption)
         have q364 : x5_1 < (l0_2.length : Int) := of_decide_eq_true (by first | (with_reducible assumption) | assumption)
         obtain ⟨ad364, A364_4, c364_4, e364, hx364_0, hx364_1, hx364_2, hx364_3, hx364_4, hx364_5, hl364_4, hi364_4⟩ := at_T49 HR0_2.out x5_1 p364 q364
         cases e364
         replace hx364_0 := (HB.out.cell (World.block_lt_of_cell? w _ hx364_0)).trans hx364_0
         replace hx364_1 := (HB.out.cell (World.block_lt_of_cell? w _ hx364_1)).trans hx364_1
         replace hx364_2 := (HB.out.cell (World.block_lt_of_cell? w _ hx364_2)).trans hx364_2
         replace hx364_3 := (HB.out.cell (World.block_lt_of_cell? w _ hx364_3)).trans hx364_3
         replace hx364_4 := (HB.out.cell (World.block_lt_of_cell? w _ hx364_4)).trans hx364_4
         replace hx364_5 := (HB.out.cell (World.block_lt_of_cell? w _ hx364_5)).trans hx364_5
         have HR364_4 := zAa.mk hi364_4
         have HC364_4 := zAa.mk hl364_4
         clear hi364_4 hl364_4
         replace p364 := eq_true p364
         replace q364 := eq_true q364
         go_wp2
         repeat (go_quiet (fail); try go_wp2)
         go_roundg k1
         case measure => have := HK1.out; omega
         case rel => exact ⟨(x4_1), (wrap64 (x5_1 + 1)), (by first | rfl | (simp; done) | (simp [*]; done)), H', ⟨by have := HK1.out; omega⟩, ⟨by (with_reducible repeat (first | apply Kd.zEb | apply Kd.R_drewN | apply Kd.zGd)); exact HO_4.out⟩, ⟨by (with_reducible repeat (first | refine zBf ?_ _ | refine zBg ?_ | refine zAi ?_ _)); exact BK358.out⟩, ⟨by repeat (first | (with_reducible first | exact HB.out | apply zAb | apply zAe | apply zAh | refine zB ?_ GE358.out) | exact HB.out)⟩⟩
        ·rw [if_neg c14] at H
         have c14b0 : ((rdOf ByteArray.empty x4_1 (ji10)).toList == ((zBd l0_2 x5_1).f0.f0).toList) = false := beq_eq_false_iff_ne.mpr c14
         have c14b1 : ((rdOf ByteArray.empty x4_1 (ji10)).toList != ((zBd l0_2 x5_1).f0.f0).toList) = true := bne_iff_ne.mpr c14
         by_cases c17 : x4_1.length < 8796093022208
         ·rw [if_pos c17] at H
          have LMc17 := zAa.mk c17
          clear c17
          obtain ⟨y366, hy366⟩ : ∃ y_ : List ByteArray, y_ = (x4_1 ++ [(zBd l0_2 x5_1).f0.f0]) := ⟨_, rfl⟩
          replace H : (bulwarkref11_Middle.l0 k1 y366 (wrap64 (x5_1 + 1)) a0_0 a0_1 l0_2) = some (r1, r2) := by first | (rw [hy366]; with_reducible exact H) | (have H2_ := (Option.bind_some _ _).symm.trans H; rw [hy366]; with_reducible exact H2_) | (have H2_ := (Option.bind_some _ _).symm.trans H; with_reducible exact H2_) | with_reducible exact H | (rw [hy366]; exact H) | exact H
          have Ny366 := zAa.mk hy366
          clear hy366
          have H' := zAa.mk H
          clear H
          have hcz18_0 : wr.cell? ⟨gb358, 0, none⟩ = some (.string a0_0) := (zAc BK358.out 0).trans rfl
          have hcz18_1 : wr.cell? ⟨gb358, 1, none⟩ = some (.string a0_1) := (zAc BK358.out 1).trans rfl
          have hcz18_2 : wr.cell? ⟨gb358, 2, none⟩ = some (.slice A0_2 l0_2.length c0_2) := (zAc BK358.out 2).trans rfl
          have hfz18_0 := zAd BK358.out 0
          have hfz18_1 := zAd BK358.out 1
          have hfz18_2 := zAd BK358.out 2
          obtain ⟨Ao19, co19, eo19⟩ := Kd.zAk HO_4.out
          subst eo19
          have p363 : 0 ≤ ((ji10) : Int) := of_decide_eq_true (by first | (with_reducible assumption) | assumption)
          have q363 : (ji10) < (x4_1.length : Int) := of_decide_eq_true (by first | (with_reducible assumption) | assumption)
          obtain ⟨ad363, e363, hx363_0⟩ := Kd.at_string (Kd.zEe HO_4.out).2.2 (ji10) p363 q363
          cases e363
          replace p363 := eq_true p363
          replace q363 := eq_true q363
          have p364 : 0 ≤ (x5_1 : Int) := of_decide_eq_true (by first | (with_reducible assumption) | assumption)
          have q364 : x5_1 < (l0_2.length : Int) := of_decide_eq_true (by first | (with_reducible assumption) | assumption)
          obtain ⟨ad364, A364_4, c364_4, e364, hx364_0, hx364_1, hx364_2, hx364_3, hx364_4, hx364_5, hl364_4, hi364_4⟩ := at_T49 HR0_2.out x5_1 p364 q364
          cases e364
          replace hx364_0 := (HB.out.cell (World.block_lt_of_cell? w _ hx364_0)).trans hx364_0
          replace hx364_1 := (HB.out.cell (World.block_lt_of_cell? w _ hx364_1)).trans hx364_1
          replace hx364_2 := (HB.out.cell (World.block_lt_of_cell? w _ hx364_2)).trans hx364_2
          replace hx364_3 := (HB.out.cell (World.block_lt_of_cell? w _ hx364_3)).trans hx364_3
          replace hx364_4 := (HB.out.cell (World.block_lt_of_cell? w _ hx364_4)).trans hx364_4
          replace hx364_5 := (HB.out.cell (World.block_lt_of_cell? w _ hx364_5)).trans hx364_5
          have HR364_4 := zAa.mk hi364_4
          have HC364_4 := zAa.mk hl364_4
          clear hi364_4 hl364_4
          replace p364 := eq_true p364
          replace q364 := eq_true q364
          have p365 : 0 ≤ (x5_1 : Int) := of_decide_eq_true (by first | (with_reducible assumption) | assumption)
          have q365 : x5_1 < (l0_2.length : Int) := of_decide_eq_true (by first | (with_reducible assumption) | assumption)
          obtain ⟨ad365, A365_4, c365_4, e365, hx365_0, hx365_1, hx365_2, hx365_3, hx365_4, hx365_5, hl365_4, hi365_4⟩ := at_T49 HR0_2.out x5_1 p365 q365
          obtain rfl : ad364 = ad365 := (by injection e365)
          replace hx365_0 := (HB.out.cell (World.block_lt_of_cell? w _ hx365_0)).trans hx365_0
          replace hx365_1 := (HB.out.cell (World.block_lt_of_cell? w _ hx365_1)).trans hx365_1
          replace hx365_2 := (HB.out.cell (World.block_lt_of_cell? w _ hx365_2)).trans hx365_2
          replace hx365_3 := (HB.out.cell (World.block_lt_of_cell? w _ hx365_3)).trans hx365_3
          replace hx365_4 := (HB.out.cell (World.block_lt_of_cell? w _ hx365_4)).trans hx365_4
          replace hx365_5 := (HB.out.cell (World.block_lt_of_cell? w _ hx365_5)).trans hx365_5
          have HR365_4 := zAa.mk hi365_4
          have HC365_4 := zAa.mk hl365_4
          clear hi365_4 hl365_4
          replace p365 := eq_true p365
          replace q365 := eq_true q365
          have ea_ := Option.some.inj (hx364_4.symm.trans hx365_4)
          injection ea_ with ea_ en_ ec_
          subst ea_
          subst ec_
          clear en_
          go_wp2_with (first | ((with_reducible refine gate_builtin (b := .append) (xs := #[.tmp 32, .tmp 40]) rfl ?_); (try (refine gate_guard (by rfl) ?_; dsimp only)); at_builtin; refine Kd.zEf Kd.string (w0 := w) w.heap.size rfl (.tmp 32) (.tmp 40) 97 9 (.string ⟨#[]⟩) 16 rfl Tryz.underlying97 info9 rfl (by decide) (by omega) (.slice (some ad363) x4_1.length co19) x4_1 ((zBd l0_2 x5_1).f0.f0) [.string ((zBd l0_2 x5_1).f0.f0)] (fun _ => True) (fun _ => False) rfl rfl ?aP (fun _ hk => hk.elim) ?aF ?aO ?aB ?aS ?aL ?_; (case aP => exact rfl); (case aB => exact (by repeat (first | (with_reducible first | exact HB.out | apply zAb | apply zAe | apply zAh | refine zB ?_ GE358.out) | exact HB.out))); (case aF => exact (fun _ _ => trivial)); (case aO => exact (by (with_reducible repeat (first | apply Kd.zEb | apply Kd.R_drewN | apply Kd.zGd)); exact HO_4.out)); (case aS => exact (zBa (by repeat (first | (with_reducible first | exact HB.out | apply zAb | apply zAe | apply zAh | refine zB ?_ GE358.out) | exact HB.out)))); (case aL => have := LMc17.out; omega); intro v367 w20 ho hb hg hat; rw [← Ny366.out] at ho; have n0_ := zAa.mk (zEc (g := gb358) (o := .cells #[.string a0_0, .string a0_1, .slice (some ad364) l0_2.length c0_2] 25 (0, 0)) (by (with_reducible repeat (first | refine zBf ?_ _ | refine zBg ?_ | refine zAi ?_ _)); exact BK358.out) hg (Kd.R_ne HO_4.out BK358.out (by decide))); have n1_ := zAa.mk (hb); have n2_ := zAa.mk (ho); clear BK358; clear HB; clear HO_4; have BK358 := n0_; have HB := n1_; have HO368 := n2_; clear n0_ n1_ n2_; clear ho hb hg hat))
          repeat (go_quiet (first | ((with_reducible refine gate_builtin (b := .append) (xs := #[.tmp 32, .tmp 40]) rfl ?_); (try (refine gate_guard (by rfl) ?_; dsimp only)); at_builtin; refine Kd.zEf Kd.string (w0 := w) w.heap.size rfl (.tmp 32) (.tmp 40) 97 9 (.string ⟨#[]⟩) 16 rfl Tryz.underlying97 info9 rfl (by decide) (by omega) (.slice (some ad363) x4_1.length co19) x4_1 ((zBd l0_2 x5_1).f0.f0) [.string ((zBd l0_2 x5_1).f0.f0)] (fun _ => True) (fun _ => False) rfl rfl ?aP (fun _ hk => hk.elim) ?aF ?aO ?aB ?aS ?aL ?_; (case aP => exact rfl); (case aB => exact (by repeat (first | (with_reducible first | exact HB.out | apply zAb | apply zAe | apply zAh | refine zB ?_ GE358.out) | exact HB.out))); (case aF => exact (fun _ _ => trivial)); (case aO => exact (by (with_reducible repeat (first | apply Kd.zEb | apply Kd.R_drewN | apply Kd.zGd)); exact HO_4.out)); (case aS => exact (zBa (by repeat (first | (with_reducible first | exact HB.out | apply zAb | apply zAe | apply zAh | refine zB ?_ GE358.out) | exact HB.out)))); (case aL => have := LMc17.out; omega); intro v367 w20 ho hb hg hat; rw [← Ny366.out] at ho; have n0_ := zAa.mk (zEc (g := gb358) (o := .cells #[.string a0_0, .string a0_1, .slice (some ad364) l0_2.length c0_2] 25 (0, 0)) (by (with_reducible repeat (first | refine zBf ?_ _ | refine zBg ?_ | refine zAi ?_ _)); exact BK358.out) hg (Kd.R_ne HO_4.out BK358.out (by decide))); have n1_ := zAa.mk (hb); have n2_ := zAa.mk (ho); clear BK358; clear HB; clear HO_4; have BK358 := n0_; have HB := n1_; have HO368 := n2_; clear n0_ n1_ n2_; clear ho hb hg hat)); try go_wp2_with (first | ((with_reducible refine gate_builtin (b := .append) (xs := #[.tmp 32, .tmp 40]) rfl ?_); (try (refine gate_guard (by rfl) ?_; dsimp only)); at_builtin; refine Kd.zEf Kd.string (w0 := w) w.heap.size rfl (.tmp 32) (.tmp 40) 97 9 (.string ⟨#[]⟩) 16 rfl Tryz.underlying97 info9 rfl (by decide) (by omega) (.slice (some ad363) x4_1.length co19) x4_1 ((zBd l0_2 x5_1).f0.f0) [.string ((zBd l0_2 x5_1).f0.f0)] (fun _ => True) (fun _ => False) rfl rfl ?aP (fun _ hk => hk.elim) ?aF ?aO ?aB ?aS ?aL ?_; (case aP => exact rfl); (case aB => exact (by repeat (first | (with_reducible first | exact HB.out | apply zAb | apply zAe | apply zAh | refine zB ?_ GE358.out) | exact HB.out))); (case aF => exact (fun _ _ => trivial)); (case aO => exact (by (with_reducible repeat (first | apply Kd.zEb | apply Kd.R_drewN | apply Kd.zGd)); exact HO_4.out)); (case aS => exact (zBa (by repeat (first | (with_reducible first | exact HB.out | apply zAb | apply zAe | apply zAh | refine zB ?_ GE358.out) | exact HB.out)))); (case aL => have := LMc17.out; omega); intro v367 w20 ho hb hg hat; rw [← Ny366.out] at ho; have n0_ := zAa.mk (zEc (g := gb358) (o := .cells #[.string a0_0, .string a0_1, .slice (some ad364) l0_2.length c0_2] 25 (0, 0)) (by (with_reducible repeat (first | refine zBf ?_ _ | refine zBg ?_ | refine zAi ?_ _)); exact BK358.out) hg (Kd.R_ne HO_4.out BK358.out (by decide))); have n1_ := zAa.mk (hb); have n2_ := zAa.mk (ho); clear BK358; clear HB; clear HO_4; have BK358 := n0_; have HB := n1_; have HO368 := n2_; clear n0_ n1_ n2_; clear ho hb hg hat)))
          go_roundg k1
          case measure => have := HK1.out; omega
          case rel => exact ⟨(y366), (wrap64 (x5_1 + 1)), (by first | rfl | (simp; done) | (simp [*]; done)), H', ⟨by have := HK1.out; omega⟩, ⟨by (with_reducible repeat (first | apply Kd.zEb | apply Kd.R_drewN | apply Kd.zGd)); exact HO368.out⟩, ⟨by (with_reducible repeat (first | refine zBf ?_ _ | refine zBg ?_ | refine zAi ?_ _)); exact BK358.out⟩, ⟨by repeat (first | (with_reducible first | exact HB.out | apply zAb | apply zAe | apply zAh | refine zB ?_ GE358.out) | exact HB.out)⟩⟩
         ·rw [if_neg c17] at H
          exact absurd H (by simp)
       ·rw [if_neg c13] at H
        exact absurd H (by simp)
      ·rw [if_neg c12] at H
       exact absurd H (by simp)
     ·rw [if_neg c11] at H
      exact absurd H (by simp)
   ·rw [if_neg c3] at H
    have c3b0 : decide (x5_1 < (l0_2.length : Int)) = false := decide_eq_false c3
    clear c3
    by_cases c21 : (x4_1.length : Int) < 2
    ·rw [if_pos c21] at H
     have c21b0 : decide ((x4_1.length : Int) < 2) = true := decide_eq_true c21
     have c21b1 : decide (x4_1.length < 2) = true := decide_eq_true (by omega)
     clear c21
     simp only [Option.some.injEq, Prod.mk.injEq] at H
     obtain ⟨rfl, rfl⟩ := H
     have hcz22_0 : wr.cell? ⟨gb358, 0, none⟩ = some (.string a0_0) := (zAc BK358.out 0).trans rfl
     have hcz22_1 : wr.cell? ⟨gb358, 1, none⟩ = some (.string a0_1) := (zAc BK358.out 1).trans rfl
     have hcz22_2 : wr.cell? ⟨gb358, 2, none⟩ = some (.slice A0_2 l0_2.length c0_2) := (zAc BK358.out 2).trans rfl
     have hfz22_0 := zAd BK358.out 0
     have hfz22_1 := zAd BK358.out 1
     have hfz22_2 := zAd BK358.out 2
     obtain ⟨Ao23, co23, eo23⟩ := Kd.zAk HO_4.out
     subst eo23
     go_wp2
     repeat (go_quiet (fail); try go_wp2)
     go_ret2
     exact ⟨by first | rfl | (simp [zCe, zCd] <;> rfl) | (simp [*, zCe, zCd] <;> rfl), by repeat (first | (with_reducible first | exact HB.out | apply zAb | apply zAe | apply zAh | refine zB ?_ GE358.out) | exact HB.out)⟩
    ·rw [if_neg c21] at H
     have c21b0 : decide ((x4_1.length : Int) < 2) = false := decide_eq_false c21
     have c21b1 : decide (x4_1.length < 2) = false := decide_eq_false (by omega)
     clear c21
     obtain ⟨ji24, hji24⟩ : ∃ j_ : Int, (wrap64 ((x4_1.length : Int) / 2)) = j_ := ⟨_, rfl⟩
     replace H : (if 0 ≤ (ji24) then (if (ji24) < (x4_1.length : Int) then (some (rdOf ByteArray.empty x4_1 (ji24), true)) else (none)) else (none)) = some (r1, r2) := by first | (rw [hji24] at H; exact H) | (simp only [hji24] at H ⊢; exact H)
     have hji24w : (IntKind.i64.wrap ((x4_1.length : Int) / 2)) = ji24 := (i64_w _).trans hji24
     by_cases c25 : 0 ≤ (ji24)
     ·rw [if_pos c25] at H
      have c25b0 : decide (0 ≤ (ji24)) = true := decide_eq_true c25
      clear c25
      by_cases c26 : (ji24) < (x4_1.length : Int)
      ·rw [if_pos c26] at H
       have c26b0 : decide ((ji24) < (x4_1.length : Int)) = true := decide_eq_true c26
       clear c26
       simp only [Option.some.injEq, Prod.mk.injEq] at H
       obtain ⟨rfl, rfl⟩ := H
       have hcz27_0 : wr.cell? ⟨gb358, 0, none⟩ = some (.string a0_0) := (zAc BK358.out 0).trans rfl
       have hcz27_1 : wr.cell? ⟨gb358, 1, none⟩ = some (.string a0_1) := (zAc BK358.out 1).trans rfl
       have hcz27_2 : wr.cell? ⟨gb358, 2, none⟩ = some (.slice A0_2 l0_2.length c0_2) := (zAc BK358.out 2).trans rfl
       have hfz27_0 := zAd BK358.out 0
       have hfz27_1 := zAd BK358.out 1
       have hfz27_2 := zAd BK358.out 2
       obtain ⟨Ao28, co28, eo28⟩ := Kd.zAk HO_4.out
       subst eo28
       have p369 : 0 ≤ ((ji24) : Int) := of_decide_eq_true (by first | (with_reducible assumption) | assumption)
       have q369 : (ji24) < (x4_1.length : Int) := of_decide_eq_true (by first | (with_reducible assumption) | assumption)
       obtain ⟨ad369, e369, hx369_0⟩ := Kd.at_string (Kd.zEe HO_4.out).2.2 (ji24) p369 q369
       cases e369
       replace p369 := eq_true p369
       replace q369 := eq_true q369
       go_wp2
       repeat (go_quiet (fail); try go_wp2)
       go_ret2
       exact ⟨by first | rfl | (simp [zCe, zCd] <;> rfl) | (simp only [← hji24]; first | rfl | (simp [zCe, zCd] <;> rfl)) | (simp [*, zCe, zCd] <;> rfl), by repeat (first | (with_reducible first | exact HB.out | apply zAb | apply zAe | apply zAh | refine zB ?_ GE358.out) | exact HB.out)⟩
      ·rw [if_neg c26] at H
       exact absurd H (by simp)
     ·rw [if_neg c25] at H
      exact absurd H (by simp)
def bulwarkref01_Same.l0 : Nat → List Int → List Int → Int → Option (Bool)
 | 0, _, _, _ => none
 | k + 1, x0, x1, x5 => if x5 < (x0.length : Int) then (if 0 ≤ x5 then (if x5 < (x1.length : Int) then (if (rd x0 x5) = (rd x1 x5) then (bulwarkref01_Same.l0 k x0 x1 (wrap64 (x5 + 1))) else (some false)) else (none)) else (none)) else (some true)
def bulwarkref01_Same.f (k : Nat) (l0 : List Int) (l1 : List Int) : Option (Bool) := if (l0.length : Int) = (l1.length : Int) then (bulwarkref01_Same.l0 k l0 l1 0) else (some false)
set_option maxHeartbeats 8000000 in
set_option maxRecDepth 100000 in
theorem bulwarkref01_Same.calls (k : Nat) (A0 : Option Addr) (c0 : Nat) (l0 : List Int) (A1 : Option Addr) (c1 : Nat) (l1 : List Int) (r : Bool) (w : World) (hr0 : Kd.C (Kd.int .u8) w A0 l0.length l0) (hc0 : l0.length ≤ c0) (hr1 : Kd.C (Kd.int .u8) w A1 l1.length l1) (hc1 : l1.length ≤ c1) (h : bulwarkref01_Same.f k l0 l1 = some r) :
  Calls Tryz.prog 25 #[.slice A0 l0.length c0, .slice A1 l1.length c1] w fun e w' => e = .returned (.bool r) ∧ zBj w w' := by
 have HR0 := zAa.mk hr0
 have HC0 := zAa.mk hc0
 clear hr0 hc0
 have HR1 := zAa.mk hr1
 have HC1 := zAa.mk hc1
 clear hr1 hc1
 have H : (if (l0.length : Int) = (l1.length : Int) then (bulwarkref01_Same.l0 k l0 l1 0) else (some false)) = some r := h
 clear h
 by_cases c3 : (l0.length : Int) = (l1.length : Int)
 ·rw [if_pos c3] at H
  have c3b0 : ((l0.length : Int) == (l1.length : Int)) = true := beq_iff_eq.mpr c3
  have c3b1 : ((l0.length : Int) != (l1.length : Int)) = false := bne_eq_false_iff_eq.mpr c3
  have c3b2 : (l0.length == l1.length) = true := by first | simpa using c3 | (simp at c3 ⊢; omega)
  clear c3
  have H' := zAa.mk H
  clear H
  go_enter Tryz.func25, Tryz.ntmps25
  go_wp2
  repeat (go_quiet (fail); try go_wp2)
  go_loopg [5] k (fun kq v5 w' => ∃ (x5_1 : Int), v5 = .int .i64 x5_1 ∧ zAa (bulwarkref01_Same.l0 kq l0 l1 x5_1 = some r) ∧ zAa (kq ≤ k) ∧ zBj w w')
  case atStart => exact ⟨(0), (by first | rfl | (simp; done) | (simp [*]; done)), H', ⟨Nat.le_refl _⟩, by repeat (first | exact zBj.refl _ | apply zBj.step)⟩
  case round =>
   clear H'
   try clear c1
   try clear c2
   try clear p2
   try clear c3
   try clear c3b0
   try clear c3b1
   try clear c3b2
   obtain ⟨x5_1, rfl, HA, HK1, ⟨m1, rfl⟩⟩ := hrel
   cases gk with
   | zero => exact absurd HA.out (by simp [bulwarkref01_Same.l0])
   | succ k1 =>
    have H := HA.out
    clear HA
    simp only [bulwarkref01_Same.l0] at H
    by_cases c4 : x5_1 < (l0.length : Int)
    ·rw [if_pos c4] at H
     have c4b0 : decide (x5_1 < (l0.length : Int)) = true := decide_eq_true c4
     clear c4
     by_cases c5 : 0 ≤ x5_1
     ·rw [if_pos c5] at H
      have c5b0 : decide (0 ≤ x5_1) = true := decide_eq_true c5
      clear c5
      by_cases c6 : x5_1 < (l1.length : Int)
      ·rw [if_pos c6] at H
       have c6b0 : decide (x5_1 < (l1.length : Int)) = true := decide_eq_true c6
       clear c6
       by_cases c7 : (rd l0 x5_1) = (rd l1 x5_1)
       ·rw [if_pos c7] at H
        have c7b0 : ((rd l0 x5_1) == (rd l1 x5_1)) = true := beq_iff_eq.mpr c7
        have c7b1 : ((rd l0 x5_1) != (rd l1 x5_1)) = false := bne_eq_false_iff_eq.mpr c7
        clear c7
        have H' := zAa.mk H
        clear H
        have p370 : 0 ≤ (x5_1 : Int) := of_decide_eq_true (by first | (with_reducible assumption) | assumption)
        have q370 : x5_1 < (l0.length : Int) := of_decide_eq_true (by first | (with_reducible assumption) | assumption)
        obtain ⟨ad370, e370, hx370_0⟩ := Kd.at_int HR0.out x5_1 p370 q370
        cases e370
        replace p370 := eq_true p370
        replace q370 := eq_true q370
        have p371 : 0 ≤ (x5_1 : Int) := of_decide_eq_true (by first | (with_reducible assumption) | assumption)
        have q371 : x5_1 < (l1.length : Int) := of_decide_eq_true (by first | (with_reducible assumption) | assumption)
        obtain ⟨ad371, e371, hx371_0⟩ := Kd.at_int HR1.out x5_1 p371 q371
        cases e371
        replace p371 := eq_true p371
        replace q371 := eq_true q371
        go_wp2
        repeat (go_quiet (fail); try go_wp2)
        go_roundg k1
        case measure => have := HK1.out; omega
        case rel => exact ⟨(wrap64 (x5_1 + 1)), (by first | rfl | (simp; done) | (simp [*]; done)), H', ⟨by have := HK1.out; omega⟩, by repeat (first | exact zBj.refl _ | apply zBj.step)⟩
       ·rw [if_neg c7] at H
        have c7b0 : ((rd l0 x5_1) == (rd l1 x5_1)) = false := beq_eq_false_iff_ne.mpr c7
        have c7b1 : ((rd l0 x5_1) != (rd l1 x5_1)) = true := bne_iff_ne.mpr c7
        obtain rfl := Option.some.inj H
        have p370 : 0 ≤ (x5_1 : Int) := of_decide_eq_true (by first | (with_reducible assumption) | assumption)
        have q370 : x5_1 < (l0.length : Int) := of_decide_eq_true (by first | (with_reducible assumption) | assumption)
        obtain ⟨ad370, e370, hx370_0⟩ := Kd.at_int HR0.out x5_1 p370 q370
        cases e370
        replace p370 := eq_true p370
        replace q370 := eq_true q370
        have p371 : 0 ≤ (x5_1 : Int) := of_decide_eq_true (by first | (with_reducible assumption) | assumption)
        have q371 : x5_1 < (l1.length : Int) := of_decide_eq_true (by first | (with_reducible assumption) | assumption)
        obtain ⟨ad371, e371, hx371_0⟩ := Kd.at_int HR1.out x5_1 p371 q371
        cases e371
        replace p371 := eq_true p371
        replace q371 := eq_true q371
        go_wp2
        repeat (go_quiet (fail); try go_wp2)
        go_ret
        exact ⟨by first | rfl | (simp; done) | (simp [*]; done), by repeat (first | exact zBj.refl _ | apply zBj.step)⟩
      ·rw [if_neg c6] at H
       exact absurd H (by simp)
     ·rw [if_neg c5] at H
      exact absurd H (by simp)
    ·rw [if_neg c4] at H
     have c4b0 : decide (x5_1 < (l0.length : Int)) = false := decide_eq_false c4
     clear c4
     obtain rfl := Option.some.inj H
     go_wp2
     repeat (go_quiet (fail); try go_wp2)
     go_ret
     exact ⟨by first | rfl | (simp; done) | (simp [*]; done), by repeat (first | exact zBj.refl _ | apply zBj.step)⟩
 ·rw [if_neg c3] at H
  have c3b0 : ((l0.length : Int) == (l1.length : Int)) = false := beq_eq_false_iff_ne.mpr c3
  have c3b1 : ((l0.length : Int) != (l1.length : Int)) = true := bne_iff_ne.mpr c3
  have c3b2 : (l0.length == l1.length) = false := by first | simpa using c3 | (simp at c3 ⊢; omega)
  obtain rfl := Option.some.inj H
  go_enter Tryz.func25, Tryz.ntmps25
  go_wp2
  repeat (go_quiet (fail); try go_wp2)
  go_ret
  exact ⟨by first | rfl | (simp; done) | (simp [*]; done), by repeat (first | exact zBj.refl _ | apply zBj.step)⟩
end Go.Proofs.YtpckachmleonlaaGreatDoor.PSplitCuts
end
