/- The law RouteBack at its call: true for every slice of parts, every cut, every group and every row. -/
import Derived.Test.YtoemddjolfblbaaSE
import Derived.Test.YtoemddjolfblbaaSF
/- The law RouteBack. -/
set_option linter.unusedVariables false
set_option linter.unusedSimpArgs false
namespace Go.Proofs.Ytoemddjolfblbaa
open Go.RowKit Go.Proofs.YtoemddjolfblbaaW.PrintWords

theorem split_zero {l : List Part} {at_ : ByteArray} {g : Int} (h : splitK l at_ g = 0) : RightL l ∧ isL l at_ = false ∧ at_.size ≤ 32 ∧ g ≠ 0 ∧ l.length < 64 := by
  unfold splitK at h
  rcases Bool.eq_false_or_eq_true (rightB l) with hR | hR
  · rw [hR, if_pos rfl] at h
    by_cases hb : (isL l at_ || decide (32 < at_.size) || g == 0) = true
    · rw [if_pos hb] at h; simp at h
    · rw [if_neg hb] at h
      by_cases h4 : l.length < 64
      · simp only [Bool.or_eq_true, decide_eq_true_eq, beq_iff_eq, not_or] at hb
        exact ⟨(rightB_iff l).1 hR, by simpa using hb.1.1, by omega, hb.2, h4⟩
      · rw [if_neg h4] at h; simp at h
  · rw [hR] at h; simp at h
/-- All that the law asks of a cut that went well. -/
structure Backed (l s : List Part) (at_ row : ByteArray) (g : Int) (p0 p1 p2 : Part) : Prop where
  eq0 : findL l row = p0
  eq1 : findL s row = p1
  eq2 : findL l at_ = p2
  len : s.length = l.length + 1
  right : rightB s = true
  jk : joinK s at_ = 0
  jr : joinR s at_ = l
  cases_ : (belowB row at_ = false ∧ partEq p0 p2 = true ∧ p1.group = g) ∨ (belowB row at_ = true ∧ p1.group = p0.group) ∨ (belowB row at_ = false ∧ partEq p0 p2 = false ∧ p1.group = p0.group)
theorem backed {l : List Part} {at_ row : ByteArray} {g : Int} (h : splitK l at_ g = 0) : ∃ p0 p1 p2, Backed l (splitR l at_ g) at_ row g p0 p1 p2 := by
  obtain ⟨hL, hi, ha, hg, hl⟩ := split_zero h
  obtain ⟨i, hp, hat, his⟩ := place_at hL at_
  have e : splitR l at_ g = cutL l i at_ g := by unfold splitR; rw [if_pos h, hp]; rfl
  have hne : (pat l i).from_ ≠ at_ := fun e => by rw [his.2 e] at hi; cases hi
  rw [e]
  obtain ⟨j1, j2⟩ := cut_join hL hat hne ha hg hl
  exact ⟨_, _, _, rfl, rfl, rfl, cut_length hat.lt at_ g, (rightB_iff _).2 (cut_right hL hat hne ha hg hl), j1, j2, back_law hL hat hne ha hg hl⟩

set_option maxHeartbeats 4000000 in
set_option maxRecDepth 100000 in
theorem back_out (A : Option Addr) (c : Nat) (l : List Part) (at_ : ByteArray) (g : Int) (row : ByteArray) (w : World) (hr : Kd.C kP w A l.length l) (hc : l.length ≤ c) (h : lightB l = false ∨ 200 < at_.size ∨ 200 < row.size ∨ rightB l = false) :
    Calls Try.prog 8 #[.slice A l.length c, .string at_, .int .u64 g, .string row] w (TrueB w) := by
  have HR := Aside0.mk hr
  clear hr
  rcases Bool.eq_false_or_eq_true (lightB l) with hi | hi
  · obtain ⟨s1, s2⟩ := light_sizes hi
    have HI := Aside0.mk hi
    by_cases hz : at_.size ≤ 200
    · by_cases hy : row.size ≤ 200
      · have hR : rightB l = false := by
          rcases h with h | h | h | h
          · rw [hi] at h; cases h
          · omega
          · omega
          · exact h
        have HRK : Aside0 (rightK l = 3) := ⟨by unfold rightK; rw [hR]; rfl⟩
        clear hi s2 h hR
        have d1 : decide ((200 : Int) < (at_.size : Int)) = false := df (by omega)
        have d1' : decide (200 < at_.size) = false := df (by omega)
        have d2 : decide ((200 : Int) < (row.size : Int)) = false := df (by omega)
        have d2' : decide (200 < row.size) = false := df (by omega)
        go_enter Try.func8, Try.ntmps8
        go_wp2_with fail
        refine (light_any _ _ l _ HR.out).mono ?_
        rintro e w1 ⟨rfl, rfl⟩
        rw [HI.out]
        go_wp2_with fail
        refine (own_any _ _ l _ HR.out (by omega)).mono ?_
        rintro e w1 ⟨v1, rfl, hr1, hb1⟩
        obtain ⟨A1, c1, rfl, hc1, hk1⟩ := Kd.R_reads hr1
        have HB1 := Aside0.mk hb1
        have HK1 := Aside0.mk hk1
        clear hr1 hb1 hk1
        go_wp2_with fail
        refine (right_any A1 c1 l _ HK1.out (by omega)).mono ?_
        rintro e w2 ⟨rfl, hb2⟩
        have HB2 := Aside0.mk (HB1.out.trans (hb2.mono HB1.out.size))
        clear hb2
        rw [HRK.out]
        go_wp2_with fail
        refine (alive_any _).mono ?_
        rintro e w11 ⟨rfl, hb11⟩
        go_wp2_with fail
        go_ret
        exact ⟨rfl, HB2.out.trans (hb11.mono HB2.out.size)⟩
      · have d1 : decide ((200 : Int) < (at_.size : Int)) = false := df (by omega)
        have d1' : decide (200 < at_.size) = false := df (by omega)
        have d2 : decide ((200 : Int) < (row.size : Int)) = true := dt (by omega)
        have d2' : decide (200 < row.size) = true := dt (by omega)
        clear hi s2 h
        go_enter Try.func8, Try.ntmps8
        go_wp2_with fail
        refine (light_any _ _ l _ HR.out).mono ?_
        rintro e w1 ⟨rfl, rfl⟩
        rw [HI.out]
        go_wp2_with fail
        refine (alive_any _).mono ?_
        rintro e w11 ⟨rfl, hb11⟩
        go_wp2_with fail
        go_ret
        exact ⟨rfl, hb11⟩
    · have d1 : decide ((200 : Int) < (at_.size : Int)) = true := dt (by omega)
      have d1' : decide (200 < at_.size) = true := dt (by omega)
      clear hi s2 h
      go_enter Try.func8, Try.ntmps8
      go_wp2_with fail
      refine (light_any _ _ l _ HR.out).mono ?_
      rintro e w1 ⟨rfl, rfl⟩
      rw [HI.out]
      go_wp2_with fail
      refine (alive_any _).mono ?_
      rintro e w11 ⟨rfl, hb11⟩
      go_wp2_with fail
      go_ret
      exact ⟨rfl, hb11⟩
  · have HI := Aside0.mk hi
    clear hi h
    go_enter Try.func8, Try.ntmps8
    go_wp2_with fail
    refine (light_any _ _ l _ HR.out).mono ?_
    rintro e w1 ⟨rfl, rfl⟩
    rw [HI.out]
    go_wp2_with fail
    refine (alive_any _).mono ?_
    rintro e w11 ⟨rfl, hb11⟩
    go_wp2_with fail
    go_ret
    exact ⟨rfl, hb11⟩
set_option maxHeartbeats 4000000 in
set_option maxRecDepth 100000 in
theorem back_no (A : Option Addr) (c : Nat) (l : List Part) (at_ : ByteArray) (g : Int) (row : ByteArray) (w : World) (hr : Kd.C kP w A l.length l) (hc : l.length ≤ c) (hi : lightB l = true) (s1 : l.length ≤ 100) (hz : at_.size ≤ 200) (hy : row.size ≤ 200) (hR : rightB l = true) (hk : splitK l at_ g ≠ 0) :
    Calls Try.prog 8 #[.slice A l.length c, .string at_, .int .u64 g, .string row] w (TrueB w) := by
  have HR := Aside0.mk hr
  have HI := Aside0.mk hi
  have HRK : Aside0 (rightK l = 0) := ⟨by unfold rightK; rw [hR]; rfl⟩
  have HRB := Aside0.mk hR
  clear hr hi hR
  have d1 : decide ((200 : Int) < (at_.size : Int)) = false := df (by omega)
  have d1' : decide (200 < at_.size) = false := df (by omega)
  have d2 : decide ((200 : Int) < (row.size : Int)) = false := df (by omega)
  have d2' : decide (200 < row.size) = false := df (by omega)
  have k1 : (splitK l at_ g == 0) = false := ine hk
  go_enter Try.func8, Try.ntmps8
  go_wp2_with fail
  refine (light_any _ _ l _ HR.out).mono ?_
  rintro e w1 ⟨rfl, rfl⟩
  rw [HI.out]
  go_wp2_with fail
  refine (own_any _ _ l _ HR.out (by omega)).mono ?_
  rintro e w1 ⟨v1, rfl, hr1, hb1⟩
  obtain ⟨A1, c1, rfl, hc1, hk1⟩ := Kd.R_reads hr1
  have HB1 := Aside0.mk hb1
  have HK1 := Aside0.mk hk1
  clear hr1 hb1 hk1
  go_wp2_with fail
  refine (right_any A1 c1 l _ HK1.out (by omega)).mono ?_
  rintro e w2 ⟨rfl, hb2⟩
  have HB2 := Aside0.mk (HB1.out.trans (hb2.mono HB1.out.size))
  clear hb2
  rw [HRK.out]
  go_wp2_with fail
  refine (own_any _ _ l _ (Kd.C_below HR.out HB2.out) (by omega)).mono ?_
  rintro e w3 ⟨v3, rfl, hr3, hb3⟩
  obtain ⟨A3, c3, rfl, hc3, hk3⟩ := Kd.R_reads hr3
  have HB3 := Aside0.mk (HB2.out.trans (hb3.mono HB2.out.size))
  have HK3 := Aside0.mk hk3
  clear hr3 hb3 hk3
  go_wp2_with fail
  refine (split_any A3 c3 l at_ g _ HK3.out hc3 (by omega) (by omega)).mono ?_
  rintro e w4 ⟨v4, rfl, hr4, hb4⟩
  have HB4 := Aside0.mk (HB3.out.trans (hb4.mono HB3.out.size))
  clear hb4 hr4
  obtain ⟨kk, hkk⟩ : ∃ kk, splitK l at_ g = kk := ⟨_, rfl⟩
  rw [hkk] at k1 ⊢
  clear hkk hk
  go_wp2_with fail
  refine (alive_any _).mono ?_
  rintro e w11 ⟨rfl, hb11⟩
  go_wp2_with fail
  go_ret
  exact ⟨rfl, HB4.out.trans (hb11.mono HB4.out.size)⟩
set_option maxHeartbeats 4000000 in
set_option maxRecDepth 100000 in
theorem back_yes (A : Option Addr) (c : Nat) (l : List Part) (at_ : ByteArray) (g : Int) (row : ByteArray) (w : World) (hr : Kd.C kP w A l.length l) (hc : l.length ≤ c) (hi : lightB l = true) (s1 : l.length ≤ 100) (hz : at_.size ≤ 200) (hy : row.size ≤ 200) (hR : rightB l = true) (hk : splitK l at_ g = 0) :
    Calls Try.prog 8 #[.slice A l.length c, .string at_, .int .u64 g, .string row] w (TrueB w) := by
  obtain ⟨⟨f0, t0, g0⟩, ⟨f1, t1, g1⟩, ⟨f2, t2, g2⟩, hx⟩ := backed (row := row) hk
  have HX := Aside0.mk hx
  clear hx
  have HR := Aside0.mk hr
  have HI := Aside0.mk hi
  have HRK : Aside0 (rightK l = 0) := ⟨by unfold rightK; rw [hR]; rfl⟩
  have HRB := Aside0.mk hR
  clear hr hi hR
  have d1 : decide ((200 : Int) < (at_.size : Int)) = false := df (by omega)
  have d1' : decide (200 < at_.size) = false := df (by omega)
  have d2 : decide ((200 : Int) < (row.size : Int)) = false := df (by omega)
  have d2' : decide (200 < row.size) = false := df (by omega)
  go_enter Try.func8, Try.ntmps8
  go_wp2_with fail
  refine (light_any _ _ l _ HR.out).mono ?_
  rintro e w1 ⟨rfl, rfl⟩
  rw [HI.out]
  go_wp2_with fail
  refine (own_any _ _ l _ HR.out (by omega)).mono ?_
  rintro e w1 ⟨v1, rfl, hr1, hb1⟩
  obtain ⟨A1, c1, rfl, hc1, hk1⟩ := Kd.R_reads hr1
  have HB1 := Aside0.mk hb1
  have HK1 := Aside0.mk hk1
  clear hr1 hb1 hk1
  go_wp2_with fail
  refine (right_any A1 c1 l _ HK1.out (by omega)).mono ?_
  rintro e w2 ⟨rfl, hb2⟩
  have HB2 := Aside0.mk (HB1.out.trans (hb2.mono HB1.out.size))
  clear hb2
  rw [HRK.out]
  go_wp2_with fail
  refine (own_any _ _ l _ (Kd.C_below HR.out HB2.out) (by omega)).mono ?_
  rintro e w3 ⟨v3, rfl, hr3, hb3⟩
  obtain ⟨A3, c3, rfl, hc3, hk3⟩ := Kd.R_reads hr3
  have HB3 := Aside0.mk (HB2.out.trans (hb3.mono HB2.out.size))
  have HK3 := Aside0.mk hk3
  clear hr3 hb3 hk3
  go_wp2_with fail
  refine (split_any A3 c3 l at_ g _ HK3.out hc3 (by omega) (by omega)).mono ?_
  rintro e w4 ⟨v4, rfl, hr4, hb4⟩
  rw [hk]
  obtain ⟨s, hs⟩ : ∃ s, splitR l at_ g = s := ⟨_, rfl⟩
  rw [hs] at HX hr4
  clear hs hk
  obtain ⟨A4, c4, rfl, hc4, hk4⟩ := Kd.R_reads hr4
  have hsl := HX.out.len
  have HB4 := Aside0.mk (HB3.out.trans (hb4.mono HB3.out.size))
  have HK4 := Aside0.mk hk4
  clear hb4 hr4 hk4
  have l1 : ((s.length : Int) == (l.length : Int) + 1) = true := ieq (by omega)
  have hs9 : s.length ≤ 101 := by omega
  clear hsl
  go_wp2_with fail
  refine (join_any A4 c4 s at_ _ HK4.out hc4 (by omega)).mono ?_
  rintro e w5 ⟨v5, rfl, hr5, hb5⟩
  rw [HX.out.jr] at hr5
  rw [HX.out.jk]
  obtain ⟨A5, c5, rfl, hc5, hk5⟩ := Kd.R_reads hr5
  have HB5 := Aside0.mk (HB4.out.trans (hb5.mono HB4.out.size))
  have HK5 := Aside0.mk hk5
  have HK45 := Aside0.mk (Kd.C_below HK4.out hb5)
  clear hr5 hb5 hk5 HK4 HK3
  go_wp2_with fail
  refine (own_any _ _ l _ (Kd.C_below HR.out HB5.out) (by omega)).mono ?_
  rintro e w6 ⟨v6, rfl, hr6, hb6⟩
  obtain ⟨A6, c6, rfl, hc6, hk6⟩ := Kd.R_reads hr6
  have HB6 := Aside0.mk (HB5.out.trans (hb6.mono HB5.out.size))
  have HK6 := Aside0.mk hk6
  have HK46 := Aside0.mk (Kd.C_below HK45.out hb6)
  have HK56 := Aside0.mk (Kd.C_below HK5.out hb6)
  clear hr6 hb6 hk6 HK45 HK5
  go_wp2_with fail
  refine (find_any A6 c6 l row _ HK6.out hc6 (by omega)).mono ?_
  rintro e w7 ⟨rfl, hb7⟩
  rw [HX.out.eq0]
  have HB7 := Aside0.mk (HB6.out.trans (hb7.mono HB6.out.size))
  have HK47 := Aside0.mk (Kd.C_below HK46.out hb7)
  have HK57 := Aside0.mk (Kd.C_below HK56.out hb7)
  clear hb7 HK46 HK56 HK6
  unfold Part.val
  go_wp2_with fail
  have HX8 : Aside0 (Blk3 (w7.alloc (.cells #[.string f0, .string t0, .int .u64 g0] 27)) w7.heap.size (.string f0) (.string t0) (.int .u64 g0) 27) := ⟨heap_alloc_new w7 _⟩
  have hal := (Below.refl w7.heap.size w7).alloc (Nat.le_refl _) (.cells #[.string f0, .string t0, .int .u64 g0] 27)
  have HB8 := Aside0.mk (HB7.out.trans (hal.mono HB7.out.size))
  have HK48 := Aside0.mk (Kd.C_below HK47.out hal)
  have HK58 := Aside0.mk (Kd.C_below HK57.out hal)
  clear hal HK47 HK57
  generalize w7.alloc (.cells #[.string f0, .string t0, .int .u64 g0] 27) = w8 at HX8 HB8 HK48 HK58 ⊢
  generalize w7.heap.size = b0 at HX8 ⊢
  refine (find_any A4 c4 s row _ HK48.out hc4 (by omega)).mono ?_
  rintro e w9 ⟨rfl, hb9⟩
  rw [HX.out.eq1, HX.out.right]
  have HB9 := Aside0.mk (HB8.out.trans (hb9.mono HB8.out.size))
  have HK49 := Aside0.mk (Kd.C_below HK48.out hb9)
  have HK59 := Aside0.mk (Kd.C_below HK58.out hb9)
  have HX9 := Aside0.mk (blk3_keep HX8.out hb9)
  clear hb9 HK48 HK58 HX8
  unfold Part.val
  go_wp2_with fail
  have HY10 : Aside0 (Blk3 (w9.alloc (.cells #[.string f1, .string t1, .int .u64 g1] 27)) w9.heap.size (.string f1) (.string t1) (.int .u64 g1) 27) := ⟨heap_alloc_new w9 _⟩
  have hal := (Below.refl w9.heap.size w9).alloc (Nat.le_refl _) (.cells #[.string f1, .string t1, .int .u64 g1] 27)
  have HB10 := Aside0.mk (HB9.out.trans (hal.mono HB9.out.size))
  have HK410 := Aside0.mk (Kd.C_below HK49.out hal)
  have HK510 := Aside0.mk (Kd.C_below HK59.out hal)
  have HX10 := Aside0.mk (blk3_keep HX9.out hal)
  clear hal HK49 HK59 HX9
  generalize w9.alloc (.cells #[.string f1, .string t1, .int .u64 g1] 27) = w10 at HX10 HY10 HB10 HK410 HK510 ⊢
  generalize w9.heap.size = b1 at HY10 ⊢
  refine (own_any _ _ l _ (Kd.C_below HR.out HB10.out) (by omega)).mono ?_
  rintro e w11 ⟨v11, rfl, hr11, hb11⟩
  obtain ⟨A11, c11, rfl, hc11, hk11⟩ := Kd.R_reads hr11
  have HB11 := Aside0.mk (HB10.out.trans (hb11.mono HB10.out.size))
  have HK11 := Aside0.mk hk11
  have HK411 := Aside0.mk (Kd.C_below HK410.out hb11)
  have HK511 := Aside0.mk (Kd.C_below HK510.out hb11)
  have HX11 := Aside0.mk (blk3_keep HX10.out hb11)
  have HY11 := Aside0.mk (blk3_keep HY10.out hb11)
  clear hr11 hb11 hk11 HK410 HK510 HX10 HY10
  go_wp2_with fail
  refine (find_any A11 c11 l at_ _ HK11.out hc11 (by omega)).mono ?_
  rintro e w12 ⟨rfl, hb12⟩
  rw [HX.out.eq2]
  have HB12 := Aside0.mk (HB11.out.trans (hb12.mono HB11.out.size))
  have HK412 := Aside0.mk (Kd.C_below HK411.out hb12)
  have HK512 := Aside0.mk (Kd.C_below HK511.out hb12)
  have HX12 := Aside0.mk (blk3_keep HX11.out hb12)
  have HY12 := Aside0.mk (blk3_keep HY11.out hb12)
  clear hb12 HK411 HK511 HX11 HY11 HK11
  unfold Part.val
  obtain ⟨z0, z1, z2⟩ := blk3_cells (show Blk3 (w12.alloc (.cells #[.string f2, .string t2, .int .u64 g2] 27)) w12.heap.size (.string f2) (.string t2) (.int .u64 g2) 27 from heap_alloc_new w12 _)
  have hal := (Below.refl w12.heap.size w12).alloc (Nat.le_refl _) (.cells #[.string f2, .string t2, .int .u64 g2] 27)
  have HB13 := Aside0.mk (HB12.out.trans (hal.mono HB12.out.size))
  have HK413 := Aside0.mk (Kd.C_below HK412.out hal)
  have HK513 := Aside0.mk (Kd.C_below HK512.out hal)
  obtain ⟨x0, x1, x2⟩ := blk3_cells (blk3_keep HX12.out hal)
  obtain ⟨y0, y1, y2⟩ := blk3_cells (blk3_keep HY12.out hal)
  clear hal HK412 HK512 HX12 HY12
  have HSK : Aside0 (rightK s = 0) := ⟨by unfold rightK; rw [HX.out.right]; rfl⟩
  rcases HX.out.cases_ with ⟨hc1, hc2, hc3⟩ | ⟨hc1, hc3⟩ | ⟨hc1, hc2, hc3⟩
  · have hlt : Op.bytesLess row.toList at_.toList = false := by rw [less_below]; exact hc1
    have heq := fun w => eqA27 9998 w f0 f2 t0 t2 g0 g2
    have hc2' : (f0.toList == f2.toList && (t0.toList == t2.toList && (g0 == g2))) = true := hc2
    rw [hc2'] at heq
    obtain rfl : g1 = g := hc3
    clear hc1 hc2 hc2'
    go_wp2_with fail
    generalize w12.alloc (.cells #[.string f2, .string t2, .int .u64 g2] 27) = w13 at HB13 HK413 HK513 z0 z1 z2 x0 x1 x2 y0 y1 y2 ⊢
    refine (right_any A4 c4 s _ HK413.out (by omega)).mono ?_
    rintro e w14 ⟨rfl, hb14⟩
    rw [HSK.out]
    have HB14 := Aside0.mk (HB13.out.trans (hb14.mono HB13.out.size))
    have HK514 := Aside0.mk (Kd.C_below HK513.out hb14)
    clear hb14 HK413 HK513 z0 z1 z2 x0 x1 x2 y0 y1 y2
    go_wp2_with fail
    refine (back_any A5 c5 l _ HK514.out (by omega)).mono ?_
    rintro e w15 ⟨v15, rfl, hr15, hb15⟩
    obtain ⟨A15, c15, rfl, hc15, hk15⟩ := Kd.R_reads hr15
    have HB15 := Aside0.mk (HB14.out.trans (hb15.mono HB14.out.size))
    have HK15 := Aside0.mk hk15
    clear hr15 hb15 hk15 HK514
    go_wp2_with fail
    refine (same_any A15 A c15 c l l _ HK15.out (Kd.C_below HR.out HB15.out) (by omega)).mono ?_
    rintro e w16 ⟨rfl, ⟨d16, rfl⟩⟩
    rw [same_refl]
    go_wp2_with fail
    refine (alive_any _).mono ?_
    rintro e w17 ⟨rfl, hb17⟩
    go_wp2_with fail
    go_ret
    exact ⟨rfl, (pw_drewN HB15.out d16).trans (hb17.mono HB15.out.size)⟩
  · have hlt : Op.bytesLess row.toList at_.toList = true := by rw [less_below]; exact hc1
    obtain rfl : g1 = g0 := hc3
    clear hc1
    go_wp2_with fail
    generalize w12.alloc (.cells #[.string f2, .string t2, .int .u64 g2] 27) = w13 at HB13 HK413 HK513 z0 z1 z2 x0 x1 x2 y0 y1 y2 ⊢
    refine (right_any A4 c4 s _ HK413.out (by omega)).mono ?_
    rintro e w14 ⟨rfl, hb14⟩
    rw [HSK.out]
    have HB14 := Aside0.mk (HB13.out.trans (hb14.mono HB13.out.size))
    have HK514 := Aside0.mk (Kd.C_below HK513.out hb14)
    clear hb14 HK413 HK513 z0 z1 z2 x0 x1 x2 y0 y1 y2
    go_wp2_with fail
    refine (back_any A5 c5 l _ HK514.out (by omega)).mono ?_
    rintro e w15 ⟨v15, rfl, hr15, hb15⟩
    obtain ⟨A15, c15, rfl, hc15, hk15⟩ := Kd.R_reads hr15
    have HB15 := Aside0.mk (HB14.out.trans (hb15.mono HB14.out.size))
    have HK15 := Aside0.mk hk15
    clear hr15 hb15 hk15 HK514
    go_wp2_with fail
    refine (same_any A15 A c15 c l l _ HK15.out (Kd.C_below HR.out HB15.out) (by omega)).mono ?_
    rintro e w16 ⟨rfl, ⟨d16, rfl⟩⟩
    rw [same_refl]
    go_wp2_with fail
    refine (alive_any _).mono ?_
    rintro e w17 ⟨rfl, hb17⟩
    go_wp2_with fail
    go_ret
    exact ⟨rfl, (pw_drewN HB15.out d16).trans (hb17.mono HB15.out.size)⟩
  · have hlt : Op.bytesLess row.toList at_.toList = false := by rw [less_below]; exact hc1
    have heq := fun w => eqA27 9998 w f0 f2 t0 t2 g0 g2
    have hc2' : (f0.toList == f2.toList && (t0.toList == t2.toList && (g0 == g2))) = false := hc2
    rw [hc2'] at heq
    obtain rfl : g1 = g0 := hc3
    clear hc1 hc2 hc2'
    go_wp2_with fail
    generalize w12.alloc (.cells #[.string f2, .string t2, .int .u64 g2] 27) = w13 at HB13 HK413 HK513 z0 z1 z2 x0 x1 x2 y0 y1 y2 ⊢
    refine (right_any A4 c4 s _ HK413.out (by omega)).mono ?_
    rintro e w14 ⟨rfl, hb14⟩
    rw [HSK.out]
    have HB14 := Aside0.mk (HB13.out.trans (hb14.mono HB13.out.size))
    have HK514 := Aside0.mk (Kd.C_below HK513.out hb14)
    clear hb14 HK413 HK513 z0 z1 z2 x0 x1 x2 y0 y1 y2
    go_wp2_with fail
    refine (back_any A5 c5 l _ HK514.out (by omega)).mono ?_
    rintro e w15 ⟨v15, rfl, hr15, hb15⟩
    obtain ⟨A15, c15, rfl, hc15, hk15⟩ := Kd.R_reads hr15
    have HB15 := Aside0.mk (HB14.out.trans (hb15.mono HB14.out.size))
    have HK15 := Aside0.mk hk15
    clear hr15 hb15 hk15 HK514
    go_wp2_with fail
    refine (same_any A15 A c15 c l l _ HK15.out (Kd.C_below HR.out HB15.out) (by omega)).mono ?_
    rintro e w16 ⟨rfl, ⟨d16, rfl⟩⟩
    rw [same_refl]
    go_wp2_with fail
    refine (alive_any _).mono ?_
    rintro e w17 ⟨rfl, hb17⟩
    go_wp2_with fail
    go_ret
    exact ⟨rfl, (pw_drewN HB15.out d16).trans (hb17.mono HB15.out.size)⟩
theorem back_any' (A : Option Addr) (c : Nat) (l : List Part) (at_ : ByteArray) (g : Int) (row : ByteArray) (w : World) (hr : Kd.C kP w A l.length l) (hc : l.length ≤ c) :
    Calls Try.prog 8 #[.slice A l.length c, .string at_, .int .u64 g, .string row] w (TrueB w) := by
  rcases Bool.eq_false_or_eq_true (lightB l) with hi | hi
  · by_cases hz : at_.size ≤ 200
    · by_cases hy : row.size ≤ 200
      · rcases Bool.eq_false_or_eq_true (rightB l) with hR | hR
        · by_cases hk : splitK l at_ g = 0
          · exact back_yes A c l at_ g row w hr hc hi (light_sizes hi).1 hz hy hR hk
          · exact back_no A c l at_ g row w hr hc hi (light_sizes hi).1 hz hy hR hk
        · exact back_out A c l at_ g row w hr hc (.inr (.inr (.inr hR)))
      · exact back_out A c l at_ g row w hr hc (.inr (.inr (.inl (by omega))))
    · exact back_out A c l at_ g row w hr hc (.inr (.inl (by omega)))
  · exact back_out A c l at_ g row w hr hc (.inl hi)
end Go.Proofs.Ytoemddjolfblbaa
