/- The law RouteOnce at its call: true for every slice of parts, every row and every stretch. -/
import Derived.Test.YtoemddjolfblbaaSE
import Derived.Test.YtoemddjolfblbaaSH
/- The law RouteOnce. -/
set_option linter.unusedVariables false
set_option linter.unusedSimpArgs false
namespace Go.Proofs.Ytoemddjolfblbaa
open Go.RowKit Go.Proofs.YtoemddjolfblbaaW.PrintWords

theorem hasP_1 {p : Part} {row : ByteArray} (h : belowB row p.from_ = true) : hasP p row = false := by unfold hasP hasB; rw [h]; rfl
theorem hasP_2 {p : Part} {row : ByteArray} (h : belowB row p.from_ = false) (h2 : p.to_.toList.isEmpty = true) : hasP p row = true := by unfold hasP hasB; rw [h, h2]; rfl
theorem hasP_3 {p : Part} {row : ByteArray} (h : belowB row p.from_ = false) (h2 : p.to_.toList.isEmpty = false) (h3 : belowB row p.to_ = true) : hasP p row = true := by unfold hasP hasB; rw [h, h2, h3]; rfl
theorem hasP_4 {p : Part} {row : ByteArray} (h : belowB row p.from_ = false) (h2 : p.to_.toList.isEmpty = false) (h3 : belowB row p.to_ = false) : hasP p row = false := by unfold hasP hasB; rw [h, h2, h3]; rfl
theorem beb (a b : ByteArray) {x : Bool} (h : belowB a b = x) : Op.bytesLess a.toList b.toList = x := by rw [less_below]; exact h
set_option maxHeartbeats 4000000 in
set_option maxRecDepth 100000 in
theorem once_out (A : Option Addr) (c : Nat) (l : List Part) (row f t : ByteArray) (w : World) (hr : Kd.C kP w A l.length l) (hc : l.length ≤ c) (h : lightB l = false ∨ 200 < row.size ∨ 200 < f.size ∨ 200 < t.size ∨ rightB l = false) :
    Calls Try.prog 5 #[.slice A l.length c, .string row, .string f, .string t] w (TrueB w) := by
  have HR := Aside0.mk hr
  clear hr
  rcases Bool.eq_false_or_eq_true (lightB l) with hi | hi
  · obtain ⟨s1, s2⟩ := light_sizes hi
    have HI := Aside0.mk hi
    by_cases hz : row.size ≤ 200
    · by_cases hy : f.size ≤ 200
      · by_cases hx : t.size ≤ 200
        · have hR : rightB l = false := by
            rcases h with h | h | h | h | h
            · rw [hi] at h; cases h
            · omega
            · omega
            · omega
            · exact h
          have HRK : Aside0 (rightK l = 3) := ⟨by unfold rightK; rw [hR]; rfl⟩
          clear hi s2 h hR
          have e_row : decide ((200 : Int) < (row.size : Int)) = false := df (by omega)
          have e_row' : decide (200 < row.size) = false := df (by omega)
          have e_f : decide ((200 : Int) < (f.size : Int)) = false := df (by omega)
          have e_f' : decide (200 < f.size) = false := df (by omega)
          have e_t : decide ((200 : Int) < (t.size : Int)) = false := df (by omega)
          have e_t' : decide (200 < t.size) = false := df (by omega)
          go_enter Try.func5, Try.ntmps5
          go_wp2_with fail
          refine (light_any _ _ l _ HR.out).mono ?_
          rintro e w1 ⟨rfl, rfl⟩
          rw [HI.out]
          go_wp2_with fail
          refine (own_any _ _ l _ HR.out (by omega)).mono ?_
          rintro e w1 ⟨v1, rfl, hr1, hb1⟩
          obtain ⟨A1, c1, rfl, hc1, hk1⟩ := Kd.R_reads hr1
          have HB1 := Aside0.mk hb1
          have HK1 := Aside0.mk hk1
          clear hr1 hb1 hk1
          go_wp2_with fail
          refine (right_any A1 c1 l _ HK1.out (by omega)).mono ?_
          rintro e w2 ⟨rfl, hb2⟩
          have HB2 := Aside0.mk (HB1.out.trans (hb2.mono HB1.out.size))
          clear hb2
          rw [HRK.out]
          go_wp2_with fail
          refine (alive_any _).mono ?_
          rintro e w11 ⟨rfl, hb11⟩
          go_wp2_with fail
          go_ret
          exact ⟨rfl, HB2.out.trans (hb11.mono HB2.out.size)⟩
        · clear h s2 hi
          have e_row : decide ((200 : Int) < (row.size : Int)) = false := df (by omega)
          have e_row' : decide (200 < row.size) = false := df (by omega)
          have e_f : decide ((200 : Int) < (f.size : Int)) = false := df (by omega)
          have e_f' : decide (200 < f.size) = false := df (by omega)
          have e_t : decide ((200 : Int) < (t.size : Int)) = true := dt (by omega)
          have e_t' : decide (200 < t.size) = true := dt (by omega)
          go_enter Try.func5, Try.ntmps5
          go_wp2_with fail
          refine (light_any _ _ l _ HR.out).mono ?_
          rintro e w1 ⟨rfl, rfl⟩
          rw [HI.out]
          go_wp2_with fail
          refine (alive_any _).mono ?_
          rintro e w11 ⟨rfl, hb11⟩
          go_wp2_with fail
          go_ret
          exact ⟨rfl, hb11⟩
      · clear h s2 hi
        have e_row : decide ((200 : Int) < (row.size : Int)) = false := df (by omega)
        have e_row' : decide (200 < row.size) = false := df (by omega)
        have e_f : decide ((200 : Int) < (f.size : Int)) = true := dt (by omega)
        have e_f' : decide (200 < f.size) = true := dt (by omega)
        go_enter Try.func5, Try.ntmps5
        go_wp2_with fail
        refine (light_any _ _ l _ HR.out).mono ?_
        rintro e w1 ⟨rfl, rfl⟩
        rw [HI.out]
        go_wp2_with fail
        refine (alive_any _).mono ?_
        rintro e w11 ⟨rfl, hb11⟩
        go_wp2_with fail
        go_ret
        exact ⟨rfl, hb11⟩
    · clear h s2 hi
      have e_row : decide ((200 : Int) < (row.size : Int)) = true := dt (by omega)
      have e_row' : decide (200 < row.size) = true := dt (by omega)
      go_enter Try.func5, Try.ntmps5
      go_wp2_with fail
      refine (light_any _ _ l _ HR.out).mono ?_
      rintro e w1 ⟨rfl, rfl⟩
      rw [HI.out]
      go_wp2_with fail
      refine (alive_any _).mono ?_
      rintro e w11 ⟨rfl, hb11⟩
      go_wp2_with fail
      go_ret
      exact ⟨rfl, hb11⟩
  · have HI := Aside0.mk hi
    clear hi h
    go_enter Try.func5, Try.ntmps5
    go_wp2_with fail
    refine (light_any _ _ l _ HR.out).mono ?_
    rintro e w1 ⟨rfl, rfl⟩
    rw [HI.out]
    go_wp2_with fail
    refine (alive_any _).mono ?_
    rintro e w11 ⟨rfl, hb11⟩
    go_wp2_with fail
    go_ret
    exact ⟨rfl, hb11⟩
set_option maxHeartbeats 4000000 in
set_option maxRecDepth 100000 in
theorem once_yes (A : Option Addr) (c : Nat) (l : List Part) (row f t : ByteArray) (w : World) (hr : Kd.C kP w A l.length l) (hc : l.length ≤ c) (hi : lightB l = true) (s1 : l.length ≤ 100) (hz : row.size ≤ 200) (hy : f.size ≤ 200) (hx : t.size ≤ 200) (hR : rightB l = true) :
    Calls Try.prog 5 #[.slice A l.length c, .string row, .string f, .string t] w (TrueB w) := by
  have hL := (rightB_iff l).1 hR
  have HC0 := Aside0.mk (cnt_one hL row)
  have HOL : Aside0 (coverK l f t = 0 → cntP (coverR l f t) row = (if hasB f t row then 1 else 0) ∧ ∀ k, k < (coverR l f t).length → hasP (pat (coverR l f t) k) row = true → (pat (coverR l f t) k).group = (findL l row).group) := ⟨fun hk => once_law hL hk⟩
  have hff := find_from hL row
  obtain ⟨⟨f0, t0, g0⟩, hp0⟩ : ∃ p, findL l row = p := ⟨_, rfl⟩
  rw [hp0] at HOL hff
  have HP0 := Aside0.mk hp0
  have hff1 : Op.bytesLess row.toList f0.toList = false := beb _ _ hff
  have hKK : Aside0 (coverK l f t = 0 ∨ coverK l f t = 1) := ⟨by unfold coverK; rw [hR, if_pos rfl]; split; exact .inr rfl; exact .inl rfl⟩
  have HR := Aside0.mk hr
  have HI := Aside0.mk hi
  have HRK : Aside0 (rightK l = 0) := ⟨by unfold rightK; rw [hR]; rfl⟩
  have HRB := Aside0.mk hR
  clear hr hi hR hL hp0 hff
  have e_row : decide ((200 : Int) < (row.size : Int)) = false := df (by omega)
  have e_row' : decide (200 < row.size) = false := df (by omega)
  have e_f : decide ((200 : Int) < (f.size : Int)) = false := df (by omega)
  have e_f' : decide (200 < f.size) = false := df (by omega)
  have e_t : decide ((200 : Int) < (t.size : Int)) = false := df (by omega)
  have e_t' : decide (200 < t.size) = false := df (by omega)
  go_enter Try.func5, Try.ntmps5
  go_wp2_with fail
  refine (light_any _ _ l _ HR.out).mono ?_
  rintro e w1 ⟨rfl, rfl⟩
  rw [HI.out]
  go_wp2_with fail
  refine (own_any _ _ l _ HR.out (by omega)).mono ?_
  rintro e w1 ⟨v1, rfl, hr1, hb1⟩
  obtain ⟨A1, c1, rfl, hc1, hk1⟩ := Kd.R_reads hr1
  have HB1 := Aside0.mk hb1
  have HK1 := Aside0.mk hk1
  clear hr1 hb1 hk1
  go_wp2_with fail
  refine (right_any A1 c1 l _ HK1.out (by omega)).mono ?_
  rintro e w2 ⟨rfl, hb2⟩
  have HB2 := Aside0.mk (HB1.out.trans (hb2.mono HB1.out.size))
  clear hb2
  rw [HRK.out]
  go_wp2_with fail
  go_loopw [9, 10] (fun vn vi w' => ∃ i n : Nat, i ≤ l.length ∧ n ≤ i ∧ vn = .int .i64 n ∧ vi = .int .i64 i ∧ Aside0 (n = cntP (l.take i) row) ∧ Drawn0 w2 w') (fun _ vi _ => l.length - (intOf vi).toNat)
  case atStart => exact ⟨0, 0, by omega, by omega, rfl, rfl, ⟨rfl⟩, Drawn0.refl _⟩
  case round =>
    obtain ⟨i, n, hi, hn, rfl, rfl, HN, HD⟩ := hrel
    by_cases hlt : i < l.length
    · have h3 : (i : Int) < l.length := by omega
      have h3' : decide (i < l.length) = true := dt hlt
      obtain ⟨ad, rfl, HH⟩ := kP_hold HR.out i hlt
      obtain ⟨c0, c1, c2⟩ := HH.out _ (HB2.out.trans (HD.below.mono HB2.out.size))
      rcases Bool.eq_false_or_eq_true (belowB row (pat l i).from_) with b1 | b1
      · have hh := hasP_1 b1
        have b1 := beb _ _ b1
        have HN1 : Aside0 (n = cntP (l.take (i + 1)) row) := ⟨by rw [cntP_take hlt, hh, ← HN.out]; rfl⟩
        clear hh
        go_wp2_with fail
        go_roundw
        case rel => exact ⟨i + 1, n, by omega, by omega, by go_num, by go_num, HN1, HD⟩
        case measure => simp [intOf]; omega
      · rcases Bool.eq_false_or_eq_true ((pat l i).to_.toList.isEmpty) with b2 | b2
        · have hh := hasP_2 b1 b2
          have b1 := beb _ _ b1
          have HN1 : Aside0 (n + 1 = cntP (l.take (i + 1)) row) := ⟨by rw [cntP_take hlt, hh, ← HN.out]; rfl⟩
          clear hh
          go_wp2_with fail
          go_roundw
          case rel => exact ⟨i + 1, n + 1, by omega, by omega, by go_num, by go_num, HN1, HD⟩
          case measure => simp [intOf]; omega
        · rcases Bool.eq_false_or_eq_true (belowB row (pat l i).to_) with b3 | b3
          · have hh := hasP_3 b1 b2 b3
            have b1 := beb _ _ b1
            have b3 := beb _ _ b3
            have HN1 : Aside0 (n + 1 = cntP (l.take (i + 1)) row) := ⟨by rw [cntP_take hlt, hh, ← HN.out]; rfl⟩
            clear hh
            go_wp2_with fail
            go_roundw
            case rel => exact ⟨i + 1, n + 1, by omega, by omega, by go_num, by go_num, HN1, HD⟩
            case measure => simp [intOf]; omega
          · have hh := hasP_4 b1 b2 b3
            have b1 := beb _ _ b1
            have b3 := beb _ _ b3
            have HN1 : Aside0 (n = cntP (l.take (i + 1)) row) := ⟨by rw [cntP_take hlt, hh, ← HN.out]; rfl⟩
            clear hh
            go_wp2_with fail
            go_roundw
            case rel => exact ⟨i + 1, n, by omega, by omega, by go_num, by go_num, HN1, HD⟩
            case measure => simp [intOf]; omega
    · obtain rfl : i = l.length := by omega
      have h3' : decide (l.length < l.length) = false := df (by omega)
      have HN0 := HN.out
      rw [List.take_length, HC0.out] at HN0
      obtain rfl : n = 1 := HN0
      have HBn := Aside0.mk (HB2.out.trans (HD.below.mono HB2.out.size))
      clear hlt HN hn
      go_wp2_with fail
      refine (own_any _ _ l _ (Kd.C_below HR.out HBn.out) (by omega)).mono ?_
      rintro e w4 ⟨v4, rfl, hr4, hb4⟩
      obtain ⟨A4, c4, rfl, hc4, hk4⟩ := Kd.R_reads hr4
      have HB4 := Aside0.mk (HBn.out.trans (hb4.mono HBn.out.size))
      have HK4 := Aside0.mk hk4
      clear hr4 hb4 hk4
      go_wp2_with fail
      refine (find_any A4 c4 l row _ HK4.out hc4 (by omega)).mono ?_
      rintro e w5 ⟨rfl, hb5⟩
      rw [HP0.out, HRB.out]
      have HB5 := Aside0.mk (HB4.out.trans (hb5.mono HB4.out.size))
      clear hb5 HK4
      unfold Part.val
      have hal := (Below.refl w5.heap.size w5).alloc (Nat.le_refl _) (.cells #[.string f0, .string t0, .int .u64 g0] 27)
      have HB6 := Aside0.mk (HB5.out.trans (hal.mono HB5.out.size))
      have HX6 : Aside0 (Blk3 (w5.alloc (.cells #[.string f0, .string t0, .int .u64 g0] 27)) w5.heap.size (.string f0) (.string t0) (.int .u64 g0) 27) := ⟨heap_alloc_new w5 _⟩
      obtain ⟨x0, x1, x2⟩ := blk3_cells HX6.out
      clear hal
      go_wp2_with fail
      generalize w5.alloc (.cells #[.string f0, .string t0, .int .u64 g0] 27) = w6 at HX6 HB6 x0 x1 x2 ⊢
      generalize w5.heap.size = b0 at HX6 x0 x1 x2 ⊢
      clear x0 x1 x2
      refine (own_any _ _ l _ (Kd.C_below HR.out HB6.out) (by omega)).mono ?_
      rintro e w7 ⟨v7, rfl, hr7, hb7⟩
      obtain ⟨A7, c7, rfl, hc7, hk7⟩ := Kd.R_reads hr7
      have HB7 := Aside0.mk (HB6.out.trans (hb7.mono HB6.out.size))
      have HK7 := Aside0.mk hk7
      have HX7 := Aside0.mk (blk3_keep HX6.out hb7)
      clear hr7 hb7 hk7 HX6
      go_wp2_with fail
      refine (cover_any A7 c7 l f t _ HK7.out hc7 (by omega) (by omega) (by omega)).mono ?_
      rintro e w8 ⟨v8, rfl, hr8, hb8⟩
      obtain ⟨A8, c8, rfl, hc8, hk8⟩ := Kd.R_reads hr8
      have HBc := Aside0.mk (HB7.out.trans (hb8.mono HB7.out.size))
      have HK8 := Aside0.mk hk8
      have HX8 := Aside0.mk (blk3_keep HX7.out hb8)
      clear hr8 hb8 hk8 HX7 HK7
      have hlenC : (coverR l f t).length ≤ 200 := Nat.le_trans (coverR_len l f t) (by omega)
      obtain ⟨C, hC⟩ : ∃ C, coverR l f t = C := ⟨_, rfl⟩
      have HC := Aside0.mk hC
      rw [hC] at HK8 hc8 hlenC ⊢
      clear hC
      rcases hKK.out with hk | hk
      · obtain ⟨HC1', HG'⟩ := HOL.out hk
        rw [HC.out] at HC1' HG'
        have HC1 := Aside0.mk HC1'
        have HG := Aside0.mk HG'
        rw [hk]
        clear HC1' HG' hk
        go_wp2_with fail
        go_loopw [15, 16] (fun vn vi w' => ∃ i m : Nat, i ≤ C.length ∧ m ≤ i ∧ vn = .int .i64 m ∧ vi = .int .i64 i ∧ Aside0 (m = cntP (C.take i) row) ∧ Drawn0 w8 w') (fun _ vi _ => C.length - (intOf vi).toNat)
        case atStart => exact ⟨0, 0, by omega, by omega, rfl, rfl, ⟨rfl⟩, Drawn0.refl _⟩
        case round =>
          obtain ⟨i, m, hi, hn, rfl, rfl, HN, HD⟩ := hrel
          by_cases hlt : i < C.length
          · have h3 : (i : Int) < C.length := by omega
            have h3' : decide (i < C.length) = true := dt hlt
            obtain ⟨ad8, rfl, HH8⟩ := kP_hold HK8.out i hlt
            obtain ⟨c0, c1, c2⟩ := HH8.out _ HD.below
            obtain ⟨x0, x1, x2⟩ := blk3_cells (blk3_keep HX8.out HD.below)
            rcases Bool.eq_false_or_eq_true (belowB row (pat C i).from_) with b1 | b1
            · have hh := hasP_1 b1
              have b1 := beb _ _ b1
              have HN1 : Aside0 (m = cntP (C.take (i + 1)) row) := ⟨by rw [cntP_take hlt, hh, ← HN.out]; rfl⟩
              clear hh
              go_wp2_with fail
              go_roundw
              case rel => exact ⟨i + 1, m, by omega, by omega, by go_num, by go_num, HN1, HD⟩
              case measure => simp [intOf]; omega
            · rcases Bool.eq_false_or_eq_true ((pat C i).to_.toList.isEmpty) with b2 | b2
              · have hh := hasP_2 b1 b2
                have b1 := beb _ _ b1
                have HN1 : Aside0 (m + 1 = cntP (C.take (i + 1)) row) := ⟨by rw [cntP_take hlt, hh, ← HN.out]; rfl⟩
                have hg : (pat C i).group = g0 := HG.out i hlt hh
                have hg1 : ((pat C i).group != g0) = false := ieq' hg
                clear hh hg
                go_wp2_with fail
                go_quiet (fail)
                go_wp2_with fail
                go_roundw
                case rel => exact ⟨i + 1, m + 1, by omega, by omega, by go_num, by go_num, HN1, HD.step _⟩
                case measure => simp [intOf]; omega
              · rcases Bool.eq_false_or_eq_true (belowB row (pat C i).to_) with b3 | b3
                · have hh := hasP_3 b1 b2 b3
                  have b1 := beb _ _ b1
                  have b3 := beb _ _ b3
                  have HN1 : Aside0 (m + 1 = cntP (C.take (i + 1)) row) := ⟨by rw [cntP_take hlt, hh, ← HN.out]; rfl⟩
                  have hg : (pat C i).group = g0 := HG.out i hlt hh
                  have hg1 : ((pat C i).group != g0) = false := ieq' hg
                  clear hh hg
                  go_wp2_with fail
                  go_quiet (fail)
                  go_wp2_with fail
                  go_roundw
                  case rel => exact ⟨i + 1, m + 1, by omega, by omega, by go_num, by go_num, HN1, HD.step _⟩
                  case measure => simp [intOf]; omega
                · have hh := hasP_4 b1 b2 b3
                  have b1 := beb _ _ b1
                  have b3 := beb _ _ b3
                  have HN1 : Aside0 (m = cntP (C.take (i + 1)) row) := ⟨by rw [cntP_take hlt, hh, ← HN.out]; rfl⟩
                  clear hh
                  go_wp2_with fail
                  go_roundw
                  case rel => exact ⟨i + 1, m, by omega, by omega, by go_num, by go_num, HN1, HD⟩
                  case measure => simp [intOf]; omega
          · obtain rfl : i = C.length := by omega
            have h3' : decide (C.length < C.length) = false := df (by omega)
            clear hlt
            have HN0 := HN.out
            rw [List.take_length, HC1.out] at HN0
            rcases Bool.eq_false_or_eq_true (belowB row f) with b1 | b1
            · have hh : hasB f t row = false := by unfold hasB; rw [b1]; rfl
              rw [hh] at HN0
              obtain rfl : m = 0 := HN0
              have b1 := beb _ _ b1
              clear hh HN
              go_wp2_with fail
              refine (alive_any _).mono ?_
              rintro e w13 ⟨rfl, hb13⟩
              go_wp2_with fail
              go_ret
              exact ⟨rfl, (HBc.out.trans (HD.below.mono HBc.out.size)).trans (hb13.mono (HBc.out.trans (HD.below.mono HBc.out.size)).size)⟩
            · rcases Bool.eq_false_or_eq_true (t.toList.isEmpty) with b2 | b2
              · have hh : hasB f t row = true := by unfold hasB; rw [b1, b2]; rfl
                rw [hh] at HN0
                obtain rfl : m = 1 := HN0
                have b1 := beb _ _ b1
                clear hh HN
                go_wp2_with fail
                refine (alive_any _).mono ?_
                rintro e w13 ⟨rfl, hb13⟩
                go_wp2_with fail
                go_ret
                exact ⟨rfl, (HBc.out.trans (HD.below.mono HBc.out.size)).trans (hb13.mono (HBc.out.trans (HD.below.mono HBc.out.size)).size)⟩
              · rcases Bool.eq_false_or_eq_true (belowB row t) with b3 | b3
                · have hh : hasB f t row = true := by unfold hasB; rw [b1, b2, b3]; rfl
                  rw [hh] at HN0
                  obtain rfl : m = 1 := HN0
                  have b1 := beb _ _ b1
                  have b3 := beb _ _ b3
                  clear hh HN
                  go_wp2_with fail
                  refine (alive_any _).mono ?_
                  rintro e w13 ⟨rfl, hb13⟩
                  go_wp2_with fail
                  go_ret
                  exact ⟨rfl, (HBc.out.trans (HD.below.mono HBc.out.size)).trans (hb13.mono (HBc.out.trans (HD.below.mono HBc.out.size)).size)⟩
                · have hh : hasB f t row = false := by unfold hasB; rw [b1, b2, b3]; rfl
                  rw [hh] at HN0
                  obtain rfl : m = 0 := HN0
                  have b1 := beb _ _ b1
                  have b3 := beb _ _ b3
                  clear hh HN
                  go_wp2_with fail
                  refine (alive_any _).mono ?_
                  rintro e w13 ⟨rfl, hb13⟩
                  go_wp2_with fail
                  go_ret
                  exact ⟨rfl, (HBc.out.trans (HD.below.mono HBc.out.size)).trans (hb13.mono (HBc.out.trans (HD.below.mono HBc.out.size)).size)⟩
      · rw [hk]
        clear hk
        go_wp2_with fail
        refine (alive_any _).mono ?_
        rintro e w13 ⟨rfl, hb13⟩
        go_wp2_with fail
        go_ret
        exact ⟨rfl, HBc.out.trans (hb13.mono HBc.out.size)⟩
theorem once_any (A : Option Addr) (c : Nat) (l : List Part) (row f t : ByteArray) (w : World) (hr : Kd.C kP w A l.length l) (hc : l.length ≤ c) :
    Calls Try.prog 5 #[.slice A l.length c, .string row, .string f, .string t] w (TrueB w) := by
  rcases Bool.eq_false_or_eq_true (lightB l) with hi | hi
  · by_cases hz : row.size ≤ 200
    · by_cases hy : f.size ≤ 200
      · by_cases hx : t.size ≤ 200
        · rcases Bool.eq_false_or_eq_true (rightB l) with hR | hR
          · exact once_yes A c l row f t w hr hc hi (light_sizes hi).1 hz hy hx hR
          · exact once_out A c l row f t w hr hc (.inr (.inr (.inr (.inr hR))))
        · exact once_out A c l row f t w hr hc (.inr (.inr (.inr (.inl (by omega)))))
      · exact once_out A c l row f t w hr hc (.inr (.inr (.inl (by omega))))
    · exact once_out A c l row f t w hr hc (.inr (.inl (by omega)))
  · exact once_out A c l row f t w hr hc (.inl hi)
end Go.Proofs.Ytoemddjolfblbaa
