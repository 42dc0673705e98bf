/- RouteWhole, where it asks nothing. -/
import Derived.Test.YtoemddjolfblbaaSI
import Derived.Test.YtoemddjolfblbaaSJ
/- The law RouteWhole. -/
set_option linter.unusedVariables false
set_option linter.unusedSimpArgs false
namespace Go.Proofs.Ytoemddjolfblbaa
open Go.RowKit Go.Proofs.YtoemddjolfblbaaW.PrintWords

theorem R_empty {w w0 : World} (h : w0.heap.size ≤ w.heap.size) : Kd.R kP 27 (w.alloc (.cells #[] 27)) w0.heap.size (fun _ => True) (.slice (some ⟨w.heap.size, 0, none⟩) 0 0) [] :=
  R_mk' rfl ⟨rfl, .inr ⟨w.heap.size, 0, #[], rfl, h, heap_alloc_new w _, Nat.le_refl _, by unfold maxLen; omega, rfl, rfl⟩⟩
theorem kK_M {w w' : World} {base : Nat} {ok : Nat → Prop} : ∀ x cs, kP.K w x cs → kP.M w' base ok x cs := fun x cs h => by
  rw [kP_open h]
  exact kP_mkM _ _ _ x
theorem R_grp {w : World} {base e g n c k : Nat} {xs : List Part} (h : Kd.R kP e w base (fun _ => True) (.slice (some ⟨g, 0, none⟩) n c) xs) (hk : k < n) : w.cell? ⟨g, k * 3 + 2, none⟩ = some (.int .u64 (pat xs k).group) := by
  obtain ⟨hn, _, hC⟩ := Kd.R_reads' h
  obtain ⟨ad, he, _, _, _, c2⟩ := kP_at hC k (by omega)
  injection he with he
  subst he
  rw [add_off] at c2
  simpa using c2
theorem leb (a b : ByteArray) {x y : Bool} (h : belowB b a = x) (e : y = !x) : (Op.bytesLess a.toList b.toList || a.toList == b.toList) = y := by rw [leq_below, h, e]
set_option maxHeartbeats 4000000 in
set_option maxRecDepth 100000 in
theorem whole_out (A : Option Addr) (c : Nat) (l : List Part) (f m_ t : ByteArray) (w : World) (hr : Kd.C kP w A l.length l) (hc : l.length ≤ c) (h : lightB l = false ∨ 32 < f.size ∨ 32 < m_.size ∨ 32 < t.size ∨ rightB l = false) :
    Calls Try.prog 6 #[.slice A l.length c, .string f, .string m_, .string t] w (TrueB w) := by
  have HR := Aside0.mk hr
  clear hr
  rcases Bool.eq_false_or_eq_true (lightB l) with hi | hi
  · obtain ⟨s1, s2⟩ := light_sizes hi
    have HI := Aside0.mk hi
    by_cases hz : f.size ≤ 32
    · by_cases hy : m_.size ≤ 32
      · by_cases hx : t.size ≤ 32
        · have hR : rightB l = false := by
            rcases h with h | h | h | h | h
            · rw [hi] at h; cases h
            · omega
            · omega
            · omega
            · exact h
          have HRK : Aside0 (rightK l = 3) := ⟨by unfold rightK; rw [hR]; rfl⟩
          clear hi s2 h hR
          have e_f : decide ((32 : Int) < (f.size : Int)) = false := df (by omega)
          have e_f' : decide (32 < f.size) = false := df (by omega)
          have e_m_ : decide ((32 : Int) < (m_.size : Int)) = false := df (by omega)
          have e_m_' : decide (32 < m_.size) = false := df (by omega)
          have e_t : decide ((32 : Int) < (t.size : Int)) = false := df (by omega)
          have e_t' : decide (32 < t.size) = false := df (by omega)
          go_enter Try.func6, Try.ntmps6
          go_wp2_with fail
          refine (light_any _ _ l _ HR.out).mono ?_
          rintro e w1 ⟨rfl, rfl⟩
          rw [HI.out]
          go_wp2_with fail
          refine (own_any _ _ l _ HR.out (by omega)).mono ?_
          rintro e w1 ⟨v1, rfl, hr1, hb1⟩
          obtain ⟨A1, c1, rfl, hc1, hk1⟩ := Kd.R_reads hr1
          have HB1 := Aside0.mk hb1
          have HK1 := Aside0.mk hk1
          clear hr1 hb1 hk1
          go_wp2_with fail
          refine (right_any A1 c1 l _ HK1.out (by omega)).mono ?_
          rintro e w2 ⟨rfl, hb2⟩
          have HB2 := Aside0.mk (HB1.out.trans (hb2.mono HB1.out.size))
          clear hb2
          rw [HRK.out]
          go_wp2_with fail
          refine (alive_any _).mono ?_
          rintro e w11 ⟨rfl, hb11⟩
          go_wp2_with fail
          go_ret
          exact ⟨rfl, HB2.out.trans (hb11.mono HB2.out.size)⟩
        · clear h s2 hi
          have e_f : decide ((32 : Int) < (f.size : Int)) = false := df (by omega)
          have e_f' : decide (32 < f.size) = false := df (by omega)
          have e_m_ : decide ((32 : Int) < (m_.size : Int)) = false := df (by omega)
          have e_m_' : decide (32 < m_.size) = false := df (by omega)
          have e_t : decide ((32 : Int) < (t.size : Int)) = true := dt (by omega)
          have e_t' : decide (32 < t.size) = true := dt (by omega)
          go_enter Try.func6, Try.ntmps6
          go_wp2_with fail
          refine (light_any _ _ l _ HR.out).mono ?_
          rintro e w1 ⟨rfl, rfl⟩
          rw [HI.out]
          go_wp2_with fail
          refine (alive_any _).mono ?_
          rintro e w11 ⟨rfl, hb11⟩
          go_wp2_with fail
          go_ret
          exact ⟨rfl, hb11⟩
      · clear h s2 hi
        have e_f : decide ((32 : Int) < (f.size : Int)) = false := df (by omega)
        have e_f' : decide (32 < f.size) = false := df (by omega)
        have e_m_ : decide ((32 : Int) < (m_.size : Int)) = true := dt (by omega)
        have e_m_' : decide (32 < m_.size) = true := dt (by omega)
        go_enter Try.func6, Try.ntmps6
        go_wp2_with fail
        refine (light_any _ _ l _ HR.out).mono ?_
        rintro e w1 ⟨rfl, rfl⟩
        rw [HI.out]
        go_wp2_with fail
        refine (alive_any _).mono ?_
        rintro e w11 ⟨rfl, hb11⟩
        go_wp2_with fail
        go_ret
        exact ⟨rfl, hb11⟩
    · clear h s2 hi
      have e_f : decide ((32 : Int) < (f.size : Int)) = true := dt (by omega)
      have e_f' : decide (32 < f.size) = true := dt (by omega)
      go_enter Try.func6, Try.ntmps6
      go_wp2_with fail
      refine (light_any _ _ l _ HR.out).mono ?_
      rintro e w1 ⟨rfl, rfl⟩
      rw [HI.out]
      go_wp2_with fail
      refine (alive_any _).mono ?_
      rintro e w11 ⟨rfl, hb11⟩
      go_wp2_with fail
      go_ret
      exact ⟨rfl, hb11⟩
  · have HI := Aside0.mk hi
    clear hi h
    go_enter Try.func6, Try.ntmps6
    go_wp2_with fail
    refine (light_any _ _ l _ HR.out).mono ?_
    rintro e w1 ⟨rfl, rfl⟩
    rw [HI.out]
    go_wp2_with fail
    refine (alive_any _).mono ?_
    rintro e w11 ⟨rfl, hb11⟩
    go_wp2_with fail
    go_ret
    exact ⟨rfl, hb11⟩
set_option maxHeartbeats 4000000 in
set_option maxRecDepth 100000 in
theorem whole_no1 (A : Option Addr) (c : Nat) (l : List Part) (f m_ t : ByteArray) (w : World) (hr : Kd.C kP w A l.length l) (hc : l.length ≤ c) (hi : lightB l = true) (s1 : l.length ≤ 100) (hz : f.size ≤ 32) (hy : m_.size ≤ 32) (hx : t.size ≤ 32) (hR : rightB l = true) (q1 : belowB f m_ = false) :
    Calls Try.prog 6 #[.slice A l.length c, .string f, .string m_, .string t] w (TrueB w) := by
  have hL := (rightB_iff l).1 hR
  have HZ : Aside0 (∀ f t : ByteArray, f.size ≤ 32 → t.size ≤ 32 → coverK l f t = 0) := ⟨fun f t h1 h2 => (cover_zero hL h1 h2).1⟩
  have HALL : Aside0 (coverR l no0 no0 = l) := ⟨(cover_zero hL (by decide) (by decide)).2.trans (refG_all hL)⟩
  have HR := Aside0.mk hr
  have HI := Aside0.mk hi
  have HRK : Aside0 (rightK l = 0) := ⟨by unfold rightK; rw [hR]; rfl⟩
  have HRB := Aside0.mk hR
  clear hr hi hR hL
  have e_f : decide ((32 : Int) < (f.size : Int)) = false := df (by omega)
  have e_f' : decide (32 < f.size) = false := df (by omega)
  have e_m_ : decide ((32 : Int) < (m_.size : Int)) = false := df (by omega)
  have e_m_' : decide (32 < m_.size) = false := df (by omega)
  have e_t : decide ((32 : Int) < (t.size : Int)) = false := df (by omega)
  have e_t' : decide (32 < t.size) = false := df (by omega)
  have q1' := leb m_ f q1 (y := true) rfl
  go_enter Try.func6, Try.ntmps6
  go_wp2_with fail
  refine (light_any _ _ l _ HR.out).mono ?_
  rintro e w1 ⟨rfl, rfl⟩
  rw [HI.out]
  go_wp2_with fail
  refine (own_any _ _ l _ HR.out (by omega)).mono ?_
  rintro e w1 ⟨v1, rfl, hr1, hb1⟩
  obtain ⟨A1, c1, rfl, hc1, hk1⟩ := Kd.R_reads hr1
  have HB1 := Aside0.mk hb1
  have HK1 := Aside0.mk hk1
  clear hr1 hb1 hk1
  go_wp2_with fail
  refine (right_any A1 c1 l _ HK1.out (by omega)).mono ?_
  rintro e w2 ⟨rfl, hb2⟩
  have HB2 := Aside0.mk (HB1.out.trans (hb2.mono HB1.out.size))
  clear hb2
  rw [HRK.out]
  go_wp2_with fail
  refine (own_any _ _ l _ (Kd.C_below HR.out HB2.out) (by omega)).mono ?_
  rintro e w3 ⟨v3, rfl, hr3, hb3⟩
  obtain ⟨A3, c3, rfl, hc3, hk3⟩ := Kd.R_reads hr3
  have HB3 := Aside0.mk (HB2.out.trans (hb3.mono HB2.out.size))
  have HK3 := Aside0.mk hk3
  clear hr3 hb3 hk3
  go_wp2_with fail
  refine (cover_any A3 c3 l no0 no0 _ HK3.out hc3 (by omega) (by decide) (by decide)).mono ?_
  rintro e w4 ⟨v4, rfl, hr4, hb4⟩
  rw [HALL.out] at hr4
  rw [HZ.out no0 no0 (by decide) (by decide)]
  obtain ⟨A4, c4, rfl, hc4, hk4⟩ := Kd.R_reads hr4
  have HB4 := Aside0.mk (HB3.out.trans (hb4.mono HB3.out.size))
  have HK4 := Aside0.mk hk4
  clear hr4 hb4 hk4 HK3
  go_wp2_with fail
  refine (back_any A4 c4 l _ HK4.out (by omega)).mono ?_
  rintro e w5 ⟨v5, rfl, hr5, hb5⟩
  obtain ⟨A5, c5, rfl, hc5, hk5⟩ := Kd.R_reads hr5
  have HB5 := Aside0.mk (HB4.out.trans (hb5.mono HB4.out.size))
  have HK5 := Aside0.mk hk5
  clear hr5 hb5 hk5 HK4
  go_wp2_with fail
  refine (same_any A5 A c5 c l l _ HK5.out (Kd.C_below HR.out HB5.out) (by omega)).mono ?_
  rintro e w6 ⟨rfl, ⟨d6, rfl⟩⟩
  rw [same_refl]
  have HB6 := Aside0.mk (pw_drewN HB5.out d6)
  clear HK5
  go_wp2_with fail
  refine (alive_any _).mono ?_
  rintro e w13 ⟨rfl, hb13⟩
  go_wp2_with fail
  go_ret
  exact ⟨rfl, HB6.out.trans (hb13.mono HB6.out.size)⟩
set_option maxHeartbeats 4000000 in
set_option maxRecDepth 100000 in
theorem whole_no2 (A : Option Addr) (c : Nat) (l : List Part) (f m_ t : ByteArray) (w : World) (hr : Kd.C kP w A l.length l) (hc : l.length ≤ c) (hi : lightB l = true) (s1 : l.length ≤ 100) (hz : f.size ≤ 32) (hy : m_.size ≤ 32) (hx : t.size ≤ 32) (hR : rightB l = true) (q1 : belowB f m_ = true) (q2 : t.toList.isEmpty = false) (q3 : belowB m_ t = false) :
    Calls Try.prog 6 #[.slice A l.length c, .string f, .string m_, .string t] w (TrueB w) := by
  have hL := (rightB_iff l).1 hR
  have HZ : Aside0 (∀ f t : ByteArray, f.size ≤ 32 → t.size ≤ 32 → coverK l f t = 0) := ⟨fun f t h1 h2 => (cover_zero hL h1 h2).1⟩
  have HALL : Aside0 (coverR l no0 no0 = l) := ⟨(cover_zero hL (by decide) (by decide)).2.trans (refG_all hL)⟩
  have HR := Aside0.mk hr
  have HI := Aside0.mk hi
  have HRK : Aside0 (rightK l = 0) := ⟨by unfold rightK; rw [hR]; rfl⟩
  have HRB := Aside0.mk hR
  clear hr hi hR hL
  have e_f : decide ((32 : Int) < (f.size : Int)) = false := df (by omega)
  have e_f' : decide (32 < f.size) = false := df (by omega)
  have e_m_ : decide ((32 : Int) < (m_.size : Int)) = false := df (by omega)
  have e_m_' : decide (32 < m_.size) = false := df (by omega)
  have e_t : decide ((32 : Int) < (t.size : Int)) = false := df (by omega)
  have e_t' : decide (32 < t.size) = false := df (by omega)
  have q1' := leb m_ f q1 (y := false) rfl
  have q2' : (!t.toList.isEmpty) = true := by rw [q2]; rfl
  have q3' := leb t m_ q3 (y := true) rfl
  go_enter Try.func6, Try.ntmps6
  go_wp2_with fail
  refine (light_any _ _ l _ HR.out).mono ?_
  rintro e w1 ⟨rfl, rfl⟩
  rw [HI.out]
  go_wp2_with fail
  refine (own_any _ _ l _ HR.out (by omega)).mono ?_
  rintro e w1 ⟨v1, rfl, hr1, hb1⟩
  obtain ⟨A1, c1, rfl, hc1, hk1⟩ := Kd.R_reads hr1
  have HB1 := Aside0.mk hb1
  have HK1 := Aside0.mk hk1
  clear hr1 hb1 hk1
  go_wp2_with fail
  refine (right_any A1 c1 l _ HK1.out (by omega)).mono ?_
  rintro e w2 ⟨rfl, hb2⟩
  have HB2 := Aside0.mk (HB1.out.trans (hb2.mono HB1.out.size))
  clear hb2
  rw [HRK.out]
  go_wp2_with fail
  refine (own_any _ _ l _ (Kd.C_below HR.out HB2.out) (by omega)).mono ?_
  rintro e w3 ⟨v3, rfl, hr3, hb3⟩
  obtain ⟨A3, c3, rfl, hc3, hk3⟩ := Kd.R_reads hr3
  have HB3 := Aside0.mk (HB2.out.trans (hb3.mono HB2.out.size))
  have HK3 := Aside0.mk hk3
  clear hr3 hb3 hk3
  go_wp2_with fail
  refine (cover_any A3 c3 l no0 no0 _ HK3.out hc3 (by omega) (by decide) (by decide)).mono ?_
  rintro e w4 ⟨v4, rfl, hr4, hb4⟩
  rw [HALL.out] at hr4
  rw [HZ.out no0 no0 (by decide) (by decide)]
  obtain ⟨A4, c4, rfl, hc4, hk4⟩ := Kd.R_reads hr4
  have HB4 := Aside0.mk (HB3.out.trans (hb4.mono HB3.out.size))
  have HK4 := Aside0.mk hk4
  clear hr4 hb4 hk4 HK3
  go_wp2_with fail
  refine (back_any A4 c4 l _ HK4.out (by omega)).mono ?_
  rintro e w5 ⟨v5, rfl, hr5, hb5⟩
  obtain ⟨A5, c5, rfl, hc5, hk5⟩ := Kd.R_reads hr5
  have HB5 := Aside0.mk (HB4.out.trans (hb5.mono HB4.out.size))
  have HK5 := Aside0.mk hk5
  clear hr5 hb5 hk5 HK4
  go_wp2_with fail
  refine (same_any A5 A c5 c l l _ HK5.out (Kd.C_below HR.out HB5.out) (by omega)).mono ?_
  rintro e w6 ⟨rfl, ⟨d6, rfl⟩⟩
  rw [same_refl]
  have HB6 := Aside0.mk (pw_drewN HB5.out d6)
  clear HK5
  go_wp2_with fail
  refine (alive_any _).mono ?_
  rintro e w13 ⟨rfl, hb13⟩
  go_wp2_with fail
  go_ret
  exact ⟨rfl, HB6.out.trans (hb13.mono HB6.out.size)⟩
end Go.Proofs.Ytoemddjolfblbaa
