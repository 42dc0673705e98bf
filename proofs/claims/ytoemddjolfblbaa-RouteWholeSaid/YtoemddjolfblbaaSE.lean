/- The law RouteCuts at its call: true for every slice of parts, every cut and every group. -/
import Derived.Test.YtoemddjolfblbaaY
import Derived.Test.YtoemddjolfblbaaSA
import Derived.Test.YtoemddjolfblbaaSD
/- The law RouteCuts. -/
set_option linter.unusedVariables false
set_option linter.unusedSimpArgs false
namespace Go.Proofs.Ytoemddjolfblbaa
open Go.RowKit Go.Proofs.YtoemddjolfblbaaW.PrintWords

theorem splitR_len (l : List Part) (at_ : ByteArray) (g : Int) (h : l.length ≤ 900) : (splitR l at_ g).length ≤ 999 := by
  unfold splitR cutL
  split
  · simp
    omega
  · simp
theorem joinR_len (l : List Part) (at_ : ByteArray) (h : l.length ≤ 900) : (joinR l at_).length ≤ 999 := by
  unfold joinR joinL
  split
  · refine Nat.le_trans (List.length_eraseIdx_le _ _) ?_
    simp
    omega
  · simp

set_option maxHeartbeats 4000000 in
set_option maxRecDepth 100000 in
theorem cuts_any (A : Option Addr) (c : Nat) (l : List Part) (at_ : ByteArray) (g : Int) (w : World) (hr : Kd.C kP w A l.length l) (hc : l.length ≤ c) :
    Calls Try.prog 7 #[.slice A l.length c, .string at_, .int .u64 g] w (TrueB w) := by
  have HR := Aside0.mk hr
  clear hr
  rcases Bool.eq_false_or_eq_true (lightB l) with hi | hi
  · obtain ⟨s1, s2⟩ := light_sizes hi
    have HS := Aside0.mk s2
    have HI := Aside0.mk hi
    clear hi s2
    by_cases hz : at_.size ≤ 200
    · have d1 : decide ((200 : Int) < (at_.size : Int)) = false := df (by omega)
      have d1' : decide (200 < at_.size) = false := df (by omega)
      have HF : Aside0 (∀ k, k < l.length → (pat l k).from_.size ≤ 1000000 ∧ (pat l k).to_.size ≤ 1000000) := ⟨fun k hk => ⟨Nat.le_trans (HS.out k hk).1 (by omega), Nat.le_trans (HS.out k hk).2 (by omega)⟩⟩
      go_enter Try.func7, Try.ntmps7
      go_wp2_with fail
      refine (light_any _ _ l _ HR.out).mono ?_
      rintro e w1 ⟨rfl, rfl⟩
      rw [HI.out]
      go_wp2_with fail
      refine (own_any _ _ l _ HR.out (by omega)).mono ?_
      rintro e w1 ⟨v1, rfl, hr1, hb1⟩
      obtain ⟨A1, c1, rfl, hc1, hk1⟩ := Kd.R_reads hr1
      have HB1 := Aside0.mk hb1
      have HK1 := Aside0.mk hk1
      clear hr1 hb1 hk1
      go_wp2_with fail
      refine (split_any A1 c1 l at_ g _ HK1.out hc1 (by omega) (by omega)).mono ?_
      rintro e w2 ⟨v2, rfl, hr2, hb2⟩
      obtain ⟨A2, c2, rfl, hc2, hk2⟩ := Kd.R_reads hr2
      have HB2 := Aside0.mk (HB1.out.trans (hb2.mono HB1.out.size))
      have HK2 := Aside0.mk hk2
      clear hr2 hb2 hk2
      have hlen := splitR_len l at_ g (by omega)
      obtain ⟨q, hq⟩ : ∃ q, splitR l at_ g = q := ⟨_, rfl⟩
      obtain ⟨kk, hkk⟩ : ∃ kk, splitK l at_ g = kk := ⟨_, rfl⟩
      have HQ := Aside0.mk hq
      have HKK := Aside0.mk hkk
      rw [hq] at HK2 hc2 hlen
      rw [hq, hkk]
      clear hq hkk
      go_wp2_with fail
      refine (rsplit_any A c l at_ g _ (Kd.C_below HR.out HB2.out) (by omega) HF.out (by omega)).mono ?_
      rintro e w3 ⟨v3, rfl, hr3, hb3⟩
      rw [HQ.out] at hr3
      rw [HKK.out]
      obtain ⟨A3, c3, rfl, hc3, hk3⟩ := Kd.R_reads hr3
      have HB3 := Aside0.mk (HB2.out.trans (hb3.mono HB2.out.size))
      have HK3 := Aside0.mk hk3
      have HK23 := Aside0.mk (Kd.C_below HK2.out hb3)
      clear hr3 hb3 hk3 HK2
      go_wp2_with fail
      refine (own_any _ _ l _ (Kd.C_below HR.out HB3.out) (by omega)).mono ?_
      rintro e w4 ⟨v4, rfl, hr4, hb4⟩
      obtain ⟨A4, c4, rfl, hc4, hk4⟩ := Kd.R_reads hr4
      have HB4 := Aside0.mk (HB3.out.trans (hb4.mono HB3.out.size))
      have HK4 := Aside0.mk hk4
      have HK24 := Aside0.mk (Kd.C_below HK23.out hb4)
      have HK34 := Aside0.mk (Kd.C_below HK3.out hb4)
      clear hr4 hb4 hk4 HK23 HK3
      go_wp2_with fail
      refine (join_any A4 c4 l at_ _ HK4.out hc4 (by omega)).mono ?_
      rintro e w5 ⟨v5, rfl, hr5, hb5⟩
      obtain ⟨A5, c5, rfl, hc5, hk5⟩ := Kd.R_reads hr5
      have HB5 := Aside0.mk (HB4.out.trans (hb5.mono HB4.out.size))
      have HK5 := Aside0.mk hk5
      have HK25 := Aside0.mk (Kd.C_below HK24.out hb5)
      have HK35 := Aside0.mk (Kd.C_below HK34.out hb5)
      clear hr5 hb5 hk5 HK24 HK34 HK4
      have hlen2 := joinR_len l at_ (by omega)
      obtain ⟨q2, hq2⟩ : ∃ q2, joinR l at_ = q2 := ⟨_, rfl⟩
      obtain ⟨kk2, hkk2⟩ : ∃ kk2, joinK l at_ = kk2 := ⟨_, rfl⟩
      have HQ2 := Aside0.mk hq2
      have HKK2 := Aside0.mk hkk2
      rw [hq2] at HK5 hc5 hlen2
      rw [hq2, hkk2]
      clear hq2 hkk2
      go_wp2_with fail
      refine (rjoin_any A c l at_ _ (Kd.C_below HR.out HB5.out) (by omega) HF.out).mono ?_
      rintro e w6 ⟨v6, rfl, hr6, hb6⟩
      rw [HQ2.out] at hr6
      rw [HKK2.out]
      obtain ⟨A6, c6, rfl, hc6, hk6⟩ := Kd.R_reads hr6
      have HB6 := Aside0.mk (HB5.out.trans (hb6.mono HB5.out.size))
      have HK6 := Aside0.mk hk6
      have HK26 := Aside0.mk (Kd.C_below HK25.out hb6)
      have HK36 := Aside0.mk (Kd.C_below HK35.out hb6)
      have HK56 := Aside0.mk (Kd.C_below HK5.out hb6)
      clear hr6 hb6 hk6 HK25 HK35 HK5
      go_wp2_with fail
      refine (back_any A2 c2 q _ HK26.out (by omega)).mono ?_
      rintro e w7 ⟨v7, rfl, hr7, hb7⟩
      obtain ⟨A7, c7, rfl, hc7, hk7⟩ := Kd.R_reads hr7
      have HB7 := Aside0.mk (HB6.out.trans (hb7.mono HB6.out.size))
      have HK7 := Aside0.mk hk7
      have HK37 := Aside0.mk (Kd.C_below HK36.out hb7)
      have HK57 := Aside0.mk (Kd.C_below HK56.out hb7)
      have HK67 := Aside0.mk (Kd.C_below HK6.out hb7)
      clear hr7 hb7 hk7 HK26 HK36 HK56 HK6
      go_wp2_with fail
      refine (same_any A7 A3 c7 c3 q q _ HK7.out HK37.out (by omega)).mono ?_
      rintro e w8 ⟨rfl, ⟨d8, rfl⟩⟩
      rw [same_refl]
      have HB8 := Aside0.mk (pw_drewN (Below.refl w7.heap.size w7) d8)
      go_wp2_with fail
      refine (back_any A5 c5 q2 _ (Kd.C_below HK57.out HB8.out) (by omega)).mono ?_
      rintro e w9 ⟨v9, rfl, hr9, hb9⟩
      obtain ⟨A9, c9, rfl, hc9, hk9⟩ := Kd.R_reads hr9
      have HB9 := Aside0.mk ((pw_drewN HB7.out d8).trans (hb9.mono HB7.out.size))
      have HK9 := Aside0.mk hk9
      have HK69 := Aside0.mk (Kd.C_below (Kd.C_below HK67.out HB8.out) hb9)
      clear hr9 hb9 hk9 HK67 HK57
      go_wp2_with fail
      refine (same_any A9 A6 c9 c6 q2 q2 _ HK9.out HK69.out (by omega)).mono ?_
      rintro e w10 ⟨rfl, ⟨d10, rfl⟩⟩
      rw [same_refl]
      go_wp2_with fail
      refine (alive_any _).mono ?_
      rintro e w11 ⟨rfl, hb11⟩
      go_wp2_with fail
      go_ret
      exact ⟨rfl, (pw_drewN HB9.out d10).trans (hb11.mono HB9.out.size)⟩
    · have d1 : decide ((200 : Int) < (at_.size : Int)) = true := dt (by omega)
      have d1' : decide (200 < at_.size) = true := dt (by omega)
      go_enter Try.func7, Try.ntmps7
      go_wp2_with fail
      refine (light_any _ _ l _ HR.out).mono ?_
      rintro e w1 ⟨rfl, rfl⟩
      rw [HI.out]
      go_wp2_with fail
      refine (alive_any _).mono ?_
      rintro e w11 ⟨rfl, hb11⟩
      go_wp2_with fail
      go_ret
      exact ⟨rfl, hb11⟩
  · have HI := Aside0.mk hi
    clear hi
    go_enter Try.func7, Try.ntmps7
    go_wp2_with fail
    refine (light_any _ _ l _ HR.out).mono ?_
    rintro e w1 ⟨rfl, rfl⟩
    rw [HI.out]
    go_wp2_with fail
    refine (alive_any _).mono ?_
    rintro e w11 ⟨rfl, hb11⟩
    go_wp2_with fail
    go_ret
    exact ⟨rfl, hb11⟩
end Go.Proofs.Ytoemddjolfblbaa
