/- The law RouteCovers at its call: true for every slice of parts and every pair of rows. -/
import Derived.Test.YtoemddjolfblbaaR
import Derived.Test.YtoemddjolfblbaaV
/- The law RouteCovers. -/
set_option linter.unusedVariables false
set_option linter.unusedSimpArgs false
namespace Go.Proofs.Ytoemddjolfblbaa
open Go.RowKit Go.Proofs.YtoemddjolfblbaaW.PrintWords

theorem same_refl (l : List Part) : sameB l l = true := by
  simp [sameB, allB_yes, partEq]
theorem covG_len (f t : ByteArray) : ∀ l : List Part, (covG l f t).length ≤ l.length := by
  intro l
  induction l with
  | nil => simp [covG]
  | cons x l ih => simp only [covG]; split <;> simp <;> omega
theorem coverR_len (l : List Part) (f t : ByteArray) : (coverR l f t).length ≤ l.length := by
  unfold coverR
  split
  · exact Nat.le_trans (covG_len _ _ _) (by simp)
  · simp

set_option maxHeartbeats 2000000 in
set_option maxRecDepth 100000 in
theorem covers_any (A : Option Addr) (c : Nat) (l : List Part) (f t : ByteArray) (w : World) (hr : Kd.C kP w A l.length l) (hc : l.length ≤ c) :
    Calls Try.prog 4 #[.slice A l.length c, .string f, .string t] w (TrueB w) := by
  have HR := Aside0.mk hr
  clear hr
  rcases Bool.eq_false_or_eq_true (lightB l) with hi | hi
  · obtain ⟨s1, s2⟩ := light_sizes hi
    have HS := Aside0.mk s2
    have HI := Aside0.mk hi
    clear hi s2
    by_cases hz : f.size ≤ 200
    · have d1 : decide ((200 : Int) < (f.size : Int)) = false := df (by omega)
      have d1' : decide (200 < f.size) = false := df (by omega)
      by_cases hy : t.size ≤ 200
      · have d2 : decide ((200 : Int) < (t.size : Int)) = false := df (by omega)
        have d2' : decide (200 < t.size) = false := df (by omega)
        have HF : Aside0 (∀ k, k < l.length → (pat l k).from_.size ≤ 1000000 ∧ (pat l k).to_.size ≤ 1000000) := ⟨fun k hk => ⟨Nat.le_trans (HS.out k hk).1 (by omega), Nat.le_trans (HS.out k hk).2 (by omega)⟩⟩
        go_enter Try.func4, Try.ntmps4
        go_wp2_with fail
        refine (light_any _ _ l _ HR.out).mono ?_
        rintro e w1 ⟨rfl, rfl⟩
        rw [HI.out]
        go_wp2_with fail
        refine (own_any _ _ l _ HR.out (by omega)).mono ?_
        rintro e w1 ⟨v1, rfl, hr1, hb1⟩
        obtain ⟨A1, c1, rfl, hc1, hk1⟩ := Kd.R_reads hr1
        have HB1 := Aside0.mk hb1
        have HK1 := Aside0.mk hk1
        clear hr1 hb1 hk1
        go_wp2_with fail
        refine (cover_any A1 c1 l f t _ HK1.out hc1 (by omega) (by omega) (by omega)).mono ?_
        rintro e w2 ⟨v2, rfl, hr2, hb2⟩
        obtain ⟨A2, c2, rfl, hc2, hk2⟩ := Kd.R_reads hr2
        have HB2 := Aside0.mk (HB1.out.trans (hb2.mono HB1.out.size))
        have HK2 := Aside0.mk hk2
        clear hr2 hb2 hk2
        have hlen : (coverR l f t).length ≤ 1000 := Nat.le_trans (coverR_len l f t) (by omega)
        have HE : Aside0 (refCoverR l f t = coverR l f t) := ⟨(cover_eq l f t).symm⟩
        generalize hq : coverR l f t = q at HE hlen HK2 hc2 ⊢
        clear hq
        obtain ⟨kk, hkk⟩ : ∃ kk, coverK l f t = kk := ⟨_, rfl⟩
        have HKK := Aside0.mk hkk
        rw [hkk]
        clear hkk
        go_wp2_with fail
        refine (rcover_any A c l f t _ (Kd.C_below HR.out HB2.out) (by omega) HF.out (by omega) (by omega)).mono ?_
        rintro e w3 ⟨v3, rfl, hr3, hb3⟩
        rw [HE.out] at hr3
        rw [HKK.out]
        obtain ⟨A3, c3, rfl, hc3, hk3⟩ := Kd.R_reads hr3
        have HB3 := Aside0.mk (HB2.out.trans (hb3.mono HB2.out.size))
        have HK3 := Aside0.mk hk3
        have HK2' := Aside0.mk (Kd.C_below HK2.out hb3)
        clear hr3 hb3 hk3 HK2
        go_wp2_with fail
        refine (back_any A2 c2 q _ HK2'.out hlen).mono ?_
        rintro e w4 ⟨v4, rfl, hr4, hb4⟩
        obtain ⟨A4, c4, rfl, hc4, hk4⟩ := Kd.R_reads hr4
        have HB4 := Aside0.mk (HB3.out.trans (hb4.mono HB3.out.size))
        have HK4 := Aside0.mk hk4
        have HK3' := Aside0.mk (Kd.C_below HK3.out hb4)
        clear hr4 hb4 hk4 HK3
        go_wp2_with fail
        refine (same_any A4 A3 c4 c3 q q _ HK4.out HK3'.out (by omega)).mono ?_
        rintro e w5 ⟨rfl, ⟨d5, rfl⟩⟩
        rw [same_refl]
        go_wp2_with fail
        refine (alive_any _).mono ?_
        rintro e w6 ⟨rfl, hb6⟩
        go_wp2_with fail
        go_ret
        exact ⟨rfl, (pw_drewN HB4.out d5).trans (hb6.mono HB4.out.size)⟩
      · have d2 : decide ((200 : Int) < (t.size : Int)) = true := dt (by omega)
        have d2' : decide (200 < t.size) = true := dt (by omega)
        go_enter Try.func4, Try.ntmps4
        go_wp2_with fail
        refine (light_any _ _ l _ HR.out).mono ?_
        rintro e w1 ⟨rfl, rfl⟩
        rw [HI.out]
        go_wp2_with fail
        refine (alive_any _).mono ?_
        rintro e w11 ⟨rfl, hb11⟩
        go_wp2_with fail
        go_ret
        exact ⟨rfl, hb11⟩
    · have d1 : decide ((200 : Int) < (f.size : Int)) = true := dt (by omega)
      have d1' : decide (200 < f.size) = true := dt (by omega)
      go_enter Try.func4, Try.ntmps4
      go_wp2_with fail
      refine (light_any _ _ l _ HR.out).mono ?_
      rintro e w1 ⟨rfl, rfl⟩
      rw [HI.out]
      go_wp2_with fail
      refine (alive_any _).mono ?_
      rintro e w11 ⟨rfl, hb11⟩
      go_wp2_with fail
      go_ret
      exact ⟨rfl, hb11⟩
  · have HI := Aside0.mk hi
    clear hi
    go_enter Try.func4, Try.ntmps4
    go_wp2_with fail
    refine (light_any _ _ l _ HR.out).mono ?_
    rintro e w1 ⟨rfl, rfl⟩
    rw [HI.out]
    go_wp2_with fail
    refine (alive_any _).mono ?_
    rintro e w11 ⟨rfl, hb11⟩
    go_wp2_with fail
    go_ret
    exact ⟨rfl, hb11⟩
end Go.Proofs.Ytoemddjolfblbaa
