/- route.Join: its kind, and the table that is joined. -/
import Derived.Test.YtoemddjolfblbaaSB
/- route.Join. -/
set_option linter.unusedVariables false
set_option linter.unusedSimpArgs false
namespace Go.Proofs.Ytoemddjolfblbaa
open Go.RowKit Go.Proofs.YtoemddjolfblbaaW.PrintWords

def joinK (l : List Part) (at_ : ByteArray) : Int := if rightB l then (if isL l at_ && decide ((plI l at_).toNat ≠ 0) then 0 else 7) else 3
/-- The part ahead of i, ended as part i was. -/
def wider (l : List Part) (i : Nat) : Part := ⟨(pat l (i - 1)).from_, (pat l i).to_, (pat l (i - 1)).group⟩
def joinL (l : List Part) (i : Nat) : List Part := (l.set (i - 1) (wider l i)).eraseIdx i
def joinR (l : List Part) (at_ : ByteArray) : List Part := if joinK l at_ = 0 then joinL l (plI l at_).toNat else []

set_option maxHeartbeats 4000000 in
set_option maxRecDepth 100000 in
theorem join_yes (A : Option Addr) (c : Nat) (l : List Part) (at_ : ByteArray) (w : World) (hr : Kd.C kP w A l.length l) (hc : l.length ≤ c) (hl : l.length ≤ 999) (hR : rightB l = true) (hi : isL l at_ = true) (h0 : (plI l at_).toNat ≠ 0) :
    Calls Try.prog 22 #[.slice A l.length c, .string at_] w fun e w' => ∃ v, e = .returned (.tuple #[v, .int .i64 0]) ∧ Kd.R kP 27 w' w.heap.size (fun _ => True) v (joinL l (plI l at_).toNat) ∧ Below w.heap.size w w' := by
  have HR := Aside0.mk hr
  have HI := Aside0.mk hR
  have HIS := Aside0.mk hi
  clear hr hR hi
  obtain ⟨i, hp, hat, his⟩ := place_at ((rightB_iff l).1 HI.out) at_
  have hk : rightK l = 0 := by unfold rightK; rw [HI.out]; rfl
  rw [hp, Int.toNat_natCast] at h0 ⊢
  obtain ⟨m, rfl⟩ : ∃ m, i = m + 1 := ⟨i - 1, by omega⟩
  have hil := hat.lt
  have h3 : ((m : Int) + 1) < l.length := by omega
  have h4 : (m : Int) < l.length := by omega
  have HP := Aside0.mk hp
  have HK := Aside0.mk hk
  clear hp hat his hk h0
  go_enter Try.func22, Try.ntmps22
  go_wp2_with fail
  refine (right_any _ _ l _ HR.out (by omega)).mono ?_
  rintro e w1 ⟨rfl, hb1⟩
  rw [HK.out]
  have HW1 := Aside0.mk hb1
  clear hb1
  go_wp2_with fail
  refine (place_any _ _ l at_ _ (Kd.C_below HR.out HW1.out) hc (by omega)).mono ?_
  rintro e w2 ⟨rfl, hb2⟩
  rw [HP.out, HIS.out]
  have HW2 := Aside0.mk (HW1.out.trans (hb2.mono HW1.out.size))
  clear hb2
  have e0 : (((m + 1 : Nat) : Int) == 0) = false := ine (by omega)
  have e0' : ((m : Int) + 1 == 0) = false := ine (by omega)
  go_wp2_with fail
  refine (clone_any _ _ l _ (Kd.C_below HR.out HW2.out) (by omega)).mono ?_
  rintro e w3 ⟨v3, rfl, hr3, hb3⟩
  have HB3 := Aside0.mk (HW2.out.trans (hb3.mono HW2.out.size))
  have hr3' := Kd.R_lower hr3 HW2.out.size
  obtain ⟨g, cap, cur, rfl, _, _⟩ := own_at (R_flat hr3) (by omega)
  obtain ⟨q0, _, _, _⟩ := R_to (k := m + 1) hr3' hil (pat l (m + 1)).to_
  obtain ⟨q1, q2, hbg, hr4⟩ := R_to (k := m) hr3' (by omega) (pat l (m + 1)).to_
  have HR4 := Aside0.mk hr4
  have HB4 : Aside0 (Below w.heap.size w (w3.setCell ⟨g, m * 3 + 1, none⟩ (.string (pat l (m + 1)).to_))) := ⟨HB3.out.setCell hbg _⟩
  clear hr3 hb3 hr3' hr4 e0
  go_wp2_with fail
  refine (delete_any _ w.heap.size g l.length cap (m + 1) _ (by omega) _ HR4.out hil (by omega) HB4.out.size).mono ?_
  rintro e w5 ⟨v5, rfl, hr5, hb5⟩
  go_wp2_with fail
  go_ret2
  exact ⟨_, rfl, hr5, HB4.out.trans hb5⟩

def RetN (k : Int) (w : World) (e : Ending) (w' : World) : Prop := e = .returned (.tuple #[.slice none 0 0, .int .i64 k]) ∧ Below w.heap.size w w'
set_option maxHeartbeats 4000000 in
set_option maxRecDepth 100000 in
theorem join_no (A : Option Addr) (c : Nat) (l : List Part) (at_ : ByteArray) (w : World) (hr : Kd.C kP w A l.length l) (hc : l.length ≤ c) (hl : l.length ≤ 999) (h0 : joinK l at_ ≠ 0) :
    Calls Try.prog 22 #[.slice A l.length c, .string at_] w (RetN (joinK l at_) w) := by
  have HR := Aside0.mk hr
  clear hr
  rcases Bool.eq_false_or_eq_true (rightB l) with hR | hR
  · have hk : rightK l = 0 := by unfold rightK; rw [hR]; rfl
    have HK := Aside0.mk hk
    obtain ⟨i, hp, hat, his⟩ := place_at ((rightB_iff l).1 hR) at_
    clear hat his
    have hj : joinK l at_ = 7 ∧ ((isL l at_) && decide (i ≠ 0)) = false := by
      unfold joinK at h0 ⊢
      rw [hR, if_pos rfl] at h0 ⊢
      rw [hp, Int.toNat_natCast] at h0 ⊢
      rcases Bool.eq_false_or_eq_true ((isL l at_) && decide (i ≠ 0)) with h | h
      · rw [h] at h0; exact absurd rfl h0
      · rw [h]; exact ⟨rfl, rfl⟩
    rw [hj.1]
    have hj2 := hj.2
    have HP := Aside0.mk hp
    clear hj hp hk hR h0
    rcases Bool.eq_false_or_eq_true (isL l at_) with hi | hi
    · have hi0 : i = 0 := by
        rcases Nat.eq_zero_or_pos i with h | h
        · exact h
        · rw [hi, Bool.true_and, decide_eq_false_iff_not] at hj2
          omega
      subst hi0
      have HIS := Aside0.mk hi
      clear hi hj2
      go_enter Try.func22, Try.ntmps22
      go_wp2_with fail
      refine (right_any _ _ l _ HR.out (by omega)).mono ?_
      rintro e w1 ⟨rfl, hb1⟩
      rw [HK.out]
      have HW1 := Aside0.mk hb1
      clear hb1
      go_wp2_with fail
      refine (place_any _ _ l at_ _ (Kd.C_below HR.out HW1.out) hc (by omega)).mono ?_
      rintro e w2 ⟨rfl, hb2⟩
      rw [HP.out, HIS.out]
      have HW2 := Aside0.mk (HW1.out.trans (hb2.mono HW1.out.size))
      clear hb2
      go_wp2_with fail
      go_ret2
      exact ⟨rfl, HW2.out⟩
    · have HIS := Aside0.mk hi
      clear hi hj2
      go_enter Try.func22, Try.ntmps22
      go_wp2_with fail
      refine (right_any _ _ l _ HR.out (by omega)).mono ?_
      rintro e w1 ⟨rfl, hb1⟩
      rw [HK.out]
      have HW1 := Aside0.mk hb1
      clear hb1
      go_wp2_with fail
      refine (place_any _ _ l at_ _ (Kd.C_below HR.out HW1.out) hc (by omega)).mono ?_
      rintro e w2 ⟨rfl, hb2⟩
      rw [HP.out, HIS.out]
      have HW2 := Aside0.mk (HW1.out.trans (hb2.mono HW1.out.size))
      clear hb2
      go_wp2_with fail
      go_ret2
      exact ⟨rfl, HW2.out⟩
  · have hk : rightK l = 3 := by unfold rightK; rw [hR]; rfl
    have HK := Aside0.mk hk
    have hj : joinK l at_ = 3 := by unfold joinK; rw [hR]; rfl
    rw [hj]
    clear hj hk h0 hR
    go_enter Try.func22, Try.ntmps22
    go_wp2_with fail
    refine (right_any _ _ l _ HR.out (by omega)).mono ?_
    rintro e w1 ⟨rfl, hb1⟩
    rw [HK.out]
    go_wp2_with fail
    go_ret2
    exact ⟨rfl, hb1⟩
theorem join_any (A : Option Addr) (c : Nat) (l : List Part) (at_ : ByteArray) (w : World) (hr : Kd.C kP w A l.length l) (hc : l.length ≤ c) (hl : l.length ≤ 999) :
    Calls Try.prog 22 #[.slice A l.length c, .string at_] w fun e w' => ∃ v, e = .returned (.tuple #[v, .int .i64 (joinK l at_)]) ∧ Kd.R kP 27 w' w.heap.size (fun _ => True) v (joinR l at_) ∧ Below w.heap.size w w' := by
  by_cases h0 : joinK l at_ = 0
  · have h1 : joinR l at_ = joinL l (plI l at_).toNat := by unfold joinR; rw [if_pos h0]
    rw [h1, h0]
    have h2 : rightB l = true ∧ isL l at_ = true ∧ (plI l at_).toNat ≠ 0 := by
      unfold joinK at h0
      rcases Bool.eq_false_or_eq_true (rightB l) with hR | hR
      · rw [hR, if_pos rfl] at h0
        rcases Bool.eq_false_or_eq_true (isL l at_ && decide ((plI l at_).toNat ≠ 0)) with h | h
        · simp only [Bool.and_eq_true, decide_eq_true_eq] at h
          exact ⟨hR, h.1, h.2⟩
        · rw [h] at h0; simp at h0
      · rw [hR] at h0; simp at h0
    exact join_yes A c l at_ w hr hc hl h2.1 h2.2.1 h2.2.2
  · refine (join_no A c l at_ w hr hc hl h0).mono ?_
    rintro e w' ⟨rfl, hb⟩
    have h1 : joinR l at_ = [] := by unfold joinR; rw [if_neg h0]
    rw [h1]
    exact ⟨_, rfl, Kd.R_nil _ _ _ _ _, hb⟩
end Go.Proofs.Ytoemddjolfblbaa
