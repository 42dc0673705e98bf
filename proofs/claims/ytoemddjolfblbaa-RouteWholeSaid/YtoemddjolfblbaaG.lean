/- Right of the reference: true just of a right table. -/
import Derived.Test.YtoemddjolfblbaaF
set_option linter.unusedVariables false
set_option linter.unusedSimpArgs false
namespace Go.Proofs.Ytoemddjolfblbaa
open Go.RowKit Go.Proofs.YtoemddjolfblbaaW.PrintWords

theorem quiet_drawn {P : Program} {f : FuncId} {args : Array Value} {w : World} {a n : Nat} {v : Value}
    (h : Calls P f args (w.drewN (a + n)) fun e w' => e = .returned v ∧ ∃ m, w' = (w.drewN (a + n)).drewN m) :
    Calls P f args (w.drewN (a + n)) fun e w'' => e = .returned v ∧ ∃ m, w'' = w.drewN (a + m) :=
  h.mono fun _ _ ⟨he, m, hm⟩ => ⟨he, n + m, by rw [hm, World.drewN_drewN, Nat.add_assoc]⟩
theorem rightB_no {l : List Part} {k : Nat} (hk : k < l.length) (h : okB l k = false) : false = rightB l := by
  unfold rightB
  rw [allB_no hk h]
  simp
theorem rightB_head {l : List Part} (h : headB l = false) : false = rightB l := by simp [rightB, h]
theorem Drawn0.ex {w w' : World} (h : Drawn0 w w') : ∃ n, w' = w.drewN n := h.out

set_option maxHeartbeats 2000000 in
set_option maxRecDepth 100000 in
theorem rright_loop (A : Option Addr) (c : Nat) (l : List Part) (w : World) (hr : Kd.C kP w A l.length l) (hs : ∀ k, k < l.length → (pat l k).from_.size ≤ 1000000) (hh : headB l = true) :
    Calls Try.prog 15 #[.slice A l.length c] w fun e w' => e = .returned (.bool (rightB l)) ∧ Drawn0 w w' := by
  have HR := Aside0.mk hr
  have HZ := Aside0.mk hs
  have HD := Aside0.mk hh
  simp only [headB, Bool.and_eq_true, decide_eq_true_eq] at hh
  obtain ⟨⟨⟨g1, g2⟩, g3⟩, g4⟩ := hh
  clear hr hs
  have e1 : decide ((l.length : Int) < 1) = false := df (by omega)
  have e1' : ¬ ((l.length : Int) < 1) := by omega
  have e2 : (0 : Int) < (l.length : Int) := by omega
  have e3 : (0 : Int) ≤ (l.length : Int) - 1 := by omega
  have e4 : ((l.length : Int) - 1) < l.length := by omega
  obtain ⟨n, hn⟩ : ∃ n : Nat, l.length = n + 1 := ⟨l.length - 1, by omega⟩
  have hn' : (l.length : Int) - 1 = n := by omega
  obtain ⟨ad, rfl, HH0⟩ := kP_hold HR.out 0 (by omega)
  obtain ⟨a0, a1, a2⟩ := HH0.out _ (Below.refl _ _)
  simp only [Nat.zero_mul, Addr.add, if_true] at a0 a1 a2
  have e5 : decide ((64 : Int) < (l.length : Int)) = false := df (by omega)
  have g4' : (pat l n).to_.toList.isEmpty = true := by rw [hn] at g4; exact g4
  have HN := Aside0.mk hn
  clear hn g4
  obtain ⟨ad', hadd, HH1⟩ := kP_hold HR.out n (by have := HN.out; omega)
  obtain rfl : ad = ad' := by injection hadd
  clear hadd
  obtain ⟨b0, b1, b2⟩ := HH1.out _ (Below.refl _ _)
  go_enter Try.func15, Try.ntmps15
  go_wp2_with fail
  clear a0 a1 a2 b0 b1 b2 e1 e3 e4 e5 hn' g3 g4'
  go_loopw [3] (fun vi w' => ∃ i : Nat, i ≤ l.length ∧ vi = .int .i64 i ∧ Aside0 (∀ k, k < i → okB l k = true) ∧ ∃ d, w' = w.drewN d) (fun vi _ => l.length - (intOf vi).toNat)
  case atStart => exact ⟨0, by omega, rfl, ⟨fun k hk => absurd hk (by omega)⟩, 0, rfl⟩
  case round =>
    obtain ⟨i, hi, rfl, HS, d, rfl⟩ := hrel
    have HB : Aside0 (Below w.heap.size w (w.drewN d)) := ⟨pw_drewN (Below.refl _ _) d⟩
    have HD' : ∀ m, Drawn0 w (w.drewN m) := fun m => ⟨⟨m, rfl⟩⟩
    by_cases hlt : i < l.length
    · have h3 : (i : Int) < l.length := by omega
      obtain ⟨ad', hadd, HI⟩ := kP_hold HR.out i hlt
      obtain rfl : ad = ad' := by injection hadd
      clear hadd
      obtain ⟨c0, c1, c2⟩ := HI.out _ (Below.refl _ _)
      by_cases t1 : (pat l i).group = 0
      · have t1' : ((pat l i).group == 0) = true := ieq t1
        have ho : okB l i = false := by simp [okB, t1]
        clear t1
        go_wp2_with fail
        go_quiet (fail)
        go_wp2_with fail
        go_ret
        first | exact ⟨ret_bool (rightB_no hlt ho), (HD' _).step _⟩ | exact ⟨ret_bool (rightB_no hlt ho), HD' _⟩
      · have t1' : ((pat l i).group == 0) = false := ine t1
        by_cases t2 : (pat l i).from_.size ≤ 32
        · by_cases t3 : i = 0
          · have d0 : decide ((0 : Int) < (i : Int)) = false := df (by omega)
            have d0' : decide (0 < i) = false := df (by omega)
            have ho : okB l i = true := by unfold okB; rw [t1', dt t2, dt t3]; rfl
            have d1 : decide (32 < (pat l i).from_.size) = false := df (by omega)
            have d1' : decide ((32 : Int) < ((pat l i).from_.size : Int)) = false := df (by omega)
            clear t3 t1
            go_wp2_with fail
            go_quiet (fail)
            go_wp2_with fail
            go_roundw
            case rel => exact ⟨i + 1, by omega, by go_num, ⟨fun k hk => by
              rcases Nat.lt_or_ge k i with h | h
              · exact HS.out k h
              · obtain rfl : k = i := by omega
                exact ho⟩, _, rfl⟩
            case measure => simp [intOf]; omega
          · obtain ⟨m, hm, hm'⟩ : ∃ m, i = m + 1 ∧ (i : Int) - 1 = m := ⟨i - 1, by omega, by omega⟩
            obtain ⟨ad', hadd, HJ⟩ := kP_hold HR.out m (by omega)
            obtain rfl : ad = ad' := by injection hadd
            clear hadd
            obtain ⟨f0, f1, f2⟩ := HJ.out _ (Below.refl _ _)
            have d0 : decide ((0 : Int) < (i : Int)) = true := dt (by omega)
            have d0' : decide (0 < i) = true := dt (by omega)
            have d1 : decide (32 < (pat l i).from_.size) = false := df (by omega)
            have d1' : decide ((32 : Int) < ((pat l i).from_.size : Int)) = false := df (by omega)
            have d2 : (0 : Int) ≤ (i : Int) - 1 := by omega
            have z1 := HZ.out m (by omega)
            have z2 := HZ.out i (by omega)
            have HM := Aside0.mk hm
            clear hm t3 t1
            by_cases u1 : ((pat l i).from_.toList == (pat l m).to_.toList) = true
            · have u2 : ((pat l i).from_.toList != (pat l m).to_.toList) = false := by simpa using u1
              by_cases u3 : belowB (pat l m).from_ (pat l i).from_ = true
              · have ho : okB l i = true := by unfold okB; rw [t1', dt t2, HM.out, Nat.add_sub_cancel, ← HM.out, u1, u3]; simp
                go_wp2_with fail
                go_quiet ((go_at_call 26; exact quiet_drawn (below_any _ _ _ (by assumption) (by assumption))))
                go_wp2_with fail
                go_roundw
                case rel => exact ⟨i + 1, by omega, by go_num, ⟨fun k hk => by
                  rcases Nat.lt_or_ge k i with h | h
                  · exact HS.out k h
                  · obtain rfl : k = i := by omega
                    exact ho⟩, _, rfl⟩
                case measure => simp [intOf]; omega
              · have u3' : belowB (pat l m).from_ (pat l i).from_ = false := by simpa using u3
                have ho : okB l i = false := by unfold okB; rw [t1', dt t2, HM.out, Nat.add_sub_cancel, ← HM.out, u1, u3']; simp; have := HM.out; omega
                clear u3
                go_wp2_with fail
                go_quiet ((go_at_call 26; exact quiet_drawn (below_any _ _ _ (by assumption) (by assumption))))
                go_wp2_with fail
                go_ret
                first | exact ⟨ret_bool (rightB_no hlt ho), (HD' _).step _⟩ | exact ⟨ret_bool (rightB_no hlt ho), HD' _⟩
            · have u1' : ((pat l i).from_.toList == (pat l m).to_.toList) = false := by simpa using u1
              have u2 : ((pat l i).from_.toList != (pat l m).to_.toList) = true := by simpa using u1
              have ho : okB l i = false := by unfold okB; rw [t1', dt t2, HM.out, Nat.add_sub_cancel, ← HM.out, u1']; simp; have := HM.out; omega
              clear u1
              go_wp2_with fail
              go_quiet (fail)
              go_wp2_with fail
              go_ret
              first | exact ⟨ret_bool (rightB_no hlt ho), (HD' _).step _⟩ | exact ⟨ret_bool (rightB_no hlt ho), HD' _⟩
        · have t2' : decide (32 < (pat l i).from_.size) = true := dt (by omega)
          have d1' : decide ((32 : Int) < ((pat l i).from_.size : Int)) = true := dt (by omega)
          have ho : okB l i = false := by simp [okB, t2]
          go_wp2_with fail
          go_quiet (fail)
          go_wp2_with fail
          go_ret
          first | exact ⟨ret_bool (rightB_no hlt ho), (HD' _).step _⟩ | exact ⟨ret_bool (rightB_no hlt ho), HD' _⟩
    · obtain rfl : i = l.length := by omega
      go_wp2_with fail
      go_ret
      exact ⟨ret_bool (by unfold rightB; rw [allB_yes HS.out, HD.out]; rfl), HD' _⟩

set_option maxHeartbeats 2000000 in
set_option maxRecDepth 100000 in
theorem rright_any (A : Option Addr) (c : Nat) (l : List Part) (w : World) (hr : Kd.C kP w A l.length l) (hl : l.length ≤ 1000000) (hs : ∀ k, k < l.length → (pat l k).from_.size ≤ 1000000) :
    Calls Try.prog 15 #[.slice A l.length c] w fun e w' => e = .returned (.bool (rightB l)) ∧ Drawn0 w w' := by
  by_cases h1 : l.length = 0
  · have hh := Aside0.mk (rightB_head (l := l) (by simp [headB, h1]))
    have e1 : decide ((l.length : Int) < 1) = true := dt (by omega)
    have e1' : (l.length : Int) < 1 := by omega
    clear hr hs
    go_enter Try.func15, Try.ntmps15
    go_wp2_with fail
    go_ret
    exact ⟨ret_bool hh.out, Drawn0.refl _⟩
  have e1 : decide ((l.length : Int) < 1) = false := df (by omega)
  have e1' : ¬ ((l.length : Int) < 1) := by omega
  by_cases h2 : l.length ≤ 64
  · have e5 : decide ((64 : Int) < (l.length : Int)) = false := df (by omega)
    by_cases h3 : (pat l 0).from_.toList.isEmpty = true
    · by_cases h4 : (pat l (l.length - 1)).to_.toList.isEmpty = true
      · exact rright_loop A c l w hr hs (headB_of (by omega) h2 h3 h4)
      · have h4' : (pat l (l.length - 1)).to_.toList.isEmpty = false := by simpa using h4
        have hh := Aside0.mk (rightB_head (l := l) (by simp [headB, h4']))
        have HR := Aside0.mk hr
        clear hr hs h4
        have e2 : (0 : Int) < (l.length : Int) := by omega
        have e3 : (0 : Int) ≤ (l.length : Int) - 1 := by omega
        have e4 : ((l.length : Int) - 1) < l.length := by omega
        obtain ⟨n, hn⟩ : ∃ n : Nat, l.length = n + 1 := ⟨l.length - 1, by omega⟩
        have hn' : (l.length : Int) - 1 = n := by omega
        obtain ⟨ad, rfl, HH0⟩ := kP_hold HR.out 0 (by omega)
        obtain ⟨a0, a1, a2⟩ := HH0.out _ (Below.refl _ _)
        simp only [Nat.zero_mul, Addr.add, if_true] at a0 a1 a2
        have g4' : (pat l n).to_.toList.isEmpty = false := by rw [hn] at h4'; exact h4'
        have HN := Aside0.mk hn
        clear hn h4'
        obtain ⟨ad', hadd, HH1⟩ := kP_hold HR.out n (by have := HN.out; omega)
        obtain rfl : ad = ad' := by injection hadd
        clear hadd
        obtain ⟨b0, b1, b2⟩ := HH1.out _ (Below.refl _ _)
        go_enter Try.func15, Try.ntmps15
        go_wp2_with fail
        go_ret
        exact ⟨ret_bool hh.out, Drawn0.refl _⟩
    · have h3' : (pat l 0).from_.toList.isEmpty = false := by simpa using h3
      have hh := Aside0.mk (rightB_head (l := l) (by simp [headB, h3']))
      clear h3
      have e2 : (0 : Int) < (l.length : Int) := by omega
      obtain ⟨ad, rfl, HH0⟩ := kP_hold hr 0 (by omega)
      obtain ⟨a0, a1, a2⟩ := HH0.out _ (Below.refl _ _)
      simp only [Nat.zero_mul, Addr.add, if_true] at a0 a1 a2
      clear hr hs
      go_enter Try.func15, Try.ntmps15
      go_wp2_with fail
      go_ret
      exact ⟨ret_bool hh.out, Drawn0.refl _⟩
  · have hh := Aside0.mk (rightB_head (l := l) (by simp [headB, h2]))
    have e5 : decide ((64 : Int) < (l.length : Int)) = true := dt (by omega)
    clear hr hs
    go_enter Try.func15, Try.ntmps15
    go_wp2_with fail
    go_ret
    exact ⟨ret_bool hh.out, Drawn0.refl _⟩
end Go.Proofs.Ytoemddjolfblbaa
