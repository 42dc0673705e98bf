/- route.Right: OK just of a right table, else BadForm. -/
import Derived.Test.YtoemddjolfblbaaE
import Derived.Lib.Strings
set_option linter.unusedVariables false
set_option linter.unusedSimpArgs false
namespace Go.Proofs.Ytoemddjolfblbaa
open Go.RowKit Go.Proofs.YtoemddjolfblbaaW.PrintWords

theorem less_below (a b : ByteArray) : Op.bytesLess a.toList b.toList = belowB a b := by
  rw [(bytesLess_cmpL a.toList b.toList).1]
  unfold belowB cmpAt
  rw [Lib.toList_data, Lib.toList_data]
  rfl
theorem cmpL_swap : ∀ x y : List UInt8, cmpL y x = -cmpL x y
  | [], [] => rfl
  | [], _ :: _ => rfl
  | _ :: _, [] => rfl
  | a :: x, b :: y => by
    unfold cmpL
    by_cases h : a = b
    · subst h
      rw [if_pos rfl, if_pos rfl]
      exact cmpL_swap x y
    · rw [if_neg h, if_neg (Ne.symm h)]
      rcases Nat.lt_or_gt_of_ne (fun e => h (UInt8.toNat_inj.1 e)) with h1 | h1
      · rw [if_pos (show a < b from h1), if_neg (show ¬ b < a from fun h2 => by have : b.toNat < a.toNat := h2; omega)]
        rfl
      · rw [if_pos (show b < a from h1), if_neg (show ¬ a < b from fun h2 => by have : a.toNat < b.toNat := h2; omega)]
theorem leq_below (a b : ByteArray) : (Op.bytesLess a.toList b.toList || a.toList == b.toList) = !belowB b a := by
  obtain ⟨h1, h2⟩ := bytesLess_cmpL a.toList b.toList
  rw [← less_below b a, (bytesLess_cmpL b.toList a.toList).1, h1, h2, cmpL_swap a.toList b.toList]
  rcases cmpL_range a.toList b.toList with h | h | h <;> rw [h] <;> rfl

/-- Is place k of a table right, seen from the one ahead of it? -/
def okB (l : List Part) (k : Nat) : Bool :=
  !((pat l k).group == 0) && decide ((pat l k).from_.size ≤ 32) && (decide (k = 0) || ((pat l k).from_.toList == (pat l (k - 1)).to_.toList && belowB (pat l (k - 1)).from_ (pat l k).from_))
def headB (l : List Part) : Bool := decide (1 ≤ l.length) && decide (l.length ≤ 64) && (pat l 0).from_.toList.isEmpty && (pat l (l.length - 1)).to_.toList.isEmpty
def rightB (l : List Part) : Bool := headB l && allB l (okB l)
def rightK (l : List Part) : Int := if rightB l then 0 else 3
theorem rightK_no {l : List Part} {k : Nat} (hk : k < l.length) (h : okB l k = false) : 3 = rightK l := by
  unfold rightK rightB
  rw [allB_no hk h]
  simp
theorem rightK_head {l : List Part} (h : headB l = false) : 3 = rightK l := by simp [rightK, rightB, h]

set_option maxHeartbeats 2000000 in
set_option maxRecDepth 100000 in
theorem right_loop (A : Option Addr) (c : Nat) (l : List Part) (w : World) (hr : Kd.C kP w A l.length l) (hh : headB l = true) :
    Calls Try.prog 14 #[.slice A l.length c] w fun e w' => e = .returned (.int .i64 (rightK l)) ∧ Below w.heap.size w w' := by
  have HR := Aside0.mk hr
  have HD := Aside0.mk hh
  simp only [headB, Bool.and_eq_true, decide_eq_true_eq] at hh
  obtain ⟨⟨⟨g1, g2⟩, g3⟩, g4⟩ := hh
  clear hr
  have e1 : ((l.length : Int) == 0) = false := ine (by omega)
  have e2 : (0 : Int) < (l.length : Int) := by omega
  have e3 : (0 : Int) ≤ (l.length : Int) - 1 := by omega
  have e4 : ((l.length : Int) - 1) < l.length := by omega
  obtain ⟨n, hn⟩ : ∃ n : Nat, l.length = n + 1 := ⟨l.length - 1, by omega⟩
  have hn' : (l.length : Int) - 1 = n := by omega
  obtain ⟨ad, rfl, HH0⟩ := kP_hold HR.out 0 (by omega)
  obtain ⟨a0, a1, a2⟩ := HH0.out _ (Below.refl _ _)
  simp only [Nat.zero_mul, Addr.add, if_true] at a0 a1 a2
  have e5 : decide ((64 : Int) < (l.length : Int)) = false := df (by omega)
  have g4' : (pat l n).to_.toList.isEmpty = true := by rw [hn] at g4; exact g4
  have HN := Aside0.mk hn
  clear hn g4
  obtain ⟨ad', hadd, HH1⟩ := kP_hold HR.out n (by have := HN.out; omega)
  obtain rfl : ad = ad' := by injection hadd
  clear hadd
  obtain ⟨b0, b1, b2⟩ := HH1.out _ (Below.refl _ _)
  go_enter Try.func14, Try.ntmps14
  go_wp2_with fail
  clear a0 a1 a2 b0 b1 b2 e1 e3 e4 e5 hn' g3 g4'
  go_loopw [32] (fun vi w' => ∃ i : Nat, i ≤ l.length ∧ vi = .int .i64 i ∧ Aside0 (∀ k, k < i → okB l k = true) ∧ Aside0 (Below w.heap.size w w')) (fun vi _ => l.length - (intOf vi).toNat)
  case atStart => exact ⟨0, by omega, rfl, ⟨fun k hk => absurd hk (by omega)⟩, ⟨Below.refl _ _⟩⟩
  case round =>
    obtain ⟨i, hi, rfl, HS, HB⟩ := hrel
    by_cases hlt : i < l.length
    · have h3 : (i : Int) < l.length := by omega
      obtain ⟨ad', hadd, HI⟩ := kP_hold HR.out i hlt
      obtain rfl : ad = ad' := by injection hadd
      clear hadd
      obtain ⟨c0, c1, c2⟩ := HI.out _ HB.out
      have HBa : Aside0 (∀ o n, Below w.heap.size w ((wr.alloc o).drewN n)) := ⟨fun o n => pw_drewN (HB.out.alloc HB.out.size o) n⟩
      by_cases t1 : (pat l i).group = 0
      · have t1' : ((pat l i).group == 0) = true := ieq t1
        have ho : okB l i = false := by simp [okB, t1]
        clear t1
        go_wp2_with fail
        go_ret
        exact ⟨RetI.mk (rightK_no hlt ho), HB.out.alloc HB.out.size _⟩
      · have t1' : ((pat l i).group == 0) = false := ine t1
        by_cases t2 : (pat l i).from_.size ≤ 32
        · by_cases t3 : i = 0
          · have d0 : decide ((0 : Int) < (i : Int)) = false := df (by omega)
            have d0' : decide (0 < i) = false := df (by omega)
            have ho : okB l i = true := by unfold okB; rw [t1', dt t2, dt t3]; rfl
            have d1 : decide (32 < (pat l i).from_.size) = false := df (by omega)
            clear t3 t1
            go_wp2_with fail
            go_quiet (fail)
            go_wp2_with fail
            go_roundw
            case rel => exact ⟨i + 1, by omega, by go_num, ⟨fun k hk => by
              rcases Nat.lt_or_ge k i with h | h
              · exact HS.out k h
              · obtain rfl : k = i := by omega
                exact ho⟩, ⟨HBa.out _ _⟩⟩
            case measure => simp [intOf]; omega
          · obtain ⟨m, hm, hm'⟩ : ∃ m, i = m + 1 ∧ (i : Int) - 1 = m := ⟨i - 1, by omega, by omega⟩
            obtain ⟨ad', hadd, HJ⟩ := kP_hold HR.out m (by omega)
            obtain rfl : ad = ad' := by injection hadd
            clear hadd
            obtain ⟨f0, f1, f2⟩ := HJ.out _ (HB.out.alloc HB.out.size (.cells #[.string (pat l i).from_, .string (pat l i).to_, .int .u64 (pat l i).group] 27))
            have d0 : decide ((0 : Int) < (i : Int)) = true := dt (by omega)
            have d0' : decide (0 < i) = true := dt (by omega)
            have d1 : decide (32 < (pat l i).from_.size) = false := df (by omega)
            have d2 : (0 : Int) ≤ (i : Int) - 1 := by omega
            have HM := Aside0.mk hm
            clear hm t3 t1
            by_cases u1 : ((pat l i).from_.toList == (pat l m).to_.toList) = true
            · have u2 : ((pat l i).from_.toList != (pat l m).to_.toList) = false := by simpa using u1
              by_cases u3 : belowB (pat l m).from_ (pat l i).from_ = true
              · have u4 : (Op.bytesLess (pat l i).from_.toList (pat l m).from_.toList || (pat l i).from_.toList == (pat l m).from_.toList) = false := by rw [leq_below, u3]; rfl
                have ho : okB l i = true := by unfold okB; rw [t1', dt t2, HM.out, Nat.add_sub_cancel, ← HM.out, u1, u3]; simp
                have HU := Aside0.mk u3
                clear u3
                go_wp2_with fail
                go_quiet (fail)
                go_wp2_with fail
                go_roundw
                case rel => exact ⟨i + 1, by omega, by go_num, ⟨fun k hk => by
                  rcases Nat.lt_or_ge k i with h | h
                  · exact HS.out k h
                  · obtain rfl : k = i := by omega
                    exact ho⟩, ⟨HBa.out _ _⟩⟩
                case measure => simp [intOf]; omega
              · have u3' : belowB (pat l m).from_ (pat l i).from_ = false := by simpa using u3
                have u4 : (Op.bytesLess (pat l i).from_.toList (pat l m).from_.toList || (pat l i).from_.toList == (pat l m).from_.toList) = true := by rw [leq_below, u3']; rfl
                have ho : okB l i = false := by unfold okB; rw [t1', dt t2, HM.out, Nat.add_sub_cancel, ← HM.out, u1, u3']; simp; have := HM.out; omega
                clear u3 u3'
                go_wp2_with fail
                go_quiet (fail)
                go_wp2_with fail
                go_ret
                exact ⟨RetI.mk (rightK_no hlt ho), HBa.out _ _⟩
            · have u1' : ((pat l i).from_.toList == (pat l m).to_.toList) = false := by simpa using u1
              have u2 : ((pat l i).from_.toList != (pat l m).to_.toList) = true := by simpa using u1
              have ho : okB l i = false := by unfold okB; rw [t1', dt t2, HM.out, Nat.add_sub_cancel, ← HM.out, u1']; simp; have := HM.out; omega
              clear u1
              go_wp2_with fail
              go_quiet (fail)
              go_wp2_with fail
              go_ret
              exact ⟨RetI.mk (rightK_no hlt ho), HBa.out _ _⟩
        · have t2' : decide (32 < (pat l i).from_.size) = true := dt (by omega)
          have ho : okB l i = false := by simp [okB, t2]
          go_wp2_with fail
          go_ret
          exact ⟨RetI.mk (rightK_no hlt ho), HB.out.alloc HB.out.size _⟩
    · obtain rfl : i = l.length := by omega
      go_wp2_with fail
      go_ret
      exact ⟨RetI.mk (by unfold rightK rightB; rw [allB_yes HS.out, HD.out]; rfl), HB.out⟩

theorem headB_of {l : List Part} (h1 : 1 ≤ l.length) (h2 : l.length ≤ 64) (h3 : (pat l 0).from_.toList.isEmpty = true) (h4 : (pat l (l.length - 1)).to_.toList.isEmpty = true) : headB l = true := by simp [headB, h1, h2, h3, h4]
set_option maxHeartbeats 2000000 in
set_option maxRecDepth 100000 in
theorem right_any (A : Option Addr) (c : Nat) (l : List Part) (w : World) (hr : Kd.C kP w A l.length l) (hl : l.length ≤ 1000000) :
    Calls Try.prog 14 #[.slice A l.length c] w fun e w' => e = .returned (.int .i64 (rightK l)) ∧ Below w.heap.size w w' := by
  by_cases h1 : l.length = 0
  · have hh := rightK_head (l := l) (by simp [headB, h1])
    have e1 : ((l.length : Int) == 0) = true := ieq (by omega)
    go_enter Try.func14, Try.ntmps14
    go_wp2_with fail
    go_ret
    exact ⟨RetI.mk hh, Below.refl _ _⟩
  have e1 : ((l.length : Int) == 0) = false := ine (by omega)
  by_cases h2 : l.length ≤ 64
  · have e5 : decide ((64 : Int) < (l.length : Int)) = false := df (by omega)
    by_cases h3 : (pat l 0).from_.toList.isEmpty = true
    · by_cases h4 : (pat l (l.length - 1)).to_.toList.isEmpty = true
      · exact right_loop A c l w hr (headB_of (by omega) h2 h3 h4)
      · have h4' : (pat l (l.length - 1)).to_.toList.isEmpty = false := by simpa using h4
        have hh := Aside0.mk (rightK_head (l := l) (by simp [headB, h4']))
        have HR := Aside0.mk hr
        clear hr h4
        have e2 : (0 : Int) < (l.length : Int) := by omega
        have e3 : (0 : Int) ≤ (l.length : Int) - 1 := by omega
        have e4 : ((l.length : Int) - 1) < l.length := by omega
        obtain ⟨n, hn⟩ : ∃ n : Nat, l.length = n + 1 := ⟨l.length - 1, by omega⟩
        have hn' : (l.length : Int) - 1 = n := by omega
        obtain ⟨ad, rfl, HH0⟩ := kP_hold HR.out 0 (by omega)
        obtain ⟨a0, a1, a2⟩ := HH0.out _ (Below.refl _ _)
        simp only [Nat.zero_mul, Addr.add, if_true] at a0 a1 a2
        have g4' : (pat l n).to_.toList.isEmpty = false := by rw [hn] at h4'; exact h4'
        have HN := Aside0.mk hn
        clear hn h4'
        obtain ⟨ad', hadd, HH1⟩ := kP_hold HR.out n (by have := HN.out; omega)
        obtain rfl : ad = ad' := by injection hadd
        clear hadd
        obtain ⟨b0, b1, b2⟩ := HH1.out _ (Below.refl _ _)
        go_enter Try.func14, Try.ntmps14
        go_wp2_with fail
        go_ret
        exact ⟨RetI.mk hh.out, Below.refl _ _⟩
    · have h3' : (pat l 0).from_.toList.isEmpty = false := by simpa using h3
      have hh := Aside0.mk (rightK_head (l := l) (by simp [headB, h3']))
      clear h3
      have e2 : (0 : Int) < (l.length : Int) := by omega
      obtain ⟨ad, rfl, HH0⟩ := kP_hold hr 0 (by omega)
      obtain ⟨a0, a1, a2⟩ := HH0.out _ (Below.refl _ _)
      simp only [Nat.zero_mul, Addr.add, if_true] at a0 a1 a2
      clear hr
      go_enter Try.func14, Try.ntmps14
      go_wp2_with fail
      go_ret
      exact ⟨RetI.mk hh.out, Below.refl _ _⟩
  · have hh := rightK_head (l := l) (by simp [headB, h2])
    have e5 : decide ((64 : Int) < (l.length : Int)) = true := dt (by omega)
    clear hr
    go_enter Try.func14, Try.ntmps14
    go_wp2_with fail
    go_ret
    exact ⟨RetI.mk hh, Below.refl _ _⟩
end Go.Proofs.Ytoemddjolfblbaa
