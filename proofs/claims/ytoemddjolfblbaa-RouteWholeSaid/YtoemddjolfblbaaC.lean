/- The order of byte strings, and the functions below, Text and Has of the references: what each answers, under the bounds in each statement. -/
import Derived.Test.YtoemddjolfblbaaA
set_option linter.unusedVariables false
set_option linter.unusedSimpArgs false
namespace Go.Proofs.Ytoemddjolfblbaa
open Go.RowKit Go.Proofs.YtoemddjolfblbaaW.PrintWords

theorem ieq {a b : Int} (h : a = b) : (a == b) = true := by simpa using h
theorem ine {a b : Int} (h : a ≠ b) : (a == b) = false := by simpa using h
theorem ieq' {a b : Int} (h : a = b) : (a != b) = false := by simpa using h
theorem ine' {a b : Int} (h : a ≠ b) : (a != b) = true := by simpa using h
/-- The order of byte strings, as a number. -/
def cmpL : List UInt8 → List UInt8 → Int
  | [], [] => 0
  | [], _ :: _ => -1
  | _ :: _, [] => 1
  | a :: x, b :: y => if a = b then cmpL x y else if a < b then -1 else 1
theorem bytesLess_cmpL : ∀ x y : List UInt8, Op.bytesLess x y = decide (cmpL x y < 0) ∧ ((x == y) = decide (cmpL x y = 0))
  | [], [] => by simp [Op.bytesLess, cmpL]
  | [], _ :: _ => by simp [Op.bytesLess, cmpL]
  | _ :: _, [] => by simp [Op.bytesLess, cmpL]
  | a :: x, b :: y => by
    obtain ⟨h1, h2⟩ := bytesLess_cmpL x y
    unfold Op.bytesLess cmpL
    by_cases hab : a = b
    · subst hab
      rw [if_pos rfl, h1]
      refine ⟨by simp, ?_⟩
      rw [← h2]
      simp
    · rw [if_neg hab]
      by_cases hlt : a < b
      · rw [if_pos hlt]
        simp [hlt, hab]
      · rw [if_neg hlt]
        simp [hlt, hab]
theorem cmpL_range : ∀ x y : List UInt8, cmpL x y = -1 ∨ cmpL x y = 0 ∨ cmpL x y = 1
  | [], [] => by simp [cmpL]
  | [], _ :: _ => by simp [cmpL]
  | _ :: _, [] => by simp [cmpL]
  | a :: x, b :: y => by
    unfold cmpL
    split
    · exact cmpL_range x y
    · split <;> simp
theorem cmpB_cmpL (a b : ByteArray) : cmpB a b = cmpL a.toList b.toList := by
  obtain ⟨h1, h2⟩ := bytesLess_cmpL a.toList b.toList
  unfold cmpB
  rw [h1, h2]
  rcases cmpL_range a.toList b.toList with h | h | h <;> rw [h] <;> rfl

def cmpAt (a b : ByteArray) (i : Nat) : Int := cmpL (a.data.toList.drop i) (b.data.toList.drop i)
theorem cmpAt_step {a b : ByteArray} {i : Nat} (ha : i < a.size) (hb : i < b.size) : cmpAt a b i = if a[i] = b[i] then cmpAt a b (i + 1) else if a[i] < b[i] then -1 else 1 := by
  unfold cmpAt
  rw [List.drop_eq_getElem_cons (show i < a.data.toList.length by simpa using ha), List.drop_eq_getElem_cons (show i < b.data.toList.length by simpa using hb)]
  simp only [cmpL]
  rfl
theorem cmpAt_end {a b : ByteArray} {i : Nat} (ha : i ≤ a.size) (hb : i ≤ b.size) (h : ¬ (i < a.size ∧ i < b.size)) : cmpAt a b i = if a.size = b.size then 0 else if a.size < b.size then -1 else 1 := by
  unfold cmpAt
  rcases Nat.lt_or_ge i a.size with h1 | h1
  · have h2 : b.size = i := by omega
    have hb' : b.data.toList.drop i = [] := List.drop_eq_nil_of_le (by simp; exact Nat.le_of_eq h2)
    rw [hb', List.drop_eq_getElem_cons (by simpa using h1), cmpL, if_neg (by omega), if_neg (by omega)]
  · have h2 : a.size = i := by omega
    have ha' : a.data.toList.drop i = [] := List.drop_eq_nil_of_le (by simp; exact Nat.le_of_eq h2)
    rw [ha']
    rcases Nat.lt_or_ge i b.size with h3 | h3
    · rw [List.drop_eq_getElem_cons (by simpa using h3), cmpL, if_neg (by omega), if_pos (by omega)]
    · have hb' : b.data.toList.drop i = [] := List.drop_eq_nil_of_le (by simpa using h3)
      rw [hb', cmpL, if_pos (by omega)]

set_option maxHeartbeats 1000000 in
theorem text_any (a b : ByteArray) (w : World) (ha : a.size ≤ 1000000) (hb : b.size ≤ 1000000) :
    Calls Try.prog 33 #[.string a, .string b] w fun e w' => e = .returned (.int .i64 (cmpAt a b 0)) ∧ Drawn0 w w' := by
  go_enter Try.func33, Try.ntmps33
  go_wp2
  go_loopw [5] (fun vi w' => ∃ i : Nat, i ≤ a.size ∧ i ≤ b.size ∧ vi = .int .i64 i ∧ Aside0 (cmpAt a b i = cmpAt a b 0) ∧ Drawn0 w w') (fun vi _ => a.size - (intOf vi).toNat)
  case atStart => exact ⟨0, by omega, by omega, rfl, ⟨rfl⟩, Drawn0.refl _⟩
  case round =>
    obtain ⟨i, hi1, hi2, rfl, HS, HD⟩ := hrel
    by_cases h1 : i < a.size ∧ i < b.size
    · obtain ⟨h1, h2⟩ := h1
      have hs := Aside0.mk (cmpAt_step h1 h2)
      have g0 : (0 : Int) ≤ (i : Int) := by omega
      have g1 : (i : Int) < a.size := by omega
      have g2 : (i : Int) < b.size := by omega
      by_cases he : a[i] = b[i]
      · have t1 : (((a[i]).toNat : Int) != ((b[i]).toNat : Int)) = false := by simp [he]
        have HE := Aside0.mk he
        clear he
        go_wp2_with fail
        go_quiet (fail)
        go_wp2_with fail
        have h := hs.out
        rw [if_pos HE.out, HS.out] at h
        exact ⟨⟨i + 1, by omega, by omega, by go_num, ⟨h.symm⟩, HD.step _⟩, by simp [intOf]; omega⟩
      · have hn : ((a[i]).toNat : Int) ≠ ((b[i]).toNat : Int) := fun h => he (UInt8.toNat_inj.1 (by omega))
        have t1 : (((a[i]).toNat : Int) != ((b[i]).toNat : Int)) = true := by simpa using hn
        have HE := Aside0.mk he
        clear he hn
        by_cases hl : (a[i]).toNat < (b[i]).toNat
        all_goals
          go_wp2_with fail
          go_quiet (fail)
          go_wp2_with fail
          go_quiet (fail)
          go_wp2_with fail
          go_ret
          refine ⟨RetI.mk ?_, by first | exact (HD.step _) | exact (HD.step _).step _⟩
          rw [← HS.out, hs.out, if_neg HE.out]
        · rw [if_pos (by exact hl)]
        · rw [if_neg (by exact hl)]
    · have hs := Aside0.mk (cmpAt_end hi1 hi2 h1)
      rw [HS.out] at hs
      clear HS
      by_cases h2 : i < a.size
      all_goals
        by_cases he : a.size = b.size
        · have t1 : ((a.size : Int) == (b.size : Int)) = true := ieq (by omega)
          have HE := Aside0.mk he
          clear he
          go_wp2_with fail
          go_ret
          exact ⟨RetI.mk (by rw [hs.out, if_pos HE.out]), HD⟩
        · have hn : (a.size : Int) ≠ (b.size : Int) := by omega
          have t1 : ((a.size : Int) == (b.size : Int)) = false := ine hn
          have HE := Aside0.mk he
          clear he hn
          by_cases hl : a.size < b.size
          all_goals
            go_wp2_with fail
          all_goals
            go_ret
            refine ⟨RetI.mk ?_, HD⟩
            rw [hs.out, if_neg HE.out]
            first | exact (if_pos (by omega)).symm | exact (if_neg (by omega)).symm

def belowB (a b : ByteArray) : Bool := decide (cmpAt a b 0 < 0)
theorem below_any (a b : ByteArray) (w : World) (ha : a.size ≤ 1000000) (hb : b.size ≤ 1000000) :
    Calls Try.prog 26 #[.string a, .string b] w fun e w' => e = .returned (.bool (belowB a b)) ∧ ∃ n, w' = w.drewN n := by
  go_enter Try.func26, Try.ntmps26
  go_wp2_with (go_at_call 33; refine (text_any _ _ _ ha hb).mono ?_; rintro e w' ⟨rfl, hd⟩)
  go_ret
  exact ⟨rfl, hd.out⟩

def hasB (f t row : ByteArray) : Bool := !belowB row f && (t.toList.isEmpty || belowB row t)
theorem ret_bool {a b : Bool} (h : a = b) : Ending.returned (.bool a) = .returned (.bool b) := by rw [h]
theorem pw_drewN {B : Nat} {w W : World} (h : Below B w W) (n : Nat) : Below B w (W.drewN n) := ⟨h.os, h.tape, h.output, h.size, h.block⟩
set_option maxHeartbeats 1000000 in
theorem has_any (f t row : ByteArray) (g : Int) (w : World) (hf : f.size ≤ 1000000) (ht : t.size ≤ 1000000) (hr : row.size ≤ 1000000) :
    Calls Try.prog 25 #[.agg #[.string f, .string t, .int .u64 g], .string row] w fun e w' => e = .returned (.bool (hasB f t row)) ∧ Below w.heap.size w w' := by
  have HB : ∀ o n, Below w.heap.size w ((w.alloc o).drewN n) := fun o n => pw_drewN ((Below.refl _ _).alloc (Nat.le_refl _) o) n
  by_cases h1 : belowB row f = true
  · go_enter Try.func25, Try.ntmps25
    go_wp2_with (go_at_call 26; refine (below_any _ _ _ hr hf).mono ?_; rintro e w' ⟨rfl, n, rfl⟩)
    go_ret
    exact ⟨ret_bool (by simp [hasB, h1]), HB _ _⟩
  · have h2 : belowB row f = false := by simpa using h1
    by_cases h3 : t.toList.isEmpty = true
    · go_enter Try.func25, Try.ntmps25
      go_wp2_with (go_at_call 26; refine (below_any _ _ _ hr hf).mono ?_; rintro e w' ⟨rfl, n, rfl⟩)
      go_ret
      exact ⟨ret_bool (by simp [hasB, h2, h3]), HB _ _⟩
    · have h4 : t.toList.isEmpty = false := by simpa using h3
      go_enter Try.func25, Try.ntmps25
      go_wp2_with fail
      refine (below_any _ _ _ hr hf).mono ?_
      rintro e w' ⟨rfl, n, rfl⟩
      go_wp2_with fail
      refine (below_any _ _ _ hr ht).mono ?_
      rintro e w' ⟨rfl, m, rfl⟩
      go_wp2_with fail
      go_ret
      exact ⟨ret_bool (by simp [hasB, h2, h4]), HB _ _⟩
end Go.Proofs.Ytoemddjolfblbaa
