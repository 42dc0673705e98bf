/- slices.BinarySearchFunc over a table of parts: where it stands, and whether it is there; no condition but the bounds in each statement. -/
import Derived.Test.YtoemddjolfblbaaA
set_option linter.unusedVariables false
set_option linter.unusedSimpArgs false
namespace Go.Proofs.Ytoemddjolfblbaa
open Go.RowKit Go.Proofs.YtoemddjolfblbaaW.PrintWords

set_option maxHeartbeats 1000000 in
set_option maxRecDepth 100000 in
theorem bsearch_any (A : Option Addr) (c : Nat) (l : List Part) (row : ByteArray) (w : World) (hr : Kd.C kP w A l.length l) (hc : l.length ≤ c) (hl : l.length ≤ 1000) :
    Calls Try.prog 30 #[.slice A l.length c, .string row, .func (.func 31) #[] #[]] w fun e w' => ∃ b, e = .returned (.tuple #[.int .i64 (bsr (fun i => cmpB (pat l i).from_ row) (l.length + 1) 0 l.length), .bool b]) ∧
      b = (decide (bsr (fun i => cmpB (pat l i).from_ row) (l.length + 1) 0 l.length < l.length) && (cmpB (pat l (bsr (fun i => cmpB (pat l i).from_ row) (l.length + 1) 0 l.length)).from_ row == 0)) ∧ Below w.heap.size w w' := by
  have HR := Aside0.mk hr
  clear hr
  go_enter Try.func30, Try.ntmps30
  go_wp2
  go_loopw [9, 10, 11] (fun vi vj vh w' => ∃ i j : Nat, i ≤ j ∧ j ≤ l.length ∧ vi = .int .i64 i ∧ vj = .int .i64 j ∧ Below w.heap.size w w' ∧ ∃ k, j - i < k ∧ bsr (fun i => cmpB (pat l i).from_ row) k i j = bsr (fun i => cmpB (pat l i).from_ row) (l.length + 1) 0 l.length) (fun vi vj _ _ => (intOf vj).toNat - (intOf vi).toNat)
  case atStart => exact ⟨0, l.length, by omega, by omega, rfl, rfl, Below.refl _ _, l.length + 1, by omega, rfl⟩
  case round =>
    obtain ⟨i, j, hij, hj, rfl, rfl, hb, k, hk, hbs⟩ := hrel
    have HB := Aside0.mk hb
    have HS := Aside0.mk hbs
    clear hb hbs
    by_cases hlt : i < j
    · have hi0 : (0:Int) ≤ (i:Int) + j := by omega
      have hi1 : (i:Int) + j ≤ 2000 := by omega
      obtain ⟨h, hh, h1, h2, hn⟩ : ∃ h : Nat, ((i:Int) + j) / 2 = h ∧ i ≤ h ∧ h < j ∧ h = (i + j) / 2 := ⟨(i + j) / 2, by omega, by omega, by omega, rfl⟩
      have h3 : (h : Int) < l.length := by omega
      obtain ⟨ad, rfl, hbl, c0, c1, c2⟩ := kP_at (Kd.C_below HR.out HB.out) h (by omega)
      have HN := Aside0.mk hn
      clear hn
      have HH := Aside0.mk (bsr_lt (c := fun i => cmpB (pat l i).from_ row) hlt hk)
      by_cases hcm : cmpB (pat l h).from_ row < 0
      · go_wp2_with (go_at_call 31; refine (place1_any _ _ _ _ _).mono ?_; rintro e w1 ⟨rfl, hb1⟩)
        have HE := HH.out
        rw [← HN.out, if_pos hcm, HS.out] at HE
        go_roundw
        case rel => exact ⟨h + 1, j, by omega, by omega, by go_num, rfl, HB.out.trans (hb1.mono HB.out.size), k - 1, by omega, HE.symm⟩
        case measure => simp [intOf]; omega
      · go_wp2_with (go_at_call 31; refine (place1_any _ _ _ _ _).mono ?_; rintro e w1 ⟨rfl, hb1⟩)
        have HE := HH.out
        rw [← HN.out, if_neg (by omega), HS.out] at HE
        go_roundw
        case rel => exact ⟨i, h, by omega, by omega, rfl, rfl, HB.out.trans (hb1.mono HB.out.size), k - 1, by omega, HE.symm⟩
        case measure => simp [intOf]; omega
    · have : i = j := by omega
      subst this
      have hfin : i = bsr (fun i => cmpB (pat l i).from_ row) (l.length + 1) 0 l.length := (bsr_done _ k i).symm.trans HS.out
      have HF := Aside0.mk hfin
      clear hfin HS
      by_cases hil : i < l.length
      · have h3 : (i : Int) < l.length := by omega
        obtain ⟨ad, rfl, hbl, c0, c1, c2⟩ := kP_at (Kd.C_below HR.out HB.out) i (by omega)
        go_wp2_with (go_at_call 31; refine (place1_any _ _ _ _ _).mono ?_; rintro e w1 ⟨rfl, hb1⟩)
        go_ret2
        rw [← HF.out]
        exact ⟨_, rfl, by simp [hil], HB.out.trans (hb1.mono HB.out.size)⟩
      · go_wp2_with fail
        go_ret2
        rw [← HF.out]
        exact ⟨_, rfl, by simp [hil], HB.out⟩
end Go.Proofs.Ytoemddjolfblbaa
