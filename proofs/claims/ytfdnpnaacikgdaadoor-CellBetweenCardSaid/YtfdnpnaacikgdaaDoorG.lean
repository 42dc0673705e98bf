/- Cell: slices.Grow of nil, slices.Concat of byte rows. -/
import Derived.Test.YtfdnpnaacikgdaaDoorF
import Derived.Test.YtfdnpnaacikgdaaDoorWZeros
/- Concat. -/
set_option linter.unusedVariables false
set_option linter.unusedSimpArgs false
namespace Go.Proofs.YtfdnpnaacikgdaaDoor
open Go.RowKit Go.Proofs.YtfdnpnaacikgdaaDoorW.PrintWords

set_option maxHeartbeats 1000000 in
theorem grow_nil (n : Nat) (w : World) (hn : n ≤ 1000000) :
    Calls Tryd.prog 37 #[.slice none 0 0, .int .i64 n] w fun e w' => ∃ v, e = .returned v ∧ Kd.R kB 5 w' w.heap.size (fun _ => True) v [] ∧ Below w.heap.size w w' := by
  rcases Nat.eq_zero_or_pos n with h0 | h0
  · subst h0
    go_enter Tryd.func37, Tryd.ntmps37
    go_wp2_with fail
    go_ret
    exact ⟨_, rfl, Kd.R_nil _ _ _ _ _, Below.refl _ _⟩
  · have h1 : (0 : Int) < (n : Int) := by omega
    have hto : ((n : Int)).toNat = n := by omega
    go_enter Tryd.func37, Tryd.ntmps37
    go_wp2_with (at_builtin; refine Kd.R_append_zeros kB (w0 := w) w.heap.size rfl (.tmp 20) (.tmp 21) 27 3 5 (.int .u8 0) 1 rfl Tryd.underlying27 Tryd.underlying3 info5 rfl (by decide) (by omega) (.slice none 0 0) [] 0 (n : Int) (fun _ => True) rfl rfl rfl (fun _ _ => trivial) (Kd.R_nil _ _ _ _ _) (by omega) (Below.refl _ _) (Nat.le_refl _) (by simp; omega) ?_; intro v1 w2 ho hb _ _; have HO := Aside0.mk ho; have HB := Aside0.mk hb; clear ho hb; obtain ⟨A, c1, e1⟩ := Kd.R_slice HO.out; subst e1)
    go_ret
    exact ⟨_, rfl, Kd.R_take (m := 0) HO.out (by omega), HB.out⟩

def rd_L (xs : List (List Int)) (i : Nat) : List Int := xs.getD i []
/-- The bytes of a row of rows. -/
def flt (l : List (List Int)) (i : Nat) : List Int := (l.take i).flatten
theorem flt_le (l : List (List Int)) (i : Nat) : (flt l i).length ≤ l.flatten.length := by
  unfold flt
  conv => rhs; rw [← List.take_append_drop i l, List.flatten_append]
  simp
theorem flt_succ {l : List (List Int)} {i : Nat} (h : i < l.length) : flt l (i + 1) = flt l i ++ rd_L l i := by
  unfold flt rd_L
  rw [List.take_succ_eq_append_getElem h, List.flatten_append, List.getD_eq_getElem?_getD, List.getElem?_eq_getElem h]
  simp
theorem rowAt {w : World} {A : Option Addr} {n : Nat} {xs : List (List Int)} (h : Kd.C (Kd.slice 5 kB) w A n xs) (i : Nat) (h1 : i < n) : ∃ ad A0 c0, A = some ad ∧ ad.block < w.heap.size ∧ w.cell? (ad.add i) = some (.slice A0 (rd_L xs i).length c0) ∧ (rd_L xs i).length ≤ c0 ∧ kB.C w A0 (rd_L xs i).length (rd_L xs i) := by
  obtain ⟨ad, c, e, _, hK, hc0⟩ := Kd.C_get h ([] : List Int) (i : Int) (by omega) (by omega)
  have hc : ∀ j u, c[j]? = some u → w.cell? (ad.add (i * 1 + j)) = some u := hc0
  obtain ⟨A0, c0, rfl, l0, g0⟩ := hK
  have hq := hc 0 _ rfl
  rw [Nat.mul_one, Nat.add_zero] at hq
  refine ⟨ad, A0, c0, e, ?_, hq, l0, g0⟩
  have := World.block_lt_of_cell? w _ hq
  unfold Addr.add at this
  split at this <;> exact this
set_option maxHeartbeats 1000000 in
theorem concat_any (A : Option Addr) (c : Nat) (l : List (List Int)) (w : World) (hr : Kd.C (Kd.slice 5 kB) w A l.length l) (hl : l.length ≤ 1000) (ht : l.flatten.length ≤ 1000000) :
    Calls Tryd.prog 26 #[.slice A l.length c] w fun e w' => ∃ v, e = .returned v ∧ Kd.R kB 5 w' w.heap.size (fun _ => True) v l.flatten ∧ Below w.heap.size w w' := by
  have HR := Aside0.mk hr
  obtain ⟨n, hn⟩ : ∃ n, l.length = n := ⟨_, rfl⟩
  have HN := Aside0.mk hn
  obtain ⟨m, hm⟩ : ∃ m, l.flatten.length = m := ⟨_, rfl⟩
  have HM := Aside0.mk hm
  rw [hn] at hl HR ⊢
  rw [hm] at ht
  clear hr hn hm
  go_enter Tryd.func26, Tryd.ntmps26
  go_wp2_with fail
  go_loop [3, 11] (fun vs vi => ∃ i s : Nat, i ≤ n ∧ s ≤ m ∧ vi = .int .i64 i ∧ vs = .int .i64 s ∧ Aside0 ((flt l i).length = s)) (fun _ vi => n - (intOf vi).toNat)
  case atStart => exact ⟨0, 0, by omega, by omega, rfl, rfl, ⟨rfl⟩⟩
  case round =>
    obtain ⟨i, s, hi, hs, rfl, rfl, HS⟩ := hrel
    by_cases hlt : i < n
    · obtain ⟨ad, A0, c0, rfl, hb, h1, h2, h3⟩ := rowAt HR.out i hlt
      have h4 : (i : Int) < n := by omega
      have hle : s + (rd_L l i).length ≤ m := by
        have h5 := flt_le l (i + 1)
        rw [flt_succ (by rw [HN.out]; exact hlt), HM.out, List.length_append, HS.out] at h5
        exact h5
      have h6 : ¬ ((s : Int) + ((rd_L l i).length : Int) < 0) := by omega
      have h7 : decide ((s : Int) + ((rd_L l i).length : Int) < 0) = false := df h6
      clear h3
      go_wp2_with fail
      go_round
      case rel => exact ⟨i + 1, s + (rd_L l i).length, by omega, by omega, by go_num, by go_num, ⟨by rw [flt_succ (by rw [HN.out]; exact hlt), List.length_append, HS.out]⟩⟩
      case measure => simp [intOf]; omega
    · obtain rfl : i = n := by omega
      have hsm : s = m := by rw [← HS.out, ← HM.out]; unfold flt; rw [List.take_of_length_le (by rw [HN.out]; exact Nat.le_refl _)]
      subst hsm
      go_wp2_with fail
      refine (grow_nil s w (by omega)).mono ?_
      rintro e w1 ⟨v, rfl, hr, hb⟩
      have HG := Aside0.mk hr
      have HB := Aside0.mk hb
      clear hr hb
      obtain ⟨A1, c1, e1⟩ := Kd.R_slice HG.out
      subst e1
      go_wp2_with fail
      go_loopw [6, 27] (fun vv vj w' => ∃ j : Nat, j ≤ i ∧ vj = .int .i64 j ∧ Aside0 (Kd.R kB 5 w' w.heap.size (fun _ => True) vv (flt l j)) ∧ Aside0 (Below w.heap.size w w')) (fun _ vj _ => i - (intOf vj).toNat)
      case atStart => exact ⟨0, by omega, rfl, HG, HB⟩
      case round =>
        obtain ⟨j, hj, rfl, HV, HW⟩ := hrel
        by_cases hjl : j < i
        · obtain ⟨ad, A0, c0, rfl, hb, h1, h2, h3⟩ := rowAt (Kd.C_below HR.out HW.out) j hjl
          have h4 : (j : Int) < i := by omega
          have HC := Aside0.mk h3
          have HL : Aside0 ((flt l j).length + (rd_L l j).length ≤ 1000000) := ⟨by
            have h5 := flt_le l (j + 1)
            rw [flt_succ (by rw [HN.out]; exact hjl), HM.out, List.length_append] at h5
            omega⟩
          clear h3
          obtain ⟨A2, c2, e2⟩ := Kd.R_slice HV.out
          subst e2
          go_wp2_with (at_builtin; refine Kd.R_append_rows kB (w0 := w) w.heap.size rfl (.tmp 31) (.tmp 32) 27 5 (.int .u8 0) 1 rfl Tryd.underlying27 info5 rfl (by decide) (by omega) (.slice A2 (flt l j).length c2) (flt l j) (rd_L l j) A0 (rd_L l j).length c0 (fun _ => True) (fun _ => False) rfl rfl HV.out HC.out (fun x cs h => h) (fun _ hk => hk.elim) (fun _ _ => trivial) HW.out HW.out.size (by have := HL.out; omega) ?_; intro v1 w2 ho hb _ _)
          rw [← flt_succ (by rw [HN.out]; exact hjl)] at ho
          have HO := Aside0.mk ho
          have HB2 := Aside0.mk hb
          clear ho hb
          go_roundw
          case rel => exact ⟨j + 1, by omega, by go_num, HO, HB2⟩
          case measure => simp [intOf]; omega
        · obtain rfl : j = i := by omega
          have HF : Aside0 (flt l j = l.flatten) := ⟨by unfold flt; rw [List.take_of_length_le (by rw [HN.out]; exact Nat.le_refl _)]⟩
          go_wp2_with fail
          go_ret
          exact ⟨_, rfl, HF.out ▸ HV.out, HW.out⟩
end Go.Proofs.YtfdnpnaacikgdaaDoor
