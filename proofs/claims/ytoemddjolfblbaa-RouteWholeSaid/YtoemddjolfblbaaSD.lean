/- Join of the reference: its kind, and the table that is joined. -/
import Derived.Test.YtoemddjolfblbaaSC
import Derived.Test.YtoemddjolfblbaaT
/- Join of the reference. -/
set_option linter.unusedVariables false
set_option linter.unusedSimpArgs false
namespace Go.Proofs.Ytoemddjolfblbaa
open Go.RowKit Go.Proofs.YtoemddjolfblbaaW.PrintWords

def JL (l : List Part) (i m : Nat) : List Part := l.take (i - 1) ++ wider l i :: (l.drop (i + 1)).take m
theorem JL_len (l : List Part) (i m : Nat) (hi : 0 < i) : (JL l i m).length ≤ i + m := by
  unfold JL
  rw [List.length_append, List.length_cons, List.length_take, List.length_take]
  omega
theorem take_pat {l : List Part} {k i : Nat} (h : k < i) : pat (l.take i) k = pat l k := by
  unfold pat
  rw [List.getD_eq_getElem?_getD, List.getD_eq_getElem?_getD, List.getElem?_take, if_pos h]
theorem JL_zero {l : List Part} {m : Nat} (h : m + 1 < l.length) : (l.take (m + 1)).set m ⟨(pat (l.take (m + 1)) m).from_, (pat l (m + 1)).to_, (pat (l.take (m + 1)) m).group⟩ = JL l (m + 1) 0 := by
  rw [take_pat (Nat.lt_succ_self m)]
  unfold JL
  have h1 : l.take (m + 1) = l.take m ++ [pat l m] := (pat_take (by omega)).symm
  rw [h1, List.set_append_right _ _ (by rw [List.length_take]; omega), List.length_take, Nat.min_eq_left (by omega), Nat.sub_self]
  rfl
theorem JL_next {l : List Part} {i m : Nat} (h : i + 1 + m < l.length) : JL l i m ++ [pat l (i + 1 + m)] = JL l i (m + 1) := by
  unfold JL
  have h1 : (l.drop (i + 1)).take (m + 1) = (l.drop (i + 1)).take m ++ [pat (l.drop (i + 1)) m] := (pat_take (by rw [List.length_drop]; omega)).symm
  rw [h1, pat_drop]
  simp
theorem JL_full {l : List Part} {m : Nat} (h : m + 1 < l.length) : JL l (m + 1) (l.length - (m + 1 + 1)) = joinL l (m + 1) := by
  have h1 := JL_zero h
  unfold joinL
  rw [List.eraseIdx_eq_take_drop_succ, Nat.add_sub_cancel, List.drop_set, if_pos (by omega), List.take_set]
  rw [take_pat (Nat.lt_succ_self m)] at h1
  have h2 : (l.drop (m + 1 + 1)).take (l.length - (m + 1 + 1)) = l.drop (m + 1 + 1) := List.take_of_length_le (by rw [List.length_drop]; omega)
  have h3 : wider l (m + 1) = ⟨(pat l m).from_, (pat l (m + 1)).to_, (pat l m).group⟩ := rfl
  rw [h3, h1]
  unfold JL
  rw [h2]
  simp
theorem row_at {w : World} {base e : Nat} {v : Value} {xs : List Part} (h : Kd.R kP e w base (fun _ => True) v xs) (hn : 0 < xs.length) : ∃ g c, v = .slice (some ⟨g, 0, none⟩) xs.length c := by
  rcases (R_flat h).2 with ⟨_, h0⟩ | ⟨g, cap, cur, rfl, _⟩
  · omega
  · exact ⟨g, cap, rfl⟩
theorem empty_pl {l : List Part} (h : RightL l) {at_ : ByteArray} (he : at_.toList.isEmpty = true) : (plI l at_).toNat = 0 := by
  obtain ⟨i, hp, ha, _⟩ := place_at h at_
  have h0 : At l at_ 0 := by
    refine ⟨Nat.lt_of_le_of_lt (Nat.zero_le _) ha.lt, ?_, fun k h1 h2 => ?_⟩
    · have := h.le (Nat.zero_le i) ha.lt
      exact fun h3 => ha.from_ (lt_of_lt_le h3 this)
    · exact lt_of_le_lt (empty_le he) (h.lt h1 h2)
  obtain rfl := ha.unique h h0
  rw [hp]; rfl

set_option maxHeartbeats 4000000 in
set_option maxRecDepth 100000 in
theorem rjoin_form (A : Option Addr) (c : Nat) (l : List Part) (at_ : ByteArray) (w : World) (hr : Kd.C kP w A l.length l) (hl : l.length ≤ 999) (hs : ∀ k, k < l.length → (pat l k).from_.size ≤ 1000000 ∧ (pat l k).to_.size ≤ 1000000) (hR : rightB l = false) :
    Calls Try.prog 23 #[.slice A l.length c, .string at_] w (RetN 3 w) := by
  have HR := Aside0.mk hr
  have HI := Aside0.mk hR
  have HF : Aside0 (∀ k, k < l.length → (pat l k).from_.size ≤ 1000000) := ⟨fun k hk => (hs k hk).1⟩
  clear hr hR hs
  go_enter Try.func23, Try.ntmps23
  go_wp2_with fail
  refine (rright_any _ _ l _ HR.out (by omega) HF.out).mono ?_
  rintro e w1 ⟨rfl, ⟨d, rfl⟩⟩
  rw [HI.out]
  go_wp2_with fail
  go_ret2
  exact ⟨rfl, pw_drewN (Below.refl _ _) d⟩
set_option maxHeartbeats 4000000 in
set_option maxRecDepth 100000 in
theorem rjoin_none (A : Option Addr) (c : Nat) (l : List Part) (at_ : ByteArray) (w : World) (hr : Kd.C kP w A l.length l) (hl : l.length ≤ 999) (hs : ∀ k, k < l.length → (pat l k).from_.size ≤ 1000000 ∧ (pat l k).to_.size ≤ 1000000) (hR : rightB l = true) (hn : at_.toList.isEmpty = true ∨ ∀ k, k < l.length → ((pat l k).from_.toList == at_.toList) = false) :
    Calls Try.prog 23 #[.slice A l.length c, .string at_] w (RetN 7 w) := by
  have HR := Aside0.mk hr
  have HI := Aside0.mk hR
  have HF : Aside0 (∀ k, k < l.length → (pat l k).from_.size ≤ 1000000) := ⟨fun k hk => (hs k hk).1⟩
  clear hr hR hs
  rcases Bool.eq_false_or_eq_true at_.toList.isEmpty with e1 | e1
  · have e1' : (!at_.toList.isEmpty) = false := by rw [e1]; rfl
    clear hn
    go_enter Try.func23, Try.ntmps23
    go_wp2_with fail
    refine (rright_any _ _ l _ HR.out (by omega) HF.out).mono ?_
    rintro e w1 ⟨rfl, ⟨d, rfl⟩⟩
    rw [HI.out]
    go_wp2_with fail
    go_loopw [6, 7, 8] (fun v vb vj w' => ∃ (j : Nat) (dn : List Part), j ≤ l.length ∧ dn.length ≤ j ∧ vb = .bool false ∧ vj = .int .i64 j ∧ Aside0 (Kd.R kP 32 w' w.heap.size (fun _ => True) v dn) ∧ Aside0 (Below w.heap.size w w')) (fun _ _ vj _ => l.length - (intOf vj).toNat)
    case atStart => exact ⟨0, [], by omega, by simp, rfl, rfl, ⟨Kd.R_nil _ _ _ _ _⟩, ⟨pw_drewN (Below.refl _ _) d⟩⟩
    case round =>
      obtain ⟨j, dn, hj, hdn, rfl, rfl, HO, HB⟩ := hrel
      by_cases hlt : j < l.length
      · have h4 : (j : Int) < (l.length : Int) := by omega
        have h4' : decide (j < l.length) = true := dt hlt
        obtain ⟨ad, rfl, HH⟩ := kP_hold HR.out j hlt
        obtain ⟨c0, c1, c2⟩ := HH.out _ HB.out
        go_wp2_with (at_builtin; refine Kd.R_append kP (w0 := w) w.heap.size rfl (.tmp 40) (.tmp 45) 22 32 (.agg #[(.string ⟨#[]⟩), (.string ⟨#[]⟩), (.int .u64 0)]) 40 rfl Try.underlying22 info32 rfl (by decide) (by omega) u6 dn (pat l j) _ (fun _ => True) (fun _ => False) rfl ?hx (kP_mkM _ _ _ (pat l j)) (fun _ hk => hk.elim) (fun _ _ => trivial) HO.out HB.out HB.out.size (by omega) ?_; (case hx => simp [Act.eval]); intro v1 x1 ho hb _ _; have HO1 := Aside0.mk ho; have HB1 := Aside0.mk hb; clear ho hb)
        go_roundw
        case rel => exact ⟨j + 1, _, by omega, by simp; omega, rfl, by go_num, HO1, HB1⟩
        case measure => simp [intOf]; omega
      · obtain rfl : j = l.length := by omega
        have h4' : decide (l.length < l.length) = false := df (by omega)
        clear hlt
        go_wp2_with fail
        go_ret2
        exact ⟨rfl, HB.out⟩
  · have e1' : (!at_.toList.isEmpty) = true := by rw [e1]; rfl
    have HN : Aside0 (∀ k, k < l.length → ((pat l k).from_.toList == at_.toList) = false) := ⟨by
      rcases hn with hn | hn
      · rw [e1] at hn; cases hn
      · exact hn⟩
    clear hn
    go_enter Try.func23, Try.ntmps23
    go_wp2_with fail
    refine (rright_any _ _ l _ HR.out (by omega) HF.out).mono ?_
    rintro e w1 ⟨rfl, ⟨d, rfl⟩⟩
    rw [HI.out]
    go_wp2_with fail
    go_loopw [6, 7, 8] (fun v vb vj w' => ∃ (j : Nat) (dn : List Part), j ≤ l.length ∧ dn.length ≤ j ∧ vb = .bool false ∧ vj = .int .i64 j ∧ Aside0 (Kd.R kP 32 w' w.heap.size (fun _ => True) v dn) ∧ Aside0 (Below w.heap.size w w')) (fun _ _ vj _ => l.length - (intOf vj).toNat)
    case atStart => exact ⟨0, [], by omega, by simp, rfl, rfl, ⟨Kd.R_nil _ _ _ _ _⟩, ⟨pw_drewN (Below.refl _ _) d⟩⟩
    case round =>
      obtain ⟨j, dn, hj, hdn, rfl, rfl, HO, HB⟩ := hrel
      by_cases hlt : j < l.length
      · have h4 : (j : Int) < (l.length : Int) := by omega
        have h4' : decide (j < l.length) = true := dt hlt
        obtain ⟨ad, rfl, HH⟩ := kP_hold HR.out j hlt
        obtain ⟨c0, c1, c2⟩ := HH.out _ HB.out
        have hh := HN.out j hlt
        go_wp2_with (at_builtin; refine Kd.R_append kP (w0 := w) w.heap.size rfl (.tmp 40) (.tmp 45) 22 32 (.agg #[(.string ⟨#[]⟩), (.string ⟨#[]⟩), (.int .u64 0)]) 40 rfl Try.underlying22 info32 rfl (by decide) (by omega) u6 dn (pat l j) _ (fun _ => True) (fun _ => False) rfl ?hx (kP_mkM _ _ _ (pat l j)) (fun _ hk => hk.elim) (fun _ _ => trivial) HO.out HB.out HB.out.size (by omega) ?_; (case hx => simp [Act.eval]); intro v1 x1 ho hb _ _; have HO1 := Aside0.mk ho; have HB1 := Aside0.mk hb; clear ho hb)
        go_roundw
        case rel => exact ⟨j + 1, _, by omega, by simp; omega, rfl, by go_num, HO1, HB1⟩
        case measure => simp [intOf]; omega
      · obtain rfl : j = l.length := by omega
        have h4' : decide (l.length < l.length) = false := df (by omega)
        clear hlt
        go_wp2_with fail
        go_ret2
        exact ⟨rfl, HB.out⟩
set_option maxHeartbeats 4000000 in
set_option maxRecDepth 100000 in
theorem rjoin_yes (A : Option Addr) (c : Nat) (l : List Part) (at_ : ByteArray) (w : World) (hr : Kd.C kP w A l.length l) (hl : l.length ≤ 999) (hs : ∀ k, k < l.length → (pat l k).from_.size ≤ 1000000 ∧ (pat l k).to_.size ≤ 1000000) (hR : rightB l = true) (e1 : at_.toList.isEmpty = false) (m : Nat) (hm : m + 1 < l.length) (hm2 : (pat l (m + 1)).from_ = at_) :
    Calls Try.prog 23 #[.slice A l.length c, .string at_] w fun e w' => ∃ v, e = .returned (.tuple #[v, .int .i64 0]) ∧ Kd.R kP 32 w' w.heap.size (fun _ => True) v (joinL l (m + 1)) ∧ Below w.heap.size w w' := by
  have HNE : Aside0 (∀ k, k < l.length → ((pat l k).from_.toList == at_.toList) = decide (k = m + 1)) := ⟨fun k hk => by
    have hL := (rightB_iff l).1 hR
    by_cases h : k = m + 1
    · rw [(eqB_iff _ _).2 (by rw [h]; exact hm2)]; simp [h]
    · rw [(eqB_false _ _).2 ?_]
      · simp [h]
      · intro e
        rcases Nat.lt_or_gt_of_ne h with h2 | h2
        · have h1 := hL.lt h2 hm
          rw [e, hm2] at h1
          exact ltB_irrefl _ h1
        · have h1 := hL.lt h2 hk
          rw [e, hm2] at h1
          exact ltB_irrefl _ h1⟩
  clear hm2
  have HR := Aside0.mk hr
  have HI := Aside0.mk hR
  have HF : Aside0 (∀ k, k < l.length → (pat l k).from_.size ≤ 1000000) := ⟨fun k hk => (hs k hk).1⟩
  clear hr hR hs
  have e1' : (!at_.toList.isEmpty) = true := by rw [e1]; rfl
  go_enter Try.func23, Try.ntmps23
  go_wp2_with fail
  refine (rright_any _ _ l _ HR.out (by omega) HF.out).mono ?_
  rintro e w1 ⟨rfl, ⟨d, rfl⟩⟩
  rw [HI.out]
  go_wp2_with fail
  go_loopw [6, 7, 8] (fun v vb vj w' => ∃ (j : Nat) (dn : List Part) (b : Bool), j ≤ l.length ∧ dn.length ≤ j ∧ vb = .bool b ∧ vj = .int .i64 j ∧ Aside0 ((j ≤ m + 1 ∧ dn = l.take j ∧ b = false) ∨ (∃ k, j = m + 1 + 1 + k ∧ dn = JL l (m + 1) k ∧ b = true)) ∧ Aside0 (Kd.R kP 32 w' w.heap.size (fun _ => True) v dn) ∧ Aside0 (Below w.heap.size w w')) (fun _ _ vj _ => l.length - (intOf vj).toNat)
  case atStart => exact ⟨0, [], false, by omega, by simp, rfl, rfl, ⟨.inl ⟨by omega, rfl, rfl⟩⟩, ⟨Kd.R_nil _ _ _ _ _⟩, ⟨pw_drewN (Below.refl _ _) d⟩⟩
  case round =>
    obtain ⟨j, dn, b, hj, hdn, rfl, rfl, HX, HO, HB⟩ := hrel
    by_cases hlt : j < l.length
    · have h4 : (j : Int) < (l.length : Int) := by omega
      have h4' : decide (j < l.length) = true := dt hlt
      obtain ⟨ad, rfl, HH⟩ := kP_hold HR.out j hlt
      obtain ⟨c0, c1, c2⟩ := HH.out _ HB.out
      have hh := HNE.out j hlt
      by_cases hjm : j = m + 1
      · subst hjm
        rw [show decide (m + 1 = m + 1) = true by simp] at hh
        have hdn2 : dn = l.take (m + 1) := by
          rcases HX.out with ⟨_, h, _⟩ | ⟨k, h, _⟩
          · exact h
          · omega
        have hdl : dn.length = m + 1 := by rw [hdn2, List.length_take]; omega
        obtain ⟨g, cap, rfl⟩ := row_at HO.out (by omega)
        have ho := HO.out
        rw [hdl] at ho ⊢
        obtain ⟨q1, q2, hbg, hr4⟩ := R_to (k := m) ho (by omega) (pat l (m + 1)).to_
        rw [hdn2, JL_zero hm] at hr4
        have HO1 := Aside0.mk hr4
        have HB1 := Aside0.mk (HB.out.setCell (p := ⟨g, m * 3 + 1, none⟩) hbg (.string (pat l (m + 1)).to_))
        clear hr4 ho hbg hdn2 hdl hdn
        go_wp2_with fail
        go_roundw
        case rel => exact ⟨m + 1 + 1, _, _, by omega, JL_len l (m + 1) 0 (by omega) |> fun h => by omega, rfl, by go_num, ⟨.inr ⟨0, rfl, rfl, rfl⟩⟩, HO1, HB1⟩
        case measure => simp [intOf]; omega
      · rw [show decide (j = m + 1) = false by simp [hjm]] at hh
        have HX1 : Aside0 ((j + 1 ≤ m + 1 ∧ dn ++ [pat l j] = l.take (j + 1) ∧ b = false) ∨ (∃ k, j + 1 = m + 1 + 1 + k ∧ dn ++ [pat l j] = JL l (m + 1) k ∧ b = true)) := ⟨by
          rcases HX.out with ⟨h1, h2, h3⟩ | ⟨k, h1, h2, h3⟩
          · exact .inl ⟨by omega, by rw [h2]; exact pat_take hlt, h3⟩
          · refine .inr ⟨k + 1, by omega, ?_, h3⟩
            rw [h2, h1]
            exact JL_next (by omega)⟩
        clear hjm
        go_wp2_with (at_builtin; refine Kd.R_append kP (w0 := w) w.heap.size rfl (.tmp 40) (.tmp 45) 22 32 (.agg #[(.string ⟨#[]⟩), (.string ⟨#[]⟩), (.int .u64 0)]) 40 rfl Try.underlying22 info32 rfl (by decide) (by omega) u6 dn (pat l j) _ (fun _ => True) (fun _ => False) rfl ?hx (kP_mkM _ _ _ (pat l j)) (fun _ hk => hk.elim) (fun _ _ => trivial) HO.out HB.out HB.out.size (by omega) ?_; (case hx => simp [Act.eval]); intro v1 x1 ho hb _ _; have HO1 := Aside0.mk ho; have HB1 := Aside0.mk hb; clear ho hb)
        go_roundw
        case rel => exact ⟨j + 1, _, _, by omega, by simp; omega, rfl, by go_num, HX1, HO1, HB1⟩
        case measure => simp [intOf]; omega
    · obtain rfl : j = l.length := by omega
      have h4' : decide (l.length < l.length) = false := df (by omega)
      have hx : dn = joinL l (m + 1) ∧ b = true := by
        rcases HX.out with ⟨h1, _⟩ | ⟨k, h1, h2, h3⟩
        · omega
        · refine ⟨?_, h3⟩
          rw [h2, ← JL_full hm]
          congr 1
          omega
      obtain ⟨hx1, rfl⟩ := hx
      have HX1 := Aside0.mk hx1
      clear hlt hx1 HX
      go_wp2_with fail
      go_ret2
      rw [← HX1.out]
      exact ⟨_, rfl, HO.out, HB.out⟩
theorem rjoin_any (A : Option Addr) (c : Nat) (l : List Part) (at_ : ByteArray) (w : World) (hr : Kd.C kP w A l.length l) (hl : l.length ≤ 999) (hs : ∀ k, k < l.length → (pat l k).from_.size ≤ 1000000 ∧ (pat l k).to_.size ≤ 1000000) :
    Calls Try.prog 23 #[.slice A l.length c, .string at_] w fun e w' => ∃ v, e = .returned (.tuple #[v, .int .i64 (joinK l at_)]) ∧ Kd.R kP 32 w' w.heap.size (fun _ => True) v (joinR l at_) ∧ Below w.heap.size w w' := by
  have hn : ∀ k, k ≠ 0 → joinK l at_ = k → Calls Try.prog 23 #[.slice A l.length c, .string at_] w (RetN k w) → Calls Try.prog 23 #[.slice A l.length c, .string at_] w fun e w' => ∃ v, e = .returned (.tuple #[v, .int .i64 (joinK l at_)]) ∧ Kd.R kP 32 w' w.heap.size (fun _ => True) v (joinR l at_) ∧ Below w.heap.size w w' := by
    intro k hk he h
    refine h.mono ?_
    rintro e w' ⟨rfl, hb⟩
    have e0 : joinR l at_ = [] := by unfold joinR; rw [if_neg (by rw [he]; exact hk)]
    rw [he, e0]
    exact ⟨_, rfl, Kd.R_nil _ _ _ _ _, hb⟩
  rcases Bool.eq_false_or_eq_true (rightB l) with hR | hR
  · have hL := (rightB_iff l).1 hR
    obtain ⟨i, hp, ha, his⟩ := place_at hL at_
    rcases Bool.eq_false_or_eq_true at_.toList.isEmpty with he | he
    · refine hn 7 (by decide) ?_ (rjoin_none A c l at_ w hr hl hs hR (.inl he))
      unfold joinK
      rw [hR, if_pos rfl, empty_pl hL he]
      simp
    · rcases Bool.eq_false_or_eq_true (isL l at_) with hi | hi
      · have h0 : i ≠ 0 := by
          rintro rfl
          have h1 := his.1 hi
          have h2 : (pat l 0).from_.toList.isEmpty = true := (emptyB _).2 hL.head
          rw [h1, he] at h2
          cases h2
        obtain ⟨m, rfl⟩ : ∃ m, i = m + 1 := ⟨i - 1, by omega⟩
        have h5 : (plI l at_).toNat = m + 1 := by rw [hp]; rfl
        have hk : joinK l at_ = 0 := by unfold joinK; rw [hR, if_pos rfl, hi, h5]; simp
        have hk2 : joinR l at_ = joinL l (m + 1) := by unfold joinR; rw [if_pos hk, h5]
        rw [hk, hk2]
        exact rjoin_yes A c l at_ w hr hl hs hR he m ha.lt (his.1 hi)
      · refine hn 7 (by decide) ?_ (rjoin_none A c l at_ w hr hl hs hR (.inr fun k hk => ?_))
        · unfold joinK
          rw [hR, if_pos rfl, hi]
          simp
        · rw [eqB_false]
          intro e
          have hk2 : At l at_ k := ⟨hk, by rw [e]; exact ltB_irrefl _, fun m h1 h2 => by rw [← e]; exact hL.lt h1 h2⟩
          obtain rfl := hk2.unique hL ha
          rw [his.2 e] at hi
          cases hi
  · refine hn 3 (by decide) ?_ (rjoin_form A c l at_ w hr hl hs hR)
    unfold joinK
    rw [hR]; rfl
end Go.Proofs.Ytoemddjolfblbaa
