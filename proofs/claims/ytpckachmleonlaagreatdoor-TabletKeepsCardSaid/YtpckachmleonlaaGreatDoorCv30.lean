/- Words and walks for Split and Tablet: texts of these sessions, and of the kit's print, cut down to what is used (A3 B3 C3). -/
import Derived.Test.YtpckachmleonlaaGreatDoorCv29
import Derived.Shelf.Abstract
section
set_option linter.unusedVariables false
set_option linter.unusedSimpArgs false
namespace Go.Proofs.YtpckachmleonlaaGreatDoor.Cp
open Go.RowKit Go.Proofs.YtpckachmleonlaaGreatDoorW.PrintWords
theorem cmpL_esc2 : ∀ s s' u : List UInt8, cmpL (rep s ++ [0, 1] ++ u) (rep s' ++ [0, 2]) = if cmpL s s' = 0 then -1 else cmpL s s'
  | [], [], u => by
    simp only [rep, List.nil_append, List.cons_append]
    rw [zDi, zFk (by decide)]
    rfl
  | [], b :: y, u => by
    have e : cmpL [] (b :: y) = -1 := rfl
    rw [e, if_neg (by decide)]
    by_cases hb : b = 0
    · subst hb
      simp only [rep, beq_self_eq_true, if_true, List.nil_append, List.cons_append, List.append_assoc]
      rw [zDi, zFk (by decide)]
    · have hb' : (b == 0) = false := by simpa using hb
      simp only [rep, hb', List.nil_append, List.cons_append, List.append_assoc, Bool.false_eq_true, if_false]
      rw [zFk (zEi hb)]
  | a :: x, [], u => by
    have e : cmpL (a :: x) [] = 1 := rfl
    rw [e, if_neg (by decide)]
    by_cases hb : a = 0
    · subst hb
      simp only [rep, beq_self_eq_true, if_true, List.nil_append, List.cons_append, List.append_assoc]
      rw [zDi, cmpL_gt (by decide)]
    · have hb' : (a == 0) = false := by simpa using hb
      simp only [rep, hb', List.nil_append, List.cons_append, List.append_assoc, Bool.false_eq_true, if_false]
      rw [cmpL_gt (zEi hb)]
  | a :: x, b :: y, u => by
    have ih := cmpL_esc2 x y u
    by_cases hab : a = b
    · subst hab
      rw [zDi, ← ih]
      by_cases ha : a = 0
      · subst ha
        simp only [rep, beq_self_eq_true, if_true, List.nil_append, List.cons_append, List.append_assoc]
        rw [zDi, zDi]
      · have ha' : (a == 0) = false := by simpa using ha
        simp only [rep, ha', List.nil_append, List.cons_append, List.append_assoc, Bool.false_eq_true, if_false]
        rw [zDi]
    · have hn : cmpL (a :: x) (b :: y) = if a < b then -1 else 1 := by
        conv => lhs; unfold cmpL
        rw [if_neg hab]
      have hn0 : ¬ cmpL (a :: x) (b :: y) = 0 := by rw [hn]; split <;> decide
      rw [if_neg hn0]
      by_cases ha : a = 0
      · subst ha
        have hb : b ≠ 0 := fun e => hab e.symm
        have hb' : (b == 0) = false := by simpa using hb
        simp only [rep, beq_self_eq_true, if_true, hb', List.nil_append, List.cons_append, List.append_assoc, Bool.false_eq_true, if_false]
        rw [zFk (zEi hb), zFk (zEi hb)]
      · have ha' : (a == 0) = false := by simpa using ha
        by_cases hb : b = 0
        · subst hb
          simp only [rep, beq_self_eq_true, if_true, ha', List.nil_append, List.cons_append, List.append_assoc, Bool.false_eq_true, if_false]
          rw [cmpL_gt (zEi ha), cmpL_gt (zEi ha)]
        · have hb' : (b == 0) = false := by simpa using hb
          simp only [rep, ha', hb', List.nil_append, List.cons_append, List.append_assoc, Bool.false_eq_true, if_false]
          rw [hn]
          conv => lhs; unfold cmpL
          rw [if_neg hab]
theorem key_row (r f q s : ByteArray) (t : Int) : (!belB (keyU r f q t) (escL s) && belB (keyU r f q t) (rep s.data.toList ++ [0, 2])) = decide (r = s) := by
  rw [key_below]
  unfold belB keyU escL
  have := cmpL_esc2 r.data.toList s.data.toList (rep f.data.toList ++ [0, 1] ++ (rep q.data.toList ++ [0, 1] ++ timeU t))
  rw [this]
  by_cases h : cmpL r.data.toList s.data.toList = 0
  · have e : r = s := Go.WideShapes.bytes_inj (cmpL_eq h)
    rw [if_pos h, h, decide_eq_true e]
    rfl
  · have e : r ≠ s := fun e => h (by rw [e]; exact cmpL_self _)
    rw [if_neg h, decide_eq_false e]
    by_cases h2 : cmpL r.data.toList s.data.toList < 0
    · simp [h2]
    · simp [h2]
end Go.Proofs.YtpckachmleonlaaGreatDoor.Cp
namespace Go.Proofs.YtpckachmleonlaaGreatDoor
open Go.RowKit Go.Proofs.YtpckachmleonlaaGreatDoorW.PrintWords
theorem insB_nums (lo hi : List UInt8) {x : CellM} (hx : OkC x) : insB (Cp.nums lo) (Cp.nums hi) (keyOf x) = (!Cp.belB (keyUO x) lo && Cp.belB (keyUO x) hi) := by
  unfold insB cmpI Cp.belB
  rw [keyOf_nums hx, u8s_nums, u8s_nums, u8s_nums, cb_cmpL, cb_cmpL]
def rowsC (a b : ByteArray) (cs : List CellM) : List CellM := cs.filter fun x => Cp.isB x.f0.f0 a b
def rowC (s : ByteArray) (cs : List CellM) : List CellM := cs.filter fun x => decide (x.f0.f0 = s)
theorem okC_row {x : CellM} (hx : OkC x) : x.f0.f0.size ≤ 32 := by
  have hk := of_decide_eq_true hx.k
  omega
theorem sel_rows {cs : List CellM} (h : OkL cs) (a b : ByteArray) : selC (Cp.nums (Cp.escL a)) (Cp.nums (Cp.hiL b)) cs = rowsC a b cs := by
  unfold selC rowsC
  apply List.filter_congr
  intro x hx
  rw [insB_nums _ _ (h.ok x hx)]
  exact Cp.between _ _ _ _ _ _ (okC_row (h.ok x hx))
theorem sel_row {cs : List CellM} (h : OkL cs) (s : ByteArray) : selC (Cp.nums (Cp.escL s)) (Cp.nums (Cp.rep s.data.toList ++ [0, 2])) cs = rowC s cs := by
  unfold selC rowC
  apply List.filter_congr
  intro x hx
  rw [insB_nums _ _ (h.ok x hx)]
  exact Cp.key_row _ _ _ _ _
theorem sel_all {cs : List CellM} (h : OkL cs) : selC [] (Cp.nums (List.replicate 33 255)) cs = cs := by
  unfold selC
  apply List.filter_eq_self.2
  intro x hx
  have h1 := insB_nums [] (List.replicate 33 255) (h.ok x hx)
  rw [show Cp.nums [] = [] from rfl] at h1
  rw [h1, show Cp.belB (keyUO x) (List.replicate 33 255) = true from Cp.key_full _ _ _ _ (okC_row (h.ok x hx))]
  unfold Cp.belB
  rw [Cp.cmpL_nil']
  split <;> rfl
set_option maxHeartbeats 4000000 in
set_option maxRecDepth 100000 in
theorem above_any (w : World) : Calls Tryz.prog 60 #[] w fun e w' => ∃ A, e = .returned (.slice A 33 33) ∧ kB.C w' A 33 (Cp.nums (List.replicate 33 255)) ∧ Below w.heap.size w w' := by
  have HRP : zAa (∀ (X : World) (g : Nat), X.heap[g]? = some (.cells #[.int .u8 255] 5 (0, 0)) → Calls Tryz.prog 97 #[.slice (some ⟨g, 0, none⟩) 1 1, .int .i64 33] X fun e w' => ∃ A, e = .returned (.slice A 33 33) ∧ kB.C w' A 33 (Cp.nums (List.replicate 33 255)) ∧ Below X.heap.size X w') := ⟨fun X g hg => Cp.repeat_any _ 1 X (Nat.le_refl _) (C_b1 hg)⟩
  go_enter Tryz.func60, Tryz.ntmps60
  go_wp2_with fail
  refine (HRP.out _ w.heap.size (heap_alloc_new _ _)).mono ?_
  rintro e w2 ⟨A, rfl, hc, hb⟩
  have HC := zAa.mk hc
  have HB : zAa (Below w.heap.size w w2) := ⟨(zAb (Below.refl _ _) _).trans (hb.mono (by simp))⟩
  clear hc hb
  go_wp2_with fail
  go_ret
  exact ⟨A, rfl, HC.out, HB.out⟩
set_option maxHeartbeats 4000000 in
set_option maxRecDepth 100000 in
theorem rows_any (ok : Nat → Prop) (w : World) (p : Nat) (a b : ByteArray) (cs : List CellM) (h : TabAt ok w p a b cs) (hcs : OkL cs) (hl : cs.length ≤ 100) (r s : ByteArray) (hr : r.size ≤ 32 ∧ s.size ≤ 32) :
    Calls Tryz.prog 106 #[.pointer (some ⟨p, 0, none⟩), .string r, .string s] w fun e w' => ∃ v, e = .returned v ∧ Kd.R kC 49 w' w.heap.size (fun _ => True) v (rowsC r s cs) ∧ Below w.heap.size w w' := by
  have HROW := zAa.mk (Cp.rows_ok r s w hr)
  have HCE : zAa (∀ (X : World) (A B : Option Addr) (c d : Nat), Below w.heap.size w X → kB.C X A (Cp.nums (Cp.escL r)).length (Cp.nums (Cp.escL r)) → kB.C X B (Cp.nums (Cp.hiL s)).length (Cp.nums (Cp.hiL s)) → Calls Tryz.prog 59 #[.pointer (some ⟨p, 0, none⟩), .slice A (Cp.nums (Cp.escL r)).length c, .slice B (Cp.nums (Cp.hiL s)).length d] X fun e w' => ∃ v, e = .returned v ∧ Kd.R kC 49 w' X.heap.size (fun _ => True) v (rowsC r s cs) ∧ Below X.heap.size X w') := ⟨fun X A B c d hX h1 h2 => by
    have h9 := cells_any ok X p a b cs (h.keep hX) hcs hl A B c d _ _ h1 h2
    rw [sel_rows hcs] at h9
    exact h9⟩
  obtain ⟨nl, hnl⟩ : ∃ n, (Cp.nums (Cp.escL r)).length = n := ⟨_, rfl⟩
  obtain ⟨nh, hnh⟩ : ∃ n, (Cp.nums (Cp.hiL s)).length = n := ⟨_, rfl⟩
  rw [hnl, hnh] at HROW HCE
  clear h hcs hl hr hnl hnh
  go_enter Tryz.func106, Tryz.ntmps106
  go_wp2_with fail
  refine HROW.out.mono ?_
  rintro e w2 ⟨A, B, c, d, rfl, hc, hd, h1, h2, hb⟩
  have HAB := zAa.mk (And.intro h1 h2)
  have HB := zAa.mk hb
  clear h1 h2 hb hc hd HROW
  go_wp2_with fail
  refine (HCE.out _ A B c d HB.out HAB.out.1 HAB.out.2).mono ?_
  rintro e w3 ⟨v, rfl, hr, hb⟩
  have HR := zAa.mk (rl_to HB.out hr)
  have HB3 := zAa.mk (bl_to HB.out hb)
  obtain ⟨A3, c3, e3⟩ := Kd.zAk hr
  subst e3
  clear hr hb
  go_wp2_with fail
  go_ret
  exact ⟨_, rfl, HR.out, HB3.out⟩
end Go.Proofs.YtpckachmleonlaaGreatDoor
end
section
set_option linter.unusedVariables false
set_option linter.unusedSimpArgs false
namespace Go.Proofs.YtpckachmleonlaaGreatDoor
open Go.RowKit Go.Proofs.YtpckachmleonlaaGreatDoorW.PrintWords
theorem esc_last (r : ByteArray) : ∃ m, (Cp.nums (Cp.escL r)).length = m + 1 ∧ (Cp.nums (Cp.escL r))[m]? = some 1 ∧ (Cp.nums (Cp.escL r)).set m 2 = Cp.nums (Cp.rep r.data.toList ++ [0, 2]) := by
  have e1 : Cp.nums (Cp.escL r) = Cp.nums (Cp.rep r.data.toList) ++ [0, 1] := by unfold Cp.escL Cp.nums; simp
  have e2 : Cp.nums (Cp.rep r.data.toList ++ [0, 2]) = Cp.nums (Cp.rep r.data.toList) ++ [0, 2] := by unfold Cp.nums; simp
  rw [e1, e2]
  generalize Cp.nums (Cp.rep r.data.toList) = l
  refine ⟨l.length + 1, by simp, by simp, ?_⟩
  rw [List.set_append_right _ _ (by omega), show l.length + 1 - l.length = 1 by omega]
  rfl
set_option maxHeartbeats 4000000 in
set_option maxRecDepth 100000 in
theorem row_any (ok : Nat → Prop) (w : World) (p : Nat) (a b : ByteArray) (cs : List CellM) (h : TabAt ok w p a b cs) (hcs : OkL cs) (hl : cs.length ≤ 100) (k : KeyM) (hr : k.f0.size ≤ 32) :
    Calls Tryz.prog 110 #[.pointer (some ⟨p, 0, none⟩), .agg #[.string k.f0, .string k.f1, .string k.f2, .int .u64 k.f3]] w fun e w' => ∃ v, e = .returned v ∧ Kd.R kC 49 w' w.heap.size (fun _ => True) v (rowC k.f0 cs) ∧ Below w.heap.size w w' := by
  obtain ⟨r, f, q, t⟩ := k
  simp only at hr ⊢
  obtain ⟨m, hm, hlast, hset⟩ := esc_last r
  have hml : m ≤ 10000 := by have := Cp.escL_length r (by omega); omega
  have HROW : zAa (∀ X, Calls Tryz.prog 135 #[.string r, .string ⟨#[]⟩] X fun e w' => ∃ (A1 B : Option Addr) (c1 n2 c2 : Nat), e = .returned (.tuple #[.slice A1 (m + 1 : Nat) c1, .slice B n2 c2, .int .i64 0]) ∧ (Cp.nums (Cp.escL r)).length ≤ c1 ∧ kB.C w' A1 (Cp.nums (Cp.escL r)).length (Cp.nums (Cp.escL r)) ∧ Below X.heap.size X w') := ⟨fun X => by
    have h9 := Cp.rows_ok r ⟨#[]⟩ X ⟨hr, by decide⟩
    refine h9.mono ?_
    rintro e w' ⟨A1, A2, c1, c2, rfl, h1, h2, h3, h4, h5⟩
    rw [hm]
    exact ⟨A1, A2, c1, _, c2, rfl, by rw [hm] at h1; exact h1, by rw [hm] at h3; exact h3, h5⟩⟩
  have HCE : zAa (∀ (X : World) (A B : Option Addr) (c d : Nat), Below w.heap.size w X → kB.C X A (Cp.nums (Cp.escL r)).length (Cp.nums (Cp.escL r)) → kB.C X B (m + 1) (Cp.nums (Cp.rep r.data.toList ++ [0, 2])) → Calls Tryz.prog 59 #[.pointer (some ⟨p, 0, none⟩), .slice A (m + 1 : Nat) c, .slice B (m + 1 : Nat) d] X fun e w' => ∃ v, e = .returned v ∧ Kd.R kC 49 w' X.heap.size (fun _ => True) v (rowC r cs) ∧ Below X.heap.size X w') := ⟨fun X A B c d hX h1 h2 => by
    have e2 : (Cp.nums (Cp.rep r.data.toList ++ [0, 2])).length = m + 1 := by rw [← hset, List.length_set, hm]
    have h9 := cells_any ok X p a b cs (h.keep hX) hcs hl A B c d _ _ h1 (by rw [e2]; exact h2)
    rw [sel_row hcs, hm, e2] at h9
    exact h9⟩
  have HM := zAa.mk (And.intro hm (And.intro hlast hset))
  clear h hcs hl hr hm hlast hset
  go_enter Tryz.func110, Tryz.ntmps110
  go_wp2_with fail
  refine (HROW.out _).mono ?_
  rintro e w2 ⟨A1, B, c1, n2, c2, rfl, hc1, hC1, hb⟩
  have HB2 : zAa (Below w.heap.size w w2) := ⟨(zAb (Below.refl _ _) _).trans (hb.mono (by simp))⟩
  have HC1 := zAa.mk (And.intro hc1 hC1)
  clear hb hc1 hC1 HROW
  go_wp2_with fail
  have h87 := cloneB_any A1 c1 (Cp.nums (Cp.escL r)) w2 HC1.out.2 HC1.out.1 (by have := HM.out.1; omega)
  rw [HM.out.1] at h87
  refine h87.mono ?_
  rintro e w3 ⟨v3, rfl, hr3, hb3⟩
  obtain ⟨A3, c3, e3⟩ := Kd.zAk hr3
  rw [HM.out.1] at e3
  subst e3
  obtain ⟨g, C, rfl, hg, hbg, _, hnc, hnC, hCj⟩ := own_block hr3 (by omega)
  have hx := hCj m 1 HM.out.2.1
  have HR3 := zAa.mk hr3
  have HB3 := zAa.mk hb3
  have HG := zAa.mk (And.intro hg hbg)
  have c0 : w3.cell? ⟨g, m, none⟩ = some (.int .u8 1) := (zAc hg m).trans hx
  have f0 : w3.frozen? ⟨g, m, none⟩ = false := zAd hg m
  have hlg := zAj hg
  have z1 : (m : Int) + 1 - 1 = m := by omega
  have z2 : (m : Int) < (m : Int) + 1 := by omega
  clear h87 hr3 hb3 hg hbg hnC hCj hx
  go_wp2_with fail
  have hset := Kd.R_putn (n := m + 1) HR3.out (m : Int) (2 : Int)
  rw [Int.toNat_natCast, HM.out.2.2] at hset
  have HW4 : zAa (Below w2.heap.size w2 (w3.setCell ⟨g, m, none⟩ (.int .u8 2))) := ⟨HB3.out.setCell HG.out.2 _⟩
  have HC4 : zAa (kB.C (w3.setCell ⟨g, m, none⟩ (.int .u8 2)) (some ⟨g, 0, none⟩) (m + 1) (Cp.nums (Cp.rep r.data.toList ++ [0, 2]))) := ⟨by
    have h9 := R_cap' hset
    have e2 : (Cp.nums (Cp.rep r.data.toList ++ [0, 2])).length = m + 1 := by rw [← HM.out.2.2, List.length_set, HM.out.1]
    rw [e2] at h9
    exact h9⟩
  generalize w3.setCell ⟨g, m, none⟩ (.int .u8 2) = w4 at HW4 HC4 ⊢
  clear hset c0 f0 hlg
  refine (HCE.out w4 A1 (some ⟨g, 0, none⟩) c1 c3 (bl_to HB2.out HW4.out) (Kd.zBb HC1.out.2 HW4.out) HC4.out).mono ?_
  rintro e w5 ⟨v, rfl, hr, hb⟩
  have HR := zAa.mk (rl_to (bl_to HB2.out HW4.out) hr)
  have HB5 := zAa.mk (bl_to (bl_to HB2.out HW4.out) hb)
  obtain ⟨A5, c5, e5⟩ := Kd.zAk hr
  subst e5
  clear hr hb
  go_wp2_with fail
  go_ret
  exact ⟨_, rfl, HR.out, HB5.out⟩
end Go.Proofs.YtpckachmleonlaaGreatDoor
end
section
set_option linter.unusedVariables false
set_option linter.unusedSimpArgs false
namespace Go.Proofs.YtpckachmleonlaaGreatDoor
open Go.RowKit Go.Proofs.YtpckachmleonlaaGreatDoorW.PrintWords
def keyV (k : KeyM) : Value := .agg #[.string k.f0, .string k.f1, .string k.f2, .int .u64 k.f3]
def colB (a b : KeyM) : Bool := decide (a.f0 = b.f0 ∧ a.f1 = b.f1 ∧ a.f2 = b.f2)
theorem ba_eq {a b : ByteArray} : a.toList = b.toList ↔ a = b := by
  rw [ByteArray.toList_eq, ByteArray.toList_eq]
  exact ⟨fun h => Go.WideShapes.bytes_inj h, fun h => by rw [h]⟩
set_option maxHeartbeats 4000000 in
set_option maxRecDepth 100000 in
theorem column_eq (a b : KeyM) (w : World) : Calls Tryz.prog 134 #[keyV a, keyV b] w fun e w' => e = .returned (.bool (colB a b)) ∧ Below w.heap.size w w' := by
  obtain ⟨r, f, q, t⟩ := a
  obtain ⟨r', f', q', t'⟩ := b
  unfold keyV
  simp only
  go_enter Tryz.func134, Tryz.ntmps134
  go_wp2_with fail
  all_goals (
    go_ret
    refine ⟨?_, zAb (zAb (Below.refl _ _) _) _⟩
    simp only [colB]
    simp_all [ba_eq])
  all_goals rfl
def colC (k : KeyM) (cs : List CellM) : List CellM := cs.filter fun x => colB x.f0 k
theorem col_row (k : KeyM) (cs : List CellM) : (rowC k.f0 cs).filter (fun x => !(!colB x.f0 k)) = colC k cs := by
  unfold rowC colC
  rw [List.filter_filter]
  apply List.filter_congr
  intro x _
  unfold colB
  by_cases h : x.f0.f0 = k.f0
  · simp [h]
  · simp [h]
set_option maxHeartbeats 4000000 in
set_option maxRecDepth 100000 in
theorem colpred (k : KeyM) (g : Nat) (x : CellM) (V : Option Addr) (c : Nat) (W : World) (hg : W.heap[g]? = some (.cells #[.string k.f0, .string k.f1, .string k.f2, .int .u64 k.f3] 46 (0, 0))) :
    Calls Tryz.prog 133 #[cellV x V c, .pointer (some ⟨g, 0, none⟩)] W fun e w' => e = .returned (.bool (!colB x.f0 k)) ∧ Below W.heap.size W w' := by
  have HC : zAa (∀ X : World, Calls Tryz.prog 134 #[.agg #[.string x.f0.f0, .string x.f0.f1, .string x.f0.f2, .int .u64 x.f0.f3], .agg #[.string k.f0, .string k.f1, .string k.f2, .int .u64 k.f3]] X fun e w' => e = .returned (.bool (colB x.f0 k)) ∧ Below X.heap.size X w') := ⟨fun X => column_eq x.f0 k X⟩
  have c0 := (zAc hg 0).trans (rfl : _ = some (Value.string k.f0))
  have c1 := (zAc hg 1).trans (rfl : _ = some (Value.string k.f1))
  have c2 := (zAc hg 2).trans (rfl : _ = some (Value.string k.f2))
  have c3 := (zAc hg 3).trans (rfl : _ = some (Value.int .u64 k.f3))
  have hl := zAj hg
  unfold cellV
  obtain ⟨l4, hl4⟩ : ∃ l4, x.f1.length = l4 := ⟨_, rfl⟩
  rw [hl4]
  generalize colB x.f0 k = b at HC ⊢
  clear hg hl4
  go_enter Tryz.func133, Tryz.ntmps133
  go_wp2_with fail
  refine (HC.out _).mono ?_
  rintro e w2 ⟨rfl, hb⟩
  have HB : zAa (Below W.heap.size W w2) := ⟨(zAb (Below.refl _ _) _).trans (hb.mono (by simp))⟩
  clear hb
  go_wp2_with fail
  go_ret
  exact ⟨rfl, HB.out⟩
set_option maxHeartbeats 4000000 in
set_option maxRecDepth 100000 in
theorem column_any (ok : Nat → Prop) (w : World) (p : Nat) (a b : ByteArray) (cs : List CellM) (h : TabAt ok w p a b cs) (hcs : OkL cs) (hl : cs.length ≤ 100) (k : KeyM) (hr : k.f0.size ≤ 32) :
    Calls Tryz.prog 105 #[.pointer (some ⟨p, 0, none⟩), .agg #[.string k.f0, .string k.f1, .string k.f2, .int .u64 k.f3]] w fun e w' => ∃ v, e = .returned v ∧ Kd.R kC 49 w' w.heap.size (fun _ => True) v (colC k cs) ∧ Below w.heap.size w w' := by
  have hrow := row_any ok (w.alloc (.cells #[.string k.f0, .string k.f1, .string k.f2, .int .u64 k.f3] 46)) p a b cs (h.keep (zAb (Below.refl _ _) _)) hcs hl k hr
  have HROW := zAa.mk hrow
  have HL : zAa ((rowC k.f0 cs).length ≤ 100) := ⟨Nat.le_trans (List.length_filter_le _ _) hl⟩
  clear hrow h hcs hl hr
  go_enter Tryz.func105, Tryz.ntmps105
  go_wp2_with fail
  refine HROW.out.mono ?_
  rintro e w2 ⟨v, rfl, hr, hb⟩
  have HB2 : zAa (Below w.heap.size w w2) := ⟨(zAb (Below.refl _ _) _).trans (hb.mono (by simp))⟩
  have HG := zAa.mk (zAf (heap_alloc_new w (.cells #[.string k.f0, .string k.f1, .string k.f2, .int .u64 k.f3] 46)) hb)
  have HR := zAa.mk hr
  obtain ⟨A2, c2, e2⟩ := Kd.zAk hr
  subst e2
  obtain ⟨n, hn⟩ : ∃ n, (rowC k.f0 cs).length = n := ⟨_, rfl⟩
  have HN := zAa.mk hn
  rw [hn] at HR HL ⊢
  clear hr hb hn HROW
  go_wp2_with fail
  have hdel := delf_any (w.heap.size + 1) 133 #[.pointer (some ⟨w.heap.size, 0, none⟩)] (enters_of Tryz.func133 (by kernel_rfl) rfl) (fun x => !colB x.f0 k) (rowC k.f0 cs) A2 n c2 w2 (by have h9 := HR.out; simpa using h9) (by have := HL.out; omega) (fun g hg W x V c hs => by
      have hne : w.heap.size ≠ g := by
        have h8 := Kd.R_base HR.out g hg
        simp at h8
        omega
      exact colpred k w.heap.size x V c W ((hs _ hne (zAj HG.out)).trans HG.out)) (by have h9 := zAj HG.out; omega) (fun _ W x V c hb => (colpred k w.heap.size x V c W (zAf HG.out hb)).mono fun e w' h9 => ⟨h9.1, hb.trans (h9.2.mono hb.size)⟩)
  rw [col_row] at hdel
  have HDEL := zAa.mk hdel
  clear hdel
  refine HDEL.out.mono ?_
  rintro e w3 ⟨v, rfl, hr, hb⟩
  have HR3 := zAa.mk (Kd.zCj (base' := w.heap.size) hr (by omega))
  have HB3 : zAa (Below w.heap.size w w3) := ⟨HB2.out.trans (hb.mono (by omega))⟩
  obtain ⟨A3, c3, e3⟩ := Kd.zAk hr
  subst e3
  clear hr hb HDEL
  go_wp2_with fail
  go_ret
  exact ⟨_, rfl, HR3.out, HB3.out⟩
end Go.Proofs.YtpckachmleonlaaGreatDoor
end
