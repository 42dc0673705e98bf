/- route.place, route.Find and Find of the reference: what each answers. -/
import Derived.Test.YtoemddjolfblbaaH
import Derived.Test.YtoemddjolfblbaaB
set_option linter.unusedVariables false
set_option linter.unusedSimpArgs false
namespace Go.Proofs.Ytoemddjolfblbaa
open Go.RowKit Go.Proofs.YtoemddjolfblbaaW.PrintWords

theorem ret_tup {a b : Array Value} (h : a = b) : Ending.returned (.tuple a) = .returned (.tuple b) := by rw [h]
set_option maxHeartbeats 1000000 in
theorem place_any (A : Option Addr) (c : Nat) (l : List Part) (row : ByteArray) (w : World) (hr : Kd.C kP w A l.length l) (hc : l.length ≤ c) (hl : l.length ≤ 1000) :
    Calls Try.prog 24 #[.slice A l.length c, .string row] w fun e w' => e = .returned (.tuple #[.int .i64 (plI l row), .bool (isL l row)]) ∧ Below w.heap.size w w' := by
  have hb : bsL l row ≤ 2000 := by
    have := bsr_le (fun i => cmpB (pat l i).from_ row) (l.length + 1) 0 l.length (by omega)
    unfold bsL
    omega
  have H : Aside0 (Calls Try.prog 30 #[.slice A l.length c, .string row, .func (.func 31) #[] #[]] w fun e w' => ∃ b, e = .returned (.tuple #[.int .i64 (bsL l row), .bool b]) ∧ b = isL l row ∧ Below w.heap.size w w') := ⟨bsearch_any A c l row w hr hc hl⟩
  clear hr
  unfold plI
  rcases Bool.eq_false_or_eq_true (isL l row) with hi | hi
  all_goals
    rw [hi]
    have HI := Aside0.mk hi
    clear hi
    go_enter Try.func24, Try.ntmps24
    go_wp2_with fail
    refine H.out.mono ?_
    rintro e w1 ⟨b, rfl, hb1, hb2⟩
    have e := hb1.trans HI.out
    clear hb1
    subst e
    go_wp2_with fail
    go_ret2
    exact ⟨rfl, hb2⟩


/-- A box of three cells that the call made, in a later world. -/
theorem box3 {w w2 : World} {a b c : Value} {t : TypeId} (h : Below (w.heap.size + 1) (w.alloc (.cells #[a, b, c] t)) w2) :
    w2.cell? ⟨w.heap.size, 0, none⟩ = some a ∧ w2.cell? ⟨w.heap.size, 1, none⟩ = some b ∧ w2.cell? ⟨w.heap.size, 2, none⟩ = some c ∧
      w2.frozen? ⟨w.heap.size, 0, none⟩ = false ∧ w2.frozen? ⟨w.heap.size, 1, none⟩ = false ∧ w2.frozen? ⟨w.heap.size, 2, none⟩ = false ∧ w.heap.size < w2.heap.size := by
  have hh : w2.heap[w.heap.size]? = some (.cells #[a, b, c] t (0, 0)) := (h.block _ (by omega)).trans (heap_alloc_new w _)
  refine ⟨?_, ?_, ?_, ?_, ?_, ?_, by have := h.size; simp at this; omega⟩
  · rw [cell_of_row w2 _ 0 _ t (0, 0) hh]; rfl
  · rw [cell_of_row w2 _ 1 _ t (0, 0) hh]; rfl
  · rw [cell_of_row w2 _ 2 _ t (0, 0) hh]; rfl
  all_goals simp [World.frozen?, hh]
theorem box3_set {w : World} {B : Nat} {a b c : Value} {t : TypeId} (hh : w.heap[B]? = some (.cells #[a, b, c] t (0, 0))) (x y z : Value) :
    (((w.setCell ⟨B, 0, none⟩ x).setCell ⟨B, 1, none⟩ y).setCell ⟨B, 2, none⟩ z).cell? ⟨B, 0, none⟩ = some x ∧ (((w.setCell ⟨B, 0, none⟩ x).setCell ⟨B, 1, none⟩ y).setCell ⟨B, 2, none⟩ z).cell? ⟨B, 1, none⟩ = some y ∧
      (((w.setCell ⟨B, 0, none⟩ x).setCell ⟨B, 1, none⟩ y).setCell ⟨B, 2, none⟩ z).cell? ⟨B, 2, none⟩ = some z := by
  have h1 := blk_set (blk_set (blk_set hh 0 x) 1 y) 2 z
  exact ⟨blk_cell h1 0, blk_cell h1 1, blk_cell h1 2⟩
theorem box3_heap {w w2 : World} {a b c : Value} {t : TypeId} (h : Below (w.heap.size + 1) (w.alloc (.cells #[a, b, c] t)) w2) : w2.heap[w.heap.size]? = some (.cells #[a, b, c] t (0, 0)) := (h.block _ (by omega)).trans (heap_alloc_new w _)
theorem below_set3 {w w2 : World} (h : Below w.heap.size w w2) (x y z : Value) : Below w.heap.size w (((w2.setCell ⟨w.heap.size, 0, none⟩ x).setCell ⟨w.heap.size, 1, none⟩ y).setCell ⟨w.heap.size, 2, none⟩ z) :=
  ((h.setCell (Nat.le_refl _) _).setCell (Nat.le_refl _) _).setCell (Nat.le_refl _) _
def getL (l : List Part) (row : ByteArray) : Part := pat l (plI l row).toNat
def noPart : Part := ⟨⟨#[]⟩, ⟨#[]⟩, 0⟩
def findL (l : List Part) (row : ByteArray) : Part := if rightB l then getL l row else noPart

set_option maxHeartbeats 2000000 in
theorem find_any (A : Option Addr) (c : Nat) (l : List Part) (row : ByteArray) (w : World) (hr : Kd.C kP w A l.length l) (hc : l.length ≤ c) (hl : l.length ≤ 1000) :
    Calls Try.prog 11 #[.slice A l.length c, .string row] w fun e w' => e = .returned (.tuple #[(findL l row).val, .bool (rightB l)]) ∧ Below w.heap.size w w' := by
  have HR := Aside0.mk hr
  clear hr
  unfold findL
  rcases Bool.eq_false_or_eq_true (rightB l) with hi | hi
  all_goals
    rw [hi]
    have HI := Aside0.mk hi
    clear hi
  · obtain ⟨i, hp, ha, his⟩ := place_at ((rightB_iff l).1 HI.out) row
    have hk : rightK l = 0 := by unfold rightK; rw [HI.out]; rfl
    have hg : getL l row = pat l i := by unfold getL; rw [hp]; rfl
    rw [if_pos rfl, hg]
    have h3 : (i : Int) < l.length := by have := ha.lt; omega
    obtain ⟨ad, rfl, HH⟩ := kP_hold HR.out i ha.lt
    have HP := Aside0.mk hp
    have HK := Aside0.mk hk
    clear hp ha his hk hg
    go_enter Try.func11, Try.ntmps11
    go_wp2_with fail
    refine (right_any _ _ l _ (Kd.C_below HR.out ((Below.refl _ _).alloc (Nat.le_refl _) _)) (by omega)).mono ?_
    rintro e w1 ⟨rfl, hb1⟩
    rw [HK.out]
    have hB1 : Below (w.heap.size + 1) (w.alloc (.cells #[.string ⟨#[]⟩, .string ⟨#[]⟩, .int .u64 0] 27)) w1 := by simpa using hb1
    have HB1 := Aside0.mk hB1
    have HW1 := Aside0.mk (((Below.refl w.heap.size w).alloc (Nat.le_refl _) _).trans (hB1.mono (by omega)))
    clear hb1 hB1
    go_wp2_with fail
    refine (place_any _ _ l row _ (Kd.C_below HR.out HW1.out) hc hl).mono ?_
    rintro e w2 ⟨rfl, hb2⟩
    have HW2 := Aside0.mk (HW1.out.trans (hb2.mono HW1.out.size))
    obtain ⟨x0, x1, x2, x3, x4, x5, x6⟩ := box3 (HB1.out.trans (hb2.mono (by have := HB1.out.size; simpa using this)))
    obtain ⟨q0, q1, q2⟩ := box3_set (box3_heap (HB1.out.trans (hb2.mono (by have := HB1.out.size; simpa using this)))) (.string (pat l i).from_) (.string (pat l i).to_) (.int .u64 (pat l i).group)
    obtain ⟨c0, c1, c2⟩ := HH.out _ HW2.out
    rw [HP.out]
    clear hb2
    go_wp2_with fail
    exact bodyPost_ret (v := .tuple #[.agg #[.string (pat l i).from_, .string (pat l i).to_, .int .u64 (pat l i).group], .bool true]) (by simp [results, Try.results11, go_sem, q0, q1, q2]) rfl ⟨rfl, below_set3 HW2.out _ _ _⟩
  · have hk : rightK l = 3 := by unfold rightK; rw [HI.out]; rfl
    have HK := Aside0.mk hk
    clear hk
    rw [if_neg (by simp)]
    go_enter Try.func11, Try.ntmps11
    go_wp2_with fail
    refine (right_any _ _ l _ (Kd.C_below HR.out ((Below.refl _ _).alloc (Nat.le_refl _) _)) (by omega)).mono ?_
    rintro e w1 ⟨rfl, hb1⟩
    rw [HK.out]
    have hB1 : Below (w.heap.size + 1) (w.alloc (.cells #[.string ⟨#[]⟩, .string ⟨#[]⟩, .int .u64 0] 27)) w1 := by simpa using hb1
    have HB1 := Aside0.mk hB1
    have HW1 := Aside0.mk (((Below.refl w.heap.size w).alloc (Nat.le_refl _) _).trans (hB1.mono (by omega)))
    obtain ⟨x0, x1, x2, x3, x4, x5, x6⟩ := box3 HB1.out
    obtain ⟨q0, q1, q2⟩ := box3_set (box3_heap HB1.out) (.string ⟨#[]⟩) (.string ⟨#[]⟩) (.int .u64 0)
    clear hb1 hB1
    go_wp2_with fail
    exact bodyPost_ret (v := .tuple #[.agg #[.string ⟨#[]⟩, .string ⟨#[]⟩, .int .u64 0], .bool false]) (by simp [results, Try.results11, go_sem, q0, q1, q2]) rfl ⟨rfl, below_set3 HW1.out _ _ _⟩

theorem has_iff {l : List Part} (h : RightL l) (row : ByteArray) {k : Nat} (hk : k < l.length) : hasB (pat l k).from_ (pat l k).to_ row = true ↔ At l row k := by
  unfold hasB
  simp only [Bool.and_eq_true, Bool.not_eq_true', belowB_false, Bool.or_eq_true, emptyB, belowB_iff]
  constructor
  · rintro ⟨h1, h2⟩
    refine ⟨hk, h1, fun m hm hm2 => ?_⟩
    have e := h.joint k (by omega)
    rcases h2 with h2 | h2
    · exfalso
      have h3 := h.rise k (by omega)
      rw [e, h2] at h3
      exact empty_le ((emptyB _).2 rfl) h3
    · rw [← e] at h2
      exact lt_of_lt_le h2 (h.le (by omega) hm2)
  · intro ha
    refine ⟨ha.from_, ?_⟩
    rcases Nat.lt_or_ge (k + 1) l.length with h1 | h1
    · right
      rw [← h.joint k h1]
      exact ha.next (k + 1) (by omega) h1
    · left
      have := h.last
      rwa [show l.length - 1 = k by omega] at this

set_option maxHeartbeats 4000000 in
set_option maxRecDepth 100000 in
theorem rfind_any (A : Option Addr) (c : Nat) (l : List Part) (row : ByteArray) (w : World) (hr : Kd.C kP w A l.length l) (hl : l.length ≤ 1000) (hs : ∀ k, k < l.length → (pat l k).from_.size ≤ 1000000 ∧ (pat l k).to_.size ≤ 1000000) (hrow : row.size ≤ 1000000) :
    Calls Try.prog 13 #[.slice A l.length c, .string row] w fun e w' => e = .returned (.tuple #[(findL l row).val, .bool (rightB l)]) ∧ Below w.heap.size w w' := by
  have HR := Aside0.mk hr
  have HS := Aside0.mk hs
  have HF : Aside0 (∀ k, k < l.length → (pat l k).from_.size ≤ 1000000) := ⟨fun k hk => (hs k hk).1⟩
  clear hr hs
  unfold findL
  rcases Bool.eq_false_or_eq_true (rightB l) with hi | hi
  all_goals
    rw [hi]
    have HI := Aside0.mk hi
    clear hi
  · rw [if_pos rfl]
    obtain ⟨n, hp, ha, his⟩ := place_at ((rightB_iff l).1 HI.out) row
    have hg : getL l row = pat l n := by unfold getL; rw [hp]; rfl
    rw [hg]
    have HA := Aside0.mk ha
    have hn := ha.lt
    clear hp ha his hg
    go_enter Try.func13, Try.ntmps13
    go_wp2_with fail
    go_loopw [6] (fun vi w' => ∃ i : Nat, i ≤ n ∧ vi = .int .i64 i ∧ Aside0 (Below (w.heap.size + 1) (w.alloc (.cells #[.string ⟨#[]⟩, .string ⟨#[]⟩, .int .u64 0] 32)) w')) (fun vi _ => l.length - (intOf vi).toNat)
    case atStart => exact ⟨0, by omega, rfl, ⟨Below.refl _ _⟩⟩
    case round =>
      obtain ⟨i, hi, rfl, HB⟩ := hrel
      have HW := Aside0.mk (((Below.refl w.heap.size w).alloc (Nat.le_refl _) _).trans (HB.out.mono (by omega)))
      have h3 : (i : Int) < l.length := by omega
      have h3' : decide (i < l.length) = true := dt (by omega)
      obtain ⟨ad, rfl, HH⟩ := kP_hold HR.out i (by omega)
      obtain ⟨c0, c1, c2⟩ := HH.out _ HW.out
      go_wp2_with fail
      refine (rright_any _ _ l _ (Kd.C_below HR.out HW.out) (by omega) HF.out).mono ?_
      rintro e w1 ⟨rfl, ⟨d, rfl⟩⟩
      rw [HI.out]
      go_wp2_with fail
      refine (has_any _ _ _ _ _ (HS.out i (by omega)).1 (HS.out i (by omega)).2 hrow).mono ?_
      rintro e w2 ⟨rfl, hb2⟩
      have HB2 := Aside0.mk ((pw_drewN HB.out d).trans (hb2.mono (by have := HB.out.size; simpa using this)))
      have HW2 := Aside0.mk (((Below.refl w.heap.size w).alloc (Nat.le_refl _) _).trans (HB2.out.mono (by omega)))
      clear hb2
      by_cases hin : i = n
      · have hh : hasB (pat l i).from_ (pat l i).to_ row = true := (has_iff ((rightB_iff l).1 HI.out) row (by omega)).2 (by rw [hin]; exact HA.out)
        rw [hh]
        have HIN := Aside0.mk hin
        clear hh hin
        obtain ⟨x0, x1, x2, x3, x4, x5, x6⟩ := box3 HB2.out
        obtain ⟨q0, q1, q2⟩ := box3_set (box3_heap HB2.out) (.string (pat l i).from_) (.string (pat l i).to_) (.int .u64 (pat l i).group)
        obtain ⟨c0, c1, c2⟩ := HH.out _ HW2.out
        go_wp2_with fail
        exact bodyPost_ret (v := .tuple #[.agg #[.string (pat l i).from_, .string (pat l i).to_, .int .u64 (pat l i).group], .bool true]) (by simp [results, Try.results13, go_sem, q0, q1, q2]) rfl ⟨by rw [HIN.out]; rfl, below_set3 HW2.out _ _ _⟩
      · have hh : hasB (pat l i).from_ (pat l i).to_ row = false := by
          rw [← Bool.not_eq_true, has_iff ((rightB_iff l).1 HI.out) row (by omega)]
          exact fun h => hin (h.unique ((rightB_iff l).1 HI.out) HA.out)
        rw [hh]
        clear hh
        go_wp2_with fail
        go_roundw
        case rel => exact ⟨i + 1, by omega, by go_num, HB2⟩
        case measure => simp [intOf]; omega
  · rw [if_neg (by simp)]
    by_cases h0 : l.length = 0
    · have h3' : decide ((0 : Int) < (l.length : Int)) = false := df (by omega)
      have h4' : decide (0 < l.length) = false := df (by omega)
      obtain ⟨q0, q1, q2⟩ := box3_set (box3_heap (Below.refl (w.heap.size + 1) (w.alloc (.cells #[.string ⟨#[]⟩, .string ⟨#[]⟩, .int .u64 0] 32)))) (.string ⟨#[]⟩) (.string ⟨#[]⟩) (.int .u64 0)
      clear h0
      go_enter Try.func13, Try.ntmps13
      go_wp2_with fail
      refine wp_loop_once ?_
      go_wp2_with fail
      exact bodyPost_ret (v := .tuple #[.agg #[.string ⟨#[]⟩, .string ⟨#[]⟩, .int .u64 0], .bool false]) (by simp [results, Try.results13, go_sem]) rfl ⟨rfl, (Below.refl w.heap.size w).alloc (Nat.le_refl _) _⟩
    · have h3' : decide ((0 : Int) < (l.length : Int)) = true := dt (by omega)
      have h4' : decide (0 < l.length) = true := dt (by omega)
      clear h0
      go_enter Try.func13, Try.ntmps13
      go_wp2_with fail
      refine wp_loop_once ?_
      go_wp2_with fail
      refine (rright_any _ _ l _ (Kd.C_below HR.out ((Below.refl _ _).alloc (Nat.le_refl _) _)) (by omega) HF.out).mono ?_
      rintro e w1 ⟨rfl, ⟨d, rfl⟩⟩
      rw [HI.out]
      go_wp2_with fail
      exact bodyPost_ret (v := .tuple #[.agg #[.string ⟨#[]⟩, .string ⟨#[]⟩, .int .u64 0], .bool false]) (by simp [results, Try.results13, go_sem]) rfl ⟨rfl, below_set3 (pw_drewN ((Below.refl w.heap.size w).alloc (Nat.le_refl _) _) d) _ _ _⟩
end Go.Proofs.Ytoemddjolfblbaa
