/- The law RouteFinds at its call: true for every slice of parts and every row. -/
import Derived.Test.YtoemddjolfblbaaQ
/- The law RouteFinds. -/
set_option linter.unusedVariables false
set_option linter.unusedSimpArgs false
namespace Go.Proofs.Ytoemddjolfblbaa
open Go.RowKit Go.Proofs.YtoemddjolfblbaaW.PrintWords

abbrev Blk3 (w : World) (B : Nat) (a b c : Value) (t : TypeId) : Prop := w.heap[B]? = some (.cells #[a, b, c] t (0, 0))
theorem blk3_keep {w w' : World} {B : Nat} {a b c : Value} {t : TypeId} (h : Blk3 w B a b c t) (hb : Below w.heap.size w w') : Blk3 w' B a b c t := (hb.block B (blk_lt h)).trans h
theorem blk3_cells {w : World} {B : Nat} {a b c : Value} {t : TypeId} (h : Blk3 w B a b c t) : w.cell? ⟨B, 0, none⟩ = some a ∧ w.cell? ⟨B, 1, none⟩ = some b ∧ w.cell? ⟨B, 2, none⟩ = some c := ⟨blk_cell h 0, blk_cell h 1, blk_cell h 2⟩
theorem part_refl (p : Part) : (p.from_.toList == p.from_.toList && (p.to_.toList == p.to_.toList && (p.group == p.group))) = true := by simp
def TrueB (w : World) (e : Ending) (w' : World) : Prop := e = .returned (.bool true) ∧ Below w.heap.size w w'

theorem light_sizes {l : List Part} (h : lightB l = true) : l.length ≤ 100 ∧ ∀ k, k < l.length → (pat l k).from_.size ≤ 200 ∧ (pat l k).to_.size ≤ 200 := by
  simp only [lightB, Bool.and_eq_true, decide_eq_true_eq, allB, List.all_eq_true, List.mem_range, shortB] at h
  exact ⟨h.1, h.2⟩

set_option maxHeartbeats 2000000 in
set_option maxRecDepth 100000 in
theorem finds_any (A : Option Addr) (c : Nat) (l : List Part) (row : ByteArray) (w : World) (hr : Kd.C kP w A l.length l) (hc : l.length ≤ c) :
    Calls Try.prog 3 #[.slice A l.length c, .string row] w (TrueB w) := by
  have HR := Aside0.mk hr
  clear hr
  rcases Bool.eq_false_or_eq_true (lightB l) with hi | hi
  · obtain ⟨s1, s2⟩ := light_sizes hi
    have HS := Aside0.mk s2
    have HI := Aside0.mk hi
    clear hi s2
    by_cases hz : row.size ≤ 200
    · have d1 : decide ((200 : Int) < (row.size : Int)) = false := df (by omega)
      have d1' : decide (200 < row.size) = false := df (by omega)
      have HF : Aside0 (∀ k, k < l.length → (pat l k).from_.size ≤ 1000000 ∧ (pat l k).to_.size ≤ 1000000) := ⟨fun k hk => ⟨Nat.le_trans (HS.out k hk).1 (by omega), Nat.le_trans (HS.out k hk).2 (by omega)⟩⟩
      go_enter Try.func3, Try.ntmps3
      go_wp2_with fail
      refine (light_any _ _ l _ HR.out).mono ?_
      rintro e w1 ⟨rfl, rfl⟩
      rw [HI.out]
      go_wp2_with fail
      refine (own_any _ _ l _ HR.out (by omega)).mono ?_
      rintro e w1 ⟨v1, rfl, hr1, hb1⟩
      obtain ⟨A1, c1, rfl, hc1, hk1⟩ := Kd.R_reads hr1
      have HB1 := Aside0.mk hb1
      have HK1 := Aside0.mk hk1
      clear hr1 hb1 hk1
      go_wp2_with fail
      refine (find_any A1 c1 l row _ HK1.out hc1 (by omega)).mono ?_
      rintro e w2 ⟨rfl, hb2⟩
      have HB2 := Aside0.mk (HB1.out.trans (hb2.mono HB1.out.size))
      clear hb2
      obtain ⟨f0, t0, g0, hf0⟩ : ∃ f t g, findL l row = ⟨f, t, g⟩ := ⟨_, _, _, rfl⟩
      have HF0 := Aside0.mk hf0
      rw [hf0]
      clear hf0
      unfold Part.val
      go_wp2_with fail
      refine (rfind_any A c l row _ (Kd.C_below HR.out (HB2.out.alloc HB2.out.size _)) (by omega) HF.out (by omega)).mono ?_
      rintro e w3 ⟨rfl, hb3⟩
      rw [HF0.out]
      have hb3' : Below (w2.heap.size + 1) (w2.alloc (.cells #[.string f0, .string t0, .int .u64 g0] 27)) w3 := by simpa using hb3
      have HX := Aside0.mk (box3_heap hb3')
      have HB3 := Aside0.mk ((HB2.out.alloc HB2.out.size _).trans (hb3'.mono (by have := HB2.out.size; omega)))
      clear hb3 hb3'
      unfold Part.val
      go_wp2_with fail
      have HX4 : Aside0 (Blk3 (w3.alloc (.cells #[.string f0, .string t0, .int .u64 g0] 32)) w2.heap.size (.string f0) (.string t0) (.int .u64 g0) 27) := ⟨blk3_keep HX.out ((Below.refl _ _).alloc (Nat.le_refl _) _)⟩
      have HY4 : Aside0 (Blk3 (w3.alloc (.cells #[.string f0, .string t0, .int .u64 g0] 32)) w3.heap.size (.string f0) (.string t0) (.int .u64 g0) 32) := ⟨heap_alloc_new w3 _⟩
      have HB4 := Aside0.mk (HB3.out.alloc HB3.out.size (.cells #[.string f0, .string t0, .int .u64 g0] 32))
      generalize w3.alloc (.cells #[.string f0, .string t0, .int .u64 g0] 32) = w4 at HX4 HY4 HB4 ⊢
      clear HX
      refine (own_any A c l w4 (Kd.C_below HR.out HB4.out) (by omega)).mono ?_
      rintro e w5 ⟨v5, rfl, hr5, hb5⟩
      obtain ⟨A5, c5, rfl, hc5, hk5⟩ := Kd.R_reads hr5
      have HX5 := Aside0.mk (blk3_keep HX4.out hb5)
      have HY5 := Aside0.mk (blk3_keep HY4.out hb5)
      have HB5 := Aside0.mk (HB4.out.trans (hb5.mono HB4.out.size))
      have HK5 := Aside0.mk hk5
      clear hr5 hb5 hk5 HX4 HY4
      go_wp2_with fail
      refine (right_any A5 c5 l w5 HK5.out (by omega)).mono ?_
      rintro e w6 ⟨rfl, hb6⟩
      have HX6 := Aside0.mk (blk3_keep HX5.out hb6)
      have HY6 := Aside0.mk (blk3_keep HY5.out hb6)
      have HB6 := Aside0.mk (HB5.out.trans (hb6.mono HB5.out.size))
      clear hb6 HX5 HY5
      have HFF : Aside0 (∀ k, k < l.length → (pat l k).from_.size ≤ 1000000) := ⟨fun k hk => (HF.out k hk).1⟩
      rcases Bool.eq_false_or_eq_true (rightB l) with hb | hb
      all_goals
        first | rw [show rightK l = 0 by unfold rightK; rw [hb]; rfl] | rw [show rightK l = 3 by unfold rightK; rw [hb]; rfl]
        rw [hb]
        have HBB := Aside0.mk hb
        clear hb
        go_wp2_with fail
        refine (rright_any A c l w6 (Kd.C_below HR.out HB6.out) (by omega) HFF.out).mono ?_
        rintro e w7 ⟨rfl, ⟨d7, rfl⟩⟩
        rw [HBB.out]
        go_wp2_with fail
        refine (own_any A c l _ (Kd.C_below HR.out (pw_drewN HB6.out d7)) (by omega)).mono ?_
        rintro e w8 ⟨v8, rfl, hr8, hb8⟩
        obtain ⟨A8, c8, rfl, hc8, hk8⟩ := Kd.R_reads hr8
        have HX8 := Aside0.mk (blk3_keep (w := w6.drewN d7) HX6.out hb8)
        have HY8 := Aside0.mk (blk3_keep (w := w6.drewN d7) HY6.out hb8)
        have HB8 := Aside0.mk ((pw_drewN HB6.out d7).trans (hb8.mono HB6.out.size))
        have HK8 := Aside0.mk hk8
        clear hr8 hb8 hk8 HX6 HY6
        go_wp2_with fail
        refine (right_any A8 c8 l w8 HK8.out (by omega)).mono ?_
        rintro e w9 ⟨rfl, hb9⟩
        have HX9 := Aside0.mk (blk3_keep HX8.out hb9)
        have HY9 := Aside0.mk (blk3_keep HY8.out hb9)
        have HB9 := Aside0.mk (HB8.out.trans (hb9.mono HB8.out.size))
        clear hb9 HX8 HY8
        first | rw [show rightK l = 0 by unfold rightK; rw [HBB.out]; rfl] | rw [show rightK l = 3 by unfold rightK; rw [HBB.out]; rfl]
        go_wp2_with fail
        refine (rright_any A c l w9 (Kd.C_below HR.out HB9.out) (by omega) HFF.out).mono ?_
        rintro e w10 ⟨rfl, ⟨d10, rfl⟩⟩
        rw [HBB.out]
        obtain ⟨x0, x1, x2⟩ := blk3_cells HX9.out
        obtain ⟨y0, y1, y2⟩ := blk3_cells HY9.out
        have hE := part_refl ⟨f0, t0, g0⟩
        have heq := fun w => eqA32 9998 w f0 f0 t0 t0 g0 g0
        rw [hE] at heq
        clear hE
        go_wp2_with fail
        refine (alive_any _).mono ?_
        rintro e w11 ⟨rfl, hb11⟩
        go_wp2_with fail
        go_ret
        exact ⟨rfl, (pw_drewN HB9.out d10).trans (hb11.mono HB9.out.size)⟩
    · have d1 : decide ((200 : Int) < (row.size : Int)) = true := dt (by omega)
      have d1' : decide (200 < row.size) = true := dt (by omega)
      go_enter Try.func3, Try.ntmps3
      go_wp2_with fail
      refine (light_any _ _ l _ HR.out).mono ?_
      rintro e w1 ⟨rfl, rfl⟩
      rw [HI.out]
      go_wp2_with fail
      refine (alive_any _).mono ?_
      rintro e w11 ⟨rfl, hb11⟩
      go_wp2_with fail
      go_ret
      exact ⟨rfl, hb11⟩
  · have HI := Aside0.mk hi
    clear hi
    go_enter Try.func3, Try.ntmps3
    go_wp2_with fail
    refine (light_any _ _ l _ HR.out).mono ?_
    rintro e w1 ⟨rfl, rfl⟩
    rw [HI.out]
    go_wp2_with fail
    refine (alive_any _).mono ?_
    rintro e w11 ⟨rfl, hb11⟩
    go_wp2_with fail
    go_ret
    exact ⟨rfl, hb11⟩
end Go.Proofs.Ytoemddjolfblbaa
