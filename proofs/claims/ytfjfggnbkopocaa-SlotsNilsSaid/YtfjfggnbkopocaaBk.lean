/- Slots: the law of a nil log. -/
import Derived.Test.YtfjfggnbkopocaaBj
/- SlotsNils. -/
set_option linter.unusedVariables false
set_option linter.unusedSimpArgs false
namespace Go.Proofs.Ytfjfggnbkopocaa
open Go.RowKit Go.Proofs.YtfjfggnbkopocaaW.PrintWords
attribute [local go_sem] ptr

theorem below_to {B : Nat} {a b c : World} (h : Below B a b) (hB : B ≤ a.heap.size) (k : Below b.heap.size b c) : Below B a c := h.trans (k.mono (Nat.le_trans hB h.size))
set_option maxHeartbeats 8000000 in
set_option maxRecDepth 100000 in
theorem nils_any (q : Int) (A : Option Addr) (c : Nat) (l : List Int) (w : World) : Calls Try.prog 7 #[.int .u64 q, .slice A l.length c] w fun e w' => e = .returned (.bool true) ∧ Below w.heap.size w w' := by
  by_cases hl : l.length > 100
  · have b1 : decide ((l.length : Int) > 100) = true := dt (by omega)
    clear hl
    go_enter Try.func7, Try.ntmps7
    go_wp2_with fail
    refine (alive_any w).mono ?_
    rintro e w1 ⟨rfl, hb⟩
    have HB := Aside0.mk hb
    clear hb
    go_wp2_with fail
    go_ret
    exact ⟨rfl, HB.out⟩
  · have b1 : decide ((l.length : Int) > 100) = false := df (by omega)
    clear hl
    go_enter Try.func7, Try.ntmps7
    go_wp2_with fail
    obtain ⟨W0, hW0⟩ : ∃ W0, w.alloc (.cells #[.int .u64 1, .slice none 0 0, .slice none 0 0] 46) = W0 := ⟨_, rfl⟩
    have HX0 : Aside0 (W0.heap[w.heap.size]? = some (.cells #[.int .u64 1, .slice none 0 0, .slice none 0 0] 46 (0, 0))) := ⟨by rw [← hW0]; exact heap_alloc_new w _⟩
    have HB0 : Aside0 (Below w.heap.size w W0) := ⟨by rw [← hW0]; exact below_alloc (Below.refl _ _) _⟩
    rw [hW0]
    clear hW0
    have HG0 : ∃ g, Aside0 (w.heap.size = g) := ⟨_, ⟨rfl⟩⟩
    obtain ⟨g, HG⟩ := HG0
    have hg := HG.out
    rw [hg] at HX0 HB0 ⊢
    clear hg
    refine (Sum_nil).mono ?_
    rintro e W1 ⟨rfl, hb⟩
    have HB1 := Aside0.mk (below_to HB0.out (Nat.le_of_eq HG.out.symm) hb)
    have HX1 : Aside0 (W1.heap[g]? = some (.cells #[.int .u64 1, .slice none 0 0, .slice none 0 0] 46 (0, 0))) := ⟨blk_below HX0.out hb⟩
    clear hb
    have x0 := blk_cell HX1.out 0
    have x1 := blk_cell HX1.out 1
    have x2 := blk_cell HX1.out 2
    simp only [List.getElem?_toArray, List.getElem?_cons_zero, List.getElem?_cons_succ] at x0 x1 x2
    go_wp2_with fail
    clear x0 x1 x2
    refine (Committed_nil).mono ?_
    rintro e W2 ⟨rfl, hb⟩
    have HB2 := Aside0.mk (below_to HB1.out (Nat.le_of_eq HG.out.symm) hb)
    have HX2 : Aside0 (W2.heap[g]? = some (.cells #[.int .u64 1, .slice none 0 0, .slice none 0 0] 46 (0, 0))) := ⟨blk_below HX1.out hb⟩
    clear hb
    have x0 := blk_cell HX2.out 0
    have x1 := blk_cell HX2.out 1
    have x2 := blk_cell HX2.out 2
    simp only [List.getElem?_toArray, List.getElem?_cons_zero, List.getElem?_cons_succ] at x0 x1 x2
    go_wp2_with fail
    clear x0 x1 x2
    refine (Best_nil).mono ?_
    rintro e W3 ⟨rfl, hb⟩
    have HB3 := Aside0.mk (below_to HB2.out (Nat.le_of_eq HG.out.symm) hb)
    have HX3 : Aside0 (W3.heap[g]? = some (.cells #[.int .u64 1, .slice none 0 0, .slice none 0 0] 46 (0, 0))) := ⟨blk_below HX2.out hb⟩
    clear hb
    have x0 := blk_cell HX3.out 0
    have x1 := blk_cell HX3.out 1
    have x2 := blk_cell HX3.out 2
    simp only [List.getElem?_toArray, List.getElem?_cons_zero, List.getElem?_cons_succ] at x0 x1 x2
    go_wp2_with fail
    clear x0 x1 x2
    refine (Pre_nil 1 q _ _ _).mono ?_
    rintro e W4 ⟨rfl, hb⟩
    have HB4 := Aside0.mk (below_to HB3.out (Nat.le_of_eq HG.out.symm) hb)
    have HX4 : Aside0 (W4.heap[g]? = some (.cells #[.int .u64 1, .slice none 0 0, .slice none 0 0] 46 (0, 0))) := ⟨blk_below HX3.out hb⟩
    clear hb
    have x0 := blk_cell HX4.out 0
    have x1 := blk_cell HX4.out 1
    have x2 := blk_cell HX4.out 2
    simp only [List.getElem?_toArray, List.getElem?_cons_zero, List.getElem?_cons_succ] at x0 x1 x2
    go_wp2_with fail
    clear x0 x1 x2
    refine (Prepare_nil 1 q _ _ _).mono ?_
    rintro e W5 ⟨rfl, hb⟩
    have HB5 := Aside0.mk (below_to HB4.out (Nat.le_of_eq HG.out.symm) hb)
    have HX5 : Aside0 (W5.heap[g]? = some (.cells #[.int .u64 1, .slice none 0 0, .slice none 0 0] 46 (0, 0))) := ⟨blk_below HX4.out hb⟩
    clear hb
    have x0 := blk_cell HX5.out 0
    have x1 := blk_cell HX5.out 1
    have x2 := blk_cell HX5.out 2
    simp only [List.getElem?_toArray, List.getElem?_cons_zero, List.getElem?_cons_succ] at x0 x1 x2
    go_wp2_with fail
    clear x0 x1 x2
    refine (Commit_nil 1 q _ _ _).mono ?_
    rintro e W6 ⟨rfl, hb⟩
    have HB6 := Aside0.mk (below_to HB5.out (Nat.le_of_eq HG.out.symm) hb)
    have HX6 : Aside0 (W6.heap[g]? = some (.cells #[.int .u64 1, .slice none 0 0, .slice none 0 0] 46 (0, 0))) := ⟨blk_below HX5.out hb⟩
    clear hb
    have x0 := blk_cell HX6.out 0
    have x1 := blk_cell HX6.out 1
    have x2 := blk_cell HX6.out 2
    simp only [List.getElem?_toArray, List.getElem?_cons_zero, List.getElem?_cons_succ] at x0 x1 x2
    go_wp2_with fail
    clear x0 x1 x2
    refine (Enter_nil).mono ?_
    rintro e W7 ⟨rfl, hb⟩
    subst hb
    have HB7 := HB6
    have HX7 := HX6
    have x0 := blk_cell HX7.out 0
    have x1 := blk_cell HX7.out 1
    have x2 := blk_cell HX7.out 2
    simp only [List.getElem?_toArray, List.getElem?_cons_zero, List.getElem?_cons_succ] at x0 x1 x2
    go_wp2_with fail
    clear x0 x1 x2
    refine (Advance_nil).mono ?_
    rintro e W8 ⟨rfl, hb⟩
    have HB8 := Aside0.mk (below_to HB7.out (Nat.le_of_eq HG.out.symm) hb)
    have HX8 : Aside0 (W8.heap[g]? = some (.cells #[.int .u64 1, .slice none 0 0, .slice none 0 0] 46 (0, 0))) := ⟨blk_below HX7.out hb⟩
    clear hb
    have x0 := blk_cell HX8.out 0
    have x1 := blk_cell HX8.out 1
    have x2 := blk_cell HX8.out 2
    simp only [List.getElem?_toArray, List.getElem?_cons_zero, List.getElem?_cons_succ] at x0 x1 x2
    go_wp2_with fail
    clear x0 x1 x2
    refine (Prepared_nil).mono ?_
    rintro e W9 ⟨rfl, hb⟩
    have HB9 := Aside0.mk (below_to HB8.out (Nat.le_of_eq HG.out.symm) hb)
    have HX9 : Aside0 (W9.heap[g]? = some (.cells #[.int .u64 1, .slice none 0 0, .slice none 0 0] 46 (0, 0))) := ⟨blk_below HX8.out hb⟩
    clear hb
    have x0 := blk_cell HX9.out 0
    have x1 := blk_cell HX9.out 1
    have x2 := blk_cell HX9.out 2
    simp only [List.getElem?_toArray, List.getElem?_cons_zero, List.getElem?_cons_succ] at x0 x1 x2
    go_wp2_with fail
    clear x0 x1 x2
    refine (Certs_nil).mono ?_
    rintro e W10 ⟨rfl, hb⟩
    subst hb
    have HB10 := HB9
    have HX10 := HX9
    have x0 := blk_cell HX10.out 0
    have x1 := blk_cell HX10.out 1
    have x2 := blk_cell HX10.out 2
    simp only [List.getElem?_toArray, List.getElem?_cons_zero, List.getElem?_cons_succ] at x0 x1 x2
    go_wp2_with fail
    clear x0 x1 x2
    refine (Low_nil).mono ?_
    rintro e W11 ⟨rfl, hb⟩
    subst hb
    have HB11 := HB10
    have HX11 := HX10
    have x0 := blk_cell HX11.out 0
    have x1 := blk_cell HX11.out 1
    have x2 := blk_cell HX11.out 2
    simp only [List.getElem?_toArray, List.getElem?_cons_zero, List.getElem?_cons_succ] at x0 x1 x2
    go_wp2_with fail
    clear x0 x1 x2
    refine (View_nil).mono ?_
    rintro e W12 ⟨rfl, hb⟩
    subst hb
    have HB12 := HB11
    have HX12 := HX11
    have x0 := blk_cell HX12.out 0
    have x1 := blk_cell HX12.out 1
    have x2 := blk_cell HX12.out 2
    simp only [List.getElem?_toArray, List.getElem?_cons_zero, List.getElem?_cons_succ] at x0 x1 x2
    go_wp2_with fail
    clear x0 x1 x2
    refine (alive_any _).mono ?_
    rintro e W13 ⟨rfl, hb⟩
    have HB13 := Aside0.mk (below_to HB12.out (Nat.le_of_eq HG.out.symm) hb)
    have HX13 : Aside0 (W13.heap[g]? = some (.cells #[.int .u64 1, .slice none 0 0, .slice none 0 0] 46 (0, 0))) := ⟨blk_below HX12.out hb⟩
    clear hb
    have x0 := blk_cell HX13.out 0
    have x1 := blk_cell HX13.out 1
    have x2 := blk_cell HX13.out 2
    simp only [List.getElem?_toArray, List.getElem?_cons_zero, List.getElem?_cons_succ] at x0 x1 x2
    go_wp2_with fail
    clear x0 x1 x2
    go_ret
    exact ⟨rfl, by rw [HG.out]; exact HB13.out⟩
theorem slotsNils_law (q : Int) (A : Option Addr) (c : Nat) (l : List Int) (w : World) (_ : (Lit.int .u64 q).wf = true) (_ : Kd.C kB w A l.length l) (_ : l.length ≤ c) (_ : ∀ x ∈ l, (Lit.int .u8 x).wf = true) :
    Calls Try.prog 7 #[.int .u64 q, .slice A l.length c] w fun e w' => e = .returned (.bool true) ∧ Below w.heap.size w w' := nils_any q A c l w
end Go.Proofs.Ytfjfggnbkopocaa
