/- Cell: the law CellReads in plain words, and at its call. -/
import Derived.Test.YtfdnpnaacikgdaaDoorM
import Derived.Test.YtfdnpnaacikgdaaDoorPCell2x2
/- The law CellReads. -/
set_option linter.unusedVariables false
set_option linter.unusedSimpArgs false
namespace Go.Proofs.YtfdnpnaacikgdaaDoor.PCell
open Go.RowKit Go.Proofs.YtfdnpnaacikgdaaDoorW.PrintWords Go.Proofs.YtfdnpnaacikgdaaDoorW.PrintMore

theorem toU_nums {l : List Int} (h : ∀ x ∈ l, 0 ≤ x ∧ x < 256) : nums (toU l) = l := by
  unfold toU strOfNums nums
  show List.map _ (List.map _ l) = l
  rw [List.map_map]
  conv => rhs; rw [← List.map_id l]
  apply List.map_congr_left
  intro x hx
  have := h x hx
  simp only [Function.comp, id]
  rw [UInt8.toNat_ofNat']
  omega
theorem read_f {l : List Int} (h : ∀ x ∈ l, 0 ≤ x ∧ x < 256) (hl : l.length ≤ 100000) : cell_Read.f l = some (readR (readF (toU l))) := by
  unfold cell_Read.f
  rw [if_pos ⟨toU_nums h, hl⟩]
theorem CellReads (l : List Int) (h : ∀ x ∈ l, 0 ≤ x ∧ x < 256) : PCell2.bulwarklaw04_CellReads.f 100000 l = some true := by
  unfold PCell2.bulwarklaw04_CellReads.f
  rw [alive_f _ (by omega)]
  by_cases hl : (l.length : Int) > 1000
  · rw [if_pos hl]; rfl
  · rw [if_neg hl]
    unfold bulwarkref04_Read.f
    rw [read_f h (by omega)]
    simp
theorem _root_.Go.Proofs.YtfdnpnaacikgdaaDoor.bytes_of_row {W : World} {x : Addr} {len c : Nat} {zs : List Int} (hl : len ≤ c) (hm : c ≤ maxLen) (hz : zs.length = c) (hcell : ∀ i, i < zs.length → W.cell? (x.add i) = some (.int .u8 (zs.getD i 0))) (hwz : ∀ n ∈ zs, (Lit.int .u8 n).wf = true) :
    ∃ l : List Int, len = l.length ∧ l.length ≤ c ∧ Kd.C (Kd.int .u8) W (some x) l.length l ∧ (∀ n ∈ l, 0 ≤ n ∧ n < 256) := by
  have hlen : (zs.take len).length = len := by rw [List.length_take]; omega
  refine ⟨zs.take len, hlen.symm, by omega, Kd.C_of_reads (d := 0) ⟨rfl, by unfold maxLen at hm; omega, fun _ => ⟨_, rfl, fun j hj => ?_⟩⟩, fun n hn => ?_⟩
  · rw [hlen] at hj
    rw [hcell j (by omega)]
    congr 2
    rw [List.getD_eq_getElem?_getD, List.getD_eq_getElem?_getD, List.getElem?_take, if_pos hj]
  · have := hwz n (List.mem_of_mem_take hn)
    simp only [Lit.wf, IntKind.min, IntKind.max, IntKind.signed, IntKind.bits, Bool.and_eq_true, decide_eq_true_eq, Bool.false_eq_true, if_false] at this
    omega
theorem CellReads_law (A : Option Addr) (c : Nat) (l : List Int) (W : World) (hc : l.length ≤ c) (hr : Kd.C (Kd.int .u8) W A l.length l ∧ (∀ x ∈ l, 0 ≤ x ∧ x < 256)) :
    Calls Tryd.prog 7 #[.slice A l.length c] W fun e w' => e = .returned (.bool true) ∧ Below W.heap.size W w' :=
  PCell2.bulwarklaw04_CellReads.calls 100000 A c l true W hr.1 hc (CellReads l hr.2)
end Go.Proofs.YtfdnpnaacikgdaaDoor.PCell
