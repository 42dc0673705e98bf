/- Cell: the law CellOrder in plain words, and at its call. -/
import Derived.Test.YtfdnpnaacikgdaaDoorM
import Derived.Test.YtfdnpnaacikgdaaDoorPCellx7
/- The law CellOrder. -/
set_option linter.unusedVariables false
set_option linter.unusedSimpArgs false
namespace Go.Proofs.YtfdnpnaacikgdaaDoor.PCell
open Go.RowKit Go.Proofs.YtfdnpnaacikgdaaDoorW.PrintWords Go.Proofs.YtfdnpnaacikgdaaDoorW.PrintMore

theorem CellOrder (r f q : ByteArray) (t : Int) (r' f' q' : ByteArray) (t' : Int) : bulwarklaw04_CellOrder.f 100000 r f q t r' f' q' t' = some true := by
  unfold bulwarklaw04_CellOrder.f
  obtain ⟨b, hb, hs⟩ := light_f r f q t
  obtain ⟨b', hb', hs'⟩ := light_f r' f' q' t'
  rw [hb, hb']
  simp only [Option.bind_some]
  have hj : ∀ x : Bool, (x = false → (r.size ≤ 100 ∧ f.size ≤ 100 ∧ q.size ≤ 100) ∧ (r'.size ≤ 100 ∧ f'.size ≤ 100 ∧ q'.size ≤ 100)) → bulwarklaw04_CellOrder.j0 100000 x r f q t r' f' q' t' = some true := by
    intro x hx
    rw [show (100000 : Nat) = 99999 + 1 from rfl]
    simp only [bulwarklaw04_CellOrder.j0]
    rw [alive_f _ (by omega)]
    cases x with
    | true => simp
    | false =>
      obtain ⟨⟨a1, a2, a3⟩, b1, b2, b3⟩ := hx rfl
      rw [if_neg (by simp), Cmp_f _ _ _ _ _ _ _ _ _ (by omega), refCmp_f _ _ _ _ _ _ _ _ _ (by omega) (by omega) (by omega) (by omega) (by omega) (by omega) (by omega), col_eq]
      unfold cell_Column.f
      simp
  cases b with
  | false => rw [if_neg (by simp)]; exact hj true (fun h => by cases h)
  | true =>
    rw [if_pos rfl]
    refine hj _ (fun h => ⟨hs rfl, hs' (by simpa using h)⟩)
theorem CellOrder_law (r f q : ByteArray) (t : Int) (r' f' q' : ByteArray) (t' : Int) (W : World) (wt : (Lit.int .u64 t).wf = true) (wt' : (Lit.int .u64 t').wf = true) :
    Calls Tryd.prog 5 #[.agg #[.string r, .string f, .string q, .int .u64 t], .agg #[.string r', .string f', .string q', .int .u64 t']] W fun e w' => e = .returned (.bool true) ∧ Below W.heap.size W w' :=
  bulwarklaw04_CellOrder.calls 100000 r f q t r' f' q' t' true W (CellOrder r f q t r' f' q' t')

end Go.Proofs.YtfdnpnaacikgdaaDoor.PCell
