/- Cell: the law CellBytes in plain words, and at its call. -/
import Derived.Test.YtfdnpnaacikgdaaDoorM
import Derived.Test.YtfdnpnaacikgdaaDoorPCellx3
/- The law CellBytes. -/
set_option linter.unusedVariables false
set_option linter.unusedSimpArgs false
namespace Go.Proofs.YtfdnpnaacikgdaaDoor.PCell
open Go.RowKit Go.Proofs.YtfdnpnaacikgdaaDoorW.PrintWords Go.Proofs.YtfdnpnaacikgdaaDoorW.PrintMore

theorem CellBytes (r f q : ByteArray) (t : Int) (h0 : 0 ≤ t) (h1 : t < 18446744073709551616) : bulwarklaw04_CellBytes.f 100000 r f q t = some true := by
  unfold bulwarklaw04_CellBytes.f
  obtain ⟨b, hb, hs⟩ := light_f r f q t
  rw [hb]
  simp only [Option.bind_some]
  cases b with
  | false => rw [if_neg (by simp), alive_f _ (by omega)]; rfl
  | true =>
    rw [if_pos rfl, refBytes_f r f q t _ h0 h1 (by omega), refRight_f, alive_f _ (by omega)]
    unfold cell_Bytes.f cell_Right.f
    simp only [Option.bind_some]
    rw [same_f _ _ _ (by split; exact keyB_len _ _ _ _ (by assumption); simp) (by omega)]
    simp
theorem CellBytes_law (r f q : ByteArray) (t : Int) (W : World) (wt : (Lit.int .u64 t).wf = true) :
    Calls Tryd.prog 3 #[.agg #[.string r, .string f, .string q, .int .u64 t]] W fun e w' => e = .returned (.bool true) ∧ Below W.heap.size W w' :=
  bulwarklaw04_CellBytes.calls 100000 r f q t true W (CellBytes r f q t (u64_wf wt).1 (u64_wf wt).2)

end Go.Proofs.YtfdnpnaacikgdaaDoor.PCell
