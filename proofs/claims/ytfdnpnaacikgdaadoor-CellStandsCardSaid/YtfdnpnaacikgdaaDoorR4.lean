/- Cell: the law CellStands in plain words, and at its call. -/
import Derived.Test.YtfdnpnaacikgdaaDoorN
import Derived.Test.YtfdnpnaacikgdaaDoorPCellx5
/- The law CellStands. -/
set_option linter.unusedVariables false
set_option linter.unusedSimpArgs false
namespace Go.Proofs.YtfdnpnaacikgdaaDoor.PCell
open Go.RowKit Go.Proofs.YtfdnpnaacikgdaaDoorW.PrintWords Go.Proofs.YtfdnpnaacikgdaaDoorW.PrintMore

theorem nums_inj {a b : List UInt8} (h : nums a = nums b) : a = b := by
  have := congrArg (fun l => (strOfNums l).data.toList) h
  simpa only [strOf_nums] using this
theorem nums_take (l : List UInt8) (n : Nat) : (nums l).take n = nums (l.take n) := by simp [nums]
theorem strOf_size (l : List UInt8) : (strOfNums (nums l)).size = l.length := by
  rw [← data_length, strOf_nums]
theorem CellStands (r f q : ByteArray) (t : Int) (r' f' q' : ByteArray) (t' : Int) (h0 : 0 ≤ t) (h1 : t < 18446744073709551616) (h0' : 0 ≤ t') (h1' : t' < 18446744073709551616) : bulwarklaw04_CellStands.f 100000 r f q t r' f' q' t' = some true := by
  have hj2 : bulwarklaw04_CellStands.j2 99998 (keyCmp r f q t r' f' q' t') false r f q t r' f' q' t' = some true := by
    rw [show (99998 : Nat) = 99997 + 1 from rfl]
    simp only [bulwarklaw04_CellStands.j2]
    rw [if_neg (by simp), Cmp_f _ _ _ _ _ _ _ _ _ (by omega), alive_f _ (by omega)]
    simp only [Option.bind_some]
    rw [if_pos trivial, if_pos]
    rw [Bool.beq_eq_decide_eq, decide_eq_true_eq, Bool.eq_iff_iff]
    simp only [Bool.and_eq_true, beq_iff_eq, ByteArray.toList_eq]
    rw [keyCmp_zero]
    exact ⟨fun h => by obtain ⟨⟨rfl, rfl, rfl⟩, rfl⟩ := h; exact ⟨rfl, rfl, rfl, rfl⟩, fun h => ⟨⟨Go.WideShapes.bytes_inj h.1, Go.WideShapes.bytes_inj h.2.1, Go.WideShapes.bytes_inj h.2.2.1⟩, h.2.2.2⟩⟩
  have hj1 : okB r f q = true → okB r' f' q' = true → bulwarklaw04_CellStands.j1 99999 (nums (keyU r f q t)) (nums (keyU r' f' q' t')) false r f q t r' f' q' t' = some true := by
    intro k1 k2
    have l1 := keyB_len r f q t k1
    have l2 := keyB_len r' f' q' t' k2
    rw [keyU_nums h0 h1, nums_len] at l1
    rw [keyU_nums h0' h1', nums_len] at l2
    rw [show (99999 : Nat) = 99998 + 1 from rfl]
    simp only [bulwarklaw04_CellStands.j1]
    rw [if_neg (by simp), text_f _ _ _ (by rw [strOf_size]; exact l1) (by rw [strOf_size]; exact l2) (by omega), strOf_nums, strOf_nums, keyU_cmp h0 h1 h0' h1']
    simp only [Option.bind_some]
    split
    · rename_i hlt
      rw [if_pos (by omega), if_pos (by omega), same_f _ _ _ (by rw [nums_len]; exact l1) (by omega)]
      simp only [Option.bind_some]
      have : decide (nums (keyU r f q t) = List.take ((nums (keyU r f q t)).length : Int).toNat (nums (keyU r' f' q' t'))) = false := by
        apply decide_eq_false
        intro e
        rw [nums_take] at e
        have e2 := nums_inj e
        have e3 : keyU r f q t ++ (keyU r' f' q' t').drop ((nums (keyU r f q t)).length : Int).toNat = keyU r' f' q' t' := by
          conv => lhs; arg 1; rw [e2]
          exact List.take_append_drop _ _
        have e4 := congrArg List.length (keyU_free e3)
        rw [List.length_drop, List.length_nil] at e4
        rw [nums_len, nums_len] at hlt
        rw [nums_len] at e4
        omega
      rw [this]
      exact hj2
    · exact hj2
  have hj0 : ∀ x, bulwarklaw04_CellStands.j0 100000 x r f q t r' f' q' t' = some true := by
    intro x
    rw [show (100000 : Nat) = 99999 + 1 from rfl]
    simp only [bulwarklaw04_CellStands.j0]
    have al : ∀ a b, bulwarklaw04_CellStands.j1 99999 a b true r f q t r' f' q' t' = some true := by
      intro a b
      rw [show (99999 : Nat) = 99998 + 1 from rfl]
      simp only [bulwarklaw04_CellStands.j1]
      rw [if_pos trivial, alive_f _ (by omega)]
      rfl
    rw [alive_f _ (by omega)]
    cases x with
    | true => simp
    | false =>
      rw [if_neg (by simp)]
      unfold cell_Bytes.f
      simp only [Option.bind_some]
      rcases Bool.eq_false_or_eq_true (okB r f q) with k1 | k1
      · rcases Bool.eq_false_or_eq_true (okB r' f' q') with k2 | k2
        · rw [if_pos k1, if_pos k2, if_pos rfl, keyU_nums h0 h1, keyU_nums h0' h1']
          exact hj1 k1 k2
        · rw [if_pos k1, if_pos rfl, if_neg (c := okB r' f' q' = true) (by rw [k2]; simp)]
          exact al _ _
      · rw [if_neg (c := okB r f q = true) (by rw [k1]; simp), if_neg (by decide)]
        exact al _ _
  unfold bulwarklaw04_CellStands.f
  obtain ⟨b0, e0, _⟩ := light_f r f q t
  obtain ⟨b1, e1, _⟩ := light_f r' f' q' t'
  rw [e0, e1]
  simp only [Option.bind_some]
  split
  · exact hj0 _
  · exact hj0 _
theorem CellStands_law (r f q : ByteArray) (t : Int) (r' f' q' : ByteArray) (t' : Int) (W : World) (wt : (Lit.int .u64 t).wf = true) (wt' : (Lit.int .u64 t').wf = true) :
    Calls Tryd.prog 4 #[.agg #[.string r, .string f, .string q, .int .u64 t], .agg #[.string r', .string f', .string q', .int .u64 t']] W fun e w' => e = .returned (.bool true) ∧ Below W.heap.size W w' :=
  bulwarklaw04_CellStands.calls 100000 r f q t r' f' q' t' true W (CellStands r f q t r' f' q' t' (u64_wf wt).1 (u64_wf wt).2 (u64_wf wt').1 (u64_wf wt').2)
end Go.Proofs.YtfdnpnaacikgdaaDoor.PCell
