/- Cell: the reference's bytes; the laws CellBytes and CellOrder in plain words. -/
import Derived.Test.YtfdnpnaacikgdaaDoorL
import Derived.Laws.BitsLemmas
/- Plain laws: bytes. -/
set_option linter.unusedVariables false
set_option linter.unusedSimpArgs false
namespace Go.Proofs.YtfdnpnaacikgdaaDoor.PCell
open Go.RowKit Go.Proofs.YtfdnpnaacikgdaaDoorW.PrintWords Go.Proofs.YtfdnpnaacikgdaaDoorW.PrintMore

theorem wrap_u64 (n : Int) : IntKind.u64.wrap n = n % 18446744073709551616 := by simp [IntKind.wrap, IntKind.bits, IntKind.signed]
theorem u64_and255 (x : Int) (h0 : 0 ≤ x) (h1 : x < 2 ^ 64) : Go.bits .and .u64 x 255 = x % 256 :=
  bits_mask .u64 64 (by decide) (fun n h0 h1 => by rw [wrap_u64]; omega) 8 (by decide) x h0 h1
theorem ref_byte (t : Int) (n : Nat) (hn : n ≤ 7) (h0 : 0 ≤ t) (h1 : t < 18446744073709551616) : 255 - ((Go.bits .and .u64 (shr .u64 t (IntKind.u64.wrap (wrap64 (8 * (n : Int))))) 255) % 256) = timeX t / 2 ^ (8 * n) % 256 := by
  have e : IntKind.u64.wrap (wrap64 (8 * (n : Int))) = 8 * (n : Int) := by
    rw [wrap_u64]
    unfold wrap64
    omega
  rw [e]
  have e2 : shr .u64 t (8 * (n : Int)) = t / 2 ^ (8 * n) := by
    unfold shr
    have : min (8 * (n : Int)).toNat IntKind.u64.bits = 8 * n := by
      have : IntKind.u64.bits = 64 := rfl
      omega
    rw [this]
  have hx : timeX t = 18446744073709551615 - t := by
    unfold timeX
    rw [wrap_u64]
    omega
  have hp : 0 ≤ t / 2 ^ (8 * n) ∧ t / 2 ^ (8 * n) < 2 ^ 64 := by
    have hpos : (0 : Int) < 2 ^ (8 * n) := Int.pow_pos (by decide)
    refine ⟨Int.ediv_nonneg h0 (Int.le_of_lt hpos), ?_⟩
    have := Int.ediv_le_self (2 ^ (8 * n)) h0
    omega
  rw [e2, u64_and255 _ hp.1 hp.2, hx]
  rcases (by omega : n = 0 ∨ n = 1 ∨ n = 2 ∨ n = 3 ∨ n = 4 ∨ n = 5 ∨ n = 6 ∨ n = 7) with rfl | rfl | rfl | rfl | rfl | rfl | rfl | rfl <;> simp only [Nat.reduceMul, Nat.reducePow, Int.reducePow] <;> omega
theorem bytes_l (t : Int) (r f q : ByteArray) (h0 : 0 ≤ t) (h1 : t < 18446744073709551616) : ∀ (n k : Nat) (l : List Int), n ≤ 8 → l.length ≤ 100000 - n → n + 1 ≤ k → bulwarkref04_Bytes.l0 k l ((n : Int) - 1) r f q t = some (l ++ (List.range n).map (fun i => timeX t / 2 ^ (8 * (n - 1 - i)) % 256), 0) := by
  intro n
  induction n with
  | zero =>
    intro k l _ hl hk
    obtain ⟨k, rfl⟩ : ∃ m, k = m + 1 := ⟨k - 1, by omega⟩
    simp only [bulwarkref04_Bytes.l0]
    rw [if_neg (by omega)]
    simp
  | succ n ih =>
    intro k l hn hl hk
    obtain ⟨k, rfl⟩ : ∃ m, k = m + 1 := ⟨k - 1, by omega⟩
    have e : (((n + 1 : Nat) : Int) - 1) = (n : Int) := by omega
    simp only [bulwarkref04_Bytes.l0]
    rw [e, if_pos (by omega), if_pos (u64_nonneg _), if_pos (by omega), ref_byte t n (by omega) h0 h1, w64 (by omega) (by omega), ih k _ (by omega) (by simp only [List.length_append, List.length_cons, List.length_nil]; omega) (by omega)]
    congr 2
    rw [List.range_succ_eq_map, List.map_cons, List.map_map, List.append_assoc]
    congr 1
    simp only [List.singleton_append]
    congr 1
    apply List.map_congr_left
    intro i hi
    have : i < n := by simpa using hi
    simp only [Function.comp]
    rw [show n + 1 - 1 - i.succ = n - 1 - i by omega]
theorem refBytes_f (r f q : ByteArray) (t : Int) (k : Nat) (h0 : 0 ≤ t) (h1 : t < 18446744073709551616) (hk : 20000 ≤ k) : bulwarkref04_Bytes.f k r f q t = cell_Bytes.f r f q t := by
  unfold bulwarkref04_Bytes.f cell_Bytes.f
  rw [refRight_f]
  simp only [Option.bind_some]
  rcases Bool.eq_false_or_eq_true (okB r f q) with hb | hb
  · obtain ⟨s1, s2, s3⟩ := okB_sizes hb
    have n1 := escL_length r s1
    have n2 := escL_length f s2
    have n3 := escL_length q s3
    rw [rightI_ok hb, if_pos rfl, if_pos hb, name_f _ _ k (by simp) (by omega) hk]
    simp only [Option.bind_some, List.nil_append]
    rw [name_f _ _ k (by omega) (by omega) hk]
    simp only [Option.bind_some]
    rw [name_f _ _ k (by rw [List.length_append]; omega) (by omega) hk]
    simp only [Option.bind_some]
    have := bytes_l t r f q h0 h1 8 k (nums (escL r) ++ nums (escL f) ++ nums (escL q)) (by omega) (by simp only [List.length_append]; omega) (by omega)
    rw [show (((8 : Nat) : Int) - 1) = 7 from rfl] at this
    rw [this]
    congr 2
  · rw [rightI_bad hb, if_neg (by decide), if_neg (by rw [hb]; simp)]
theorem light_f (r f q : ByteArray) (t : Int) : ∃ b : Bool, bulwarklaw04_Light.f r f q t = some b ∧ (b = true → r.size ≤ 100 ∧ f.size ≤ 100 ∧ q.size ≤ 100) := by
  unfold bulwarklaw04_Light.f
  split
  · split
    · exact ⟨_, rfl, fun h => by have := of_decide_eq_true h; omega⟩
    · exact ⟨false, rfl, fun h => by cases h⟩
  · exact ⟨false, rfl, fun h => by cases h⟩
theorem keyB_len (r f q : ByteArray) (t : Int) (h : okB r f q = true) : (keyL r f q ++ timeL (timeX t) 8).length ≤ 10000 := by
  obtain ⟨s1, s2, s3⟩ := okB_sizes h
  have n1 := escL_length r s1
  have n2 := escL_length f s2
  have n3 := escL_length q s3
  unfold keyL
  rw [List.length_append, timeL_length, List.length_append, List.length_append]
  omega
theorem u64_wf {t : Int} (h : (Lit.int .u64 t).wf = true) : 0 ≤ t ∧ t < 18446744073709551616 := by
  simp only [Lit.wf, IntKind.min, IntKind.max, IntKind.signed, IntKind.bits, Bool.and_eq_true, decide_eq_true_eq, Bool.false_eq_true, if_false] at h
  omega
end Go.Proofs.YtfdnpnaacikgdaaDoor.PCell
