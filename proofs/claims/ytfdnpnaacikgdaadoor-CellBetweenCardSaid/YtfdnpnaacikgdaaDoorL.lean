/- Cell: what the printed functions answer, in plain words. -/
import Derived.Test.YtfdnpnaacikgdaaDoorPCellx2
import Derived.Test.YtfdnpnaacikgdaaDoorPCellx4
import Derived.Test.YtfdnpnaacikgdaaDoorPCellx6
/- Plain laws of the printed functions. -/
set_option linter.unusedVariables false
set_option linter.unusedSimpArgs false
namespace Go.Proofs.YtfdnpnaacikgdaaDoor.PCell
open Go.RowKit Go.Proofs.YtfdnpnaacikgdaaDoorW.PrintWords Go.Proofs.YtfdnpnaacikgdaaDoorW.PrintMore

theorem w64 {i : Int} (h0 : -1000000000 ≤ i) (h1 : i ≤ 1000000000) : wrap64 i = i := by unfold wrap64; omega
theorem bt_list (s : ByteArray) (i : Nat) (h : i < s.size) : bt s (i : Int) = ((s.data.toList.getD i 0).toNat : Int) := by
  have h' : i < s.data.toList.length := by rw [data_length]; exact h
  unfold bt
  rw [dif_pos (by simpa using h)]
  rw [List.getD_eq_getElem?_getD, List.getElem?_eq_getElem h']
  rfl
theorem cmpL_nil (b : List UInt8) : cmpL [] b = if b.length = 0 then 0 else -1 := by cases b <;> simp [cmpL]
theorem cmpL_nil' (a : List UInt8) : cmpL a [] = if a.length = 0 then 0 else 1 := by cases a <;> simp [cmpL]
theorem drop_cons {l : List UInt8} {i : Nat} (h : i < l.length) : l.drop i = l.getD i 0 :: l.drop (i + 1) := by
  rw [List.drop_eq_getElem_cons h, List.getD_eq_getElem?_getD, List.getElem?_eq_getElem h]
  rfl
theorem text_l (a b : ByteArray) (ha : a.size ≤ 10000) (hb : b.size ≤ 10000) : ∀ (d : Nat) (k i : Nat), i ≤ a.size → i ≤ b.size → a.size - i = d → 2 * d + 2 ≤ k → bulwarkref04_Text.l0 k a b (i : Int) = some (cmpL (a.data.toList.drop i) (b.data.toList.drop i)) := by
  intro d
  induction d with
  | zero =>
    intro k i h1 h2 hd hk
    obtain ⟨k, rfl⟩ : ∃ m, k = m + 2 := ⟨k - 2, by omega⟩
    have e : a.data.toList.drop i = [] := List.drop_eq_nil_of_le (by rw [data_length]; omega)
    have hbl : (b.data.toList.drop i).length = b.size - i := by rw [List.length_drop, data_length]
    simp only [bulwarkref04_Text.l0]
    rw [if_neg (by omega)]
    simp only [bulwarkref04_Text.j1]
    rw [if_neg (by simp), e, cmpL_nil, hbl]
    by_cases hs : a.size = b.size
    · rw [if_pos (by omega), if_pos (by omega)]
    · rw [if_neg (by omega), if_pos (by omega), if_neg (by omega)]
  | succ d ih =>
    intro k i h1 h2 hd hk
    obtain ⟨k, rfl⟩ : ∃ m, k = m + 2 := ⟨k - 2, by omega⟩
    have ea := drop_cons (l := a.data.toList) (i := i) (by rw [data_length]; omega)
    simp only [bulwarkref04_Text.l0]
    rw [if_pos (by omega)]
    simp only [bulwarkref04_Text.j1]
    by_cases hlt : i < b.size
    · have eb := drop_cons (l := b.data.toList) (i := i) (by rw [data_length]; omega)
      rw [if_pos (by simpa using hlt), if_pos (by omega), if_pos (by omega), if_pos (by omega), bt_list a i (by omega), bt_list b i hlt, ea, eb]
      unfold cmpL
      by_cases he : a.data.toList.getD i 0 = b.data.toList.getD i 0
      · rw [if_pos (by rw [he]), if_pos he, w64 (by omega) (by omega)]
        exact ih k (i + 1) (by omega) (by omega) (by omega) (by omega)
      · have hn : ¬ (((a.data.toList.getD i 0).toNat : Int) = ((b.data.toList.getD i 0).toNat : Int)) := fun h => he (UInt8.toNat_inj.1 (by omega))
        rw [if_neg hn, if_neg he]
        by_cases hl : a.data.toList.getD i 0 < b.data.toList.getD i 0
        · have hl' : (a.data.toList.getD i 0).toNat < (b.data.toList.getD i 0).toNat := hl
          rw [if_pos (by omega), if_pos hl]
        · have hl' : ¬ (a.data.toList.getD i 0).toNat < (b.data.toList.getD i 0).toNat := hl
          rw [if_neg (by omega), if_neg hl]
    · have eb : b.data.toList.drop i = [] := List.drop_eq_nil_of_le (by rw [data_length]; omega)
      have hal : (a.data.toList.drop i).length = a.size - i := by rw [List.length_drop, data_length]
      rw [if_neg (by simpa using hlt), eb, cmpL_nil', hal, if_neg (by omega), if_neg (by omega), if_neg (by omega)]
theorem text_f (a b : ByteArray) (k : Nat) (ha : a.size ≤ 10000) (hb : b.size ≤ 10000) (hk : 30000 ≤ k) : bulwarkref04_Text.f k a b = some (cmpL a.data.toList b.data.toList) := by
  unfold bulwarkref04_Text.f
  have := text_l a b ha hb a.size k 0 (by omega) (by omega) (by omega) (by omega)
  simpa using this
theorem rd_list (l : List Int) (i : Nat) : rd l (i : Int) = l.getD i 0 := by unfold rd; simp
theorem same_l (a b : List Int) (hab : a.length = b.length) (ha : a.length ≤ 10000) : ∀ (d k i : Nat), i ≤ a.length → a.length - i = d → d + 1 ≤ k → bulwarkref01_Same.l0 k a b (i : Int) = some (decide (a.drop i = b.drop i)) := by
  intro d
  induction d with
  | zero =>
    intro k i h1 hd hk
    obtain ⟨k, rfl⟩ : ∃ m, k = m + 1 := ⟨k - 1, by omega⟩
    simp only [bulwarkref01_Same.l0]
    rw [if_neg (by omega), List.drop_eq_nil_of_le (by omega), List.drop_eq_nil_of_le (by omega)]
    simp
  | succ d ih =>
    intro k i h1 hd hk
    obtain ⟨k, rfl⟩ : ∃ m, k = m + 1 := ⟨k - 1, by omega⟩
    simp only [bulwarkref01_Same.l0]
    have h3 : i < a.length := by omega
    have h4 : i < b.length := by omega
    have e : (a.drop i = b.drop i) ↔ a[i] = b[i] ∧ a.drop (i + 1) = b.drop (i + 1) := by
      conv => lhs; rw [List.drop_eq_getElem_cons h3, List.drop_eq_getElem_cons h4]
      exact List.cons_eq_cons
    rw [if_pos (by omega), if_pos (by omega), if_pos (by omega), rd_list, rd_list, List.getD_eq_getElem?_getD, List.getD_eq_getElem?_getD, List.getElem?_eq_getElem h3, List.getElem?_eq_getElem h4]
    simp only [Option.getD_some]
    by_cases he : a[i] = b[i]
    · rw [if_pos he, w64 (by omega) (by omega), show ((i : Int) + 1) = ((i + 1 : Nat) : Int) by omega, ih k (i + 1) (by omega) (by omega) (by omega)]
      congr 1
      rw [decide_eq_decide, e]
      exact ⟨fun h => ⟨he, h⟩, fun h => h.2⟩
    · rw [if_neg he]
      congr 1
      rw [eq_comm, decide_eq_false_iff_not, e]
      exact fun h => he h.1
theorem same_f (a b : List Int) (k : Nat) (ha : a.length ≤ 10000) (hk : 20000 ≤ k) : bulwarkref04_Same.f k a b = some (decide (a = b)) := by
  unfold bulwarkref04_Same.f bulwarkref01_Same.f
  by_cases h : a.length = b.length
  · rw [if_pos (by omega)]
    have := same_l a b h ha a.length k 0 (by omega) (by omega) (by omega)
    simp only [List.drop_zero] at this
    rw [show ((0 : Nat) : Int) = 0 from rfl] at this
    rw [this]
    rfl
  · rw [if_neg (by omega)]
    have : ¬ a = b := fun e => h (by rw [e])
    simp [this]
theorem nums_len (l : List UInt8) : (nums l).length = l.length := nums_length l
theorem name_l (s : ByteArray) (hs : s.size ≤ 10000) : ∀ (d k i : Nat) (l : List Int), l.length ≤ 100000 → i ≤ s.size → s.size - i = d → l.length + 2 * d ≤ 100000 → d + 1 ≤ k → bulwarkref04_name.l0 k l s (i : Int) = some (l ++ nums (rep (s.data.toList.drop i) ++ [0, 1])) := by
  intro d
  induction d with
  | zero =>
    intro k i l hl h1 hd h2 hk
    obtain ⟨k, rfl⟩ : ∃ m, k = m + 1 := ⟨k - 1, by omega⟩
    have e : s.data.toList.drop i = [] := List.drop_eq_nil_of_le (by rw [data_length]; omega)
    simp only [bulwarkref04_name.l0]
    rw [if_neg (by omega), e]
    simp only [Option.bind_some]
    rw [if_pos (by simp only [List.length_cons, List.length_nil]; omega)]
    rfl
  | succ d ih =>
    intro k i l hl h1 hd h2 hk
    obtain ⟨k, rfl⟩ : ∃ m, k = m + 1 := ⟨k - 1, by omega⟩
    have ea := drop_cons (l := s.data.toList) (i := i) (by rw [data_length]; omega)
    simp only [bulwarkref04_name.l0]
    rw [if_pos (by omega), if_pos (by omega), if_pos (by omega), bt_list s i (by omega), ea]
    simp only [Option.bind_some]
    generalize s.data.toList.getD i 0 = c
    have hz : (((c.toNat : Int) = 0) ↔ c = 0) := ⟨fun h => UInt8.toNat_inj.1 (by simpa using h), fun h => by rw [h]; rfl⟩
    by_cases hc : c = 0
    · rw [if_pos (hz.2 hc), if_pos (by simp only [List.length_append, List.length_cons, List.length_nil]; omega), w64 (by omega) (by omega), show ((i : Int) + 1) = ((i + 1 : Nat) : Int) by omega, ih k (i + 1) _ (by simp only [List.length_append, List.length_cons, List.length_nil]; omega) (by omega) (by omega) (by simp only [List.length_append, List.length_cons, List.length_nil]; omega) (by omega)]
      subst hc
      simp only [rep, List.append_assoc, beq_self_eq_true, if_true, nums_append]
      rfl
    · rw [if_neg (fun h => hc (hz.1 h)), w64 (by omega) (by omega), show ((i : Int) + 1) = ((i + 1 : Nat) : Int) by omega, ih k (i + 1) _ (by simp only [List.length_append, List.length_cons, List.length_nil]; omega) (by omega) (by omega) (by simp only [List.length_append, List.length_cons, List.length_nil]; omega) (by omega)]
      have hb : (c == 0) = false := by simpa using hc
      simp only [rep, List.append_assoc, hb, nums_append]
      rfl
theorem name_f (l : List Int) (s : ByteArray) (k : Nat) (hl : l.length ≤ 10000) (hs : s.size ≤ 10000) (hk : 20000 ≤ k) : bulwarkref04_name.f k l s = some (l ++ nums (escL s)) := by
  unfold bulwarkref04_name.f
  have := name_l s hs s.size k 0 l (by omega) (by omega) (by omega) (by omega) (by omega)
  simpa [escL] using this
theorem or_f (a b c d : Int) (k : Nat) (hk : 100 ≤ k) : cmp_Or_int.f k [a, b, c, d] = some (if a = 0 then (if b = 0 then (if c = 0 then d else c) else b) else a) := by
  obtain ⟨k, rfl⟩ : ∃ m, k = m + 5 := ⟨k - 5, by omega⟩
  unfold cmp_Or_int.f
  simp only [cmp_Or_int.l0, rd]
  simp [wrap64]
  split
  · split
    · split
      · split
        · rename_i h; rw [h]
        · rfl
      · rfl
    · rfl
  · rfl
def cmpU (a b : Int) : Int := if a < b then -1 else if a > b then 1 else 0
theorem cmpu_f (a b : Int) : cmp_Compare_uint64.f a b = some (cmpU a b) := by
  unfold cmp_Compare_uint64.f cmp_isNaN_uint64.f cmpU
  simp
  split
  · rfl
  · split <;> rfl
/-- The order of keys. -/
def keyCmp (r f q : ByteArray) (t : Int) (r' f' q' : ByteArray) (t' : Int) : Int :=
  if cmpL r.data.toList r'.data.toList = 0 then (if cmpL f.data.toList f'.data.toList = 0 then (if cmpL q.data.toList q'.data.toList = 0 then cmpU t' t else cmpL q.data.toList q'.data.toList) else cmpL f.data.toList f'.data.toList) else cmpL r.data.toList r'.data.toList
theorem Cmp_f (r f q : ByteArray) (t : Int) (r' f' q' : ByteArray) (t' : Int) (k : Nat) (hk : 100 ≤ k) : cell_Cmp.f k r f q t r' f' q' t' = some (keyCmp r f q t r' f' q' t') := by
  unfold cell_Cmp.f cmp_Compare_string.f keyCmp
  simp only [Option.bind_some, cmpu_f, or_f _ _ _ _ k hk, cmpB_cmpL]
theorem refCmp_f (r f q : ByteArray) (t : Int) (r' f' q' : ByteArray) (t' : Int) (k : Nat) (hk : 30000 ≤ k) (h1 : r.size ≤ 10000) (h2 : f.size ≤ 10000) (h3 : q.size ≤ 10000) (h4 : r'.size ≤ 10000) (h5 : f'.size ≤ 10000) (h6 : q'.size ≤ 10000) :
    bulwarkref04_Cmp.f k r f q t r' f' q' t' = some (keyCmp r f q t r' f' q' t') := by
  unfold bulwarkref04_Cmp.f keyCmp
  rw [text_f _ _ k h1 h4 hk, text_f _ _ k h2 h5 hk, text_f _ _ k h3 h6 hk]
  simp only [Option.bind_some]
  split
  · split
    · split
      · unfold cmpU
        rcases Int.lt_trichotomy t' t with h | h | h
        · rw [if_neg (by omega), if_pos (by omega), if_pos h]
        · rw [if_pos h.symm, if_neg (by omega), if_neg (by omega)]
        · rw [if_neg (by omega), if_neg (by omega), if_neg (by omega), if_pos (by omega)]
      · rfl
    · rfl
  · rfl
theorem col_eq (r f q : ByteArray) (t : Int) (r' f' q' : ByteArray) (t' : Int) : bulwarkref04_Column.f r f q t r' f' q' t' = cell_Column.f r f q t r' f' q' t' := by
  unfold bulwarkref04_Column.f cell_Column.f
  split
  · rename_i h
    split
    · rename_i h2; simp [h, h2]
    · rename_i h2; simp [h, h2]
  · rename_i h; simp [h]
theorem alive_f (k : Nat) (hk : 20000 ≤ k) : bulwarklaw04_alive.f k = some true := by
  unfold bulwarklaw04_alive.f cell_Bytes.f
  rw [if_pos (show okB ⟨#[97]⟩ ⟨#[98]⟩ ⟨#[]⟩ = true by decide +kernel)]
  simp only [Option.bind_some, if_true]
  rw [same_f _ _ k (by decide +kernel) hk]
  have : keyL ⟨#[97]⟩ ⟨#[98]⟩ ⟨#[]⟩ ++ timeL (timeX 0) 8 = [97, 0, 1, 98, 0, 1, 0, 1, 255, 255, 255, 255, 255, 255, 255, 255] := by decide +kernel
  rw [decide_eq_true this]
  rfl
theorem refRight_f (r f q : ByteArray) (t : Int) : bulwarkref04_Right.f r f q t = some (rightI r f q) := by
  unfold bulwarkref04_Right.f rightI okB
  by_cases h1 : 1 ≤ r.size ∧ 1 ≤ f.size ∧ r.size ≤ 32 ∧ f.size ≤ 32 ∧ q.size ≤ 32
  · obtain ⟨a, b, c, d, e⟩ := h1
    rw [if_neg (by omega), if_neg (by omega), if_neg (by omega), if_neg (by omega), if_neg (by omega), if_pos (decide_eq_true ⟨a, b, c, d, e⟩)]
  · rw [decide_eq_false h1]
    simp only [Bool.false_eq_true, if_false]
    by_cases c1 : (r.size : Int) < 1
    · rw [if_pos c1]
    rw [if_neg c1]
    by_cases c2 : (r.size : Int) > 32
    · rw [if_pos c2]
    rw [if_neg c2]
    by_cases c3 : (f.size : Int) < 1
    · rw [if_pos c3]
    rw [if_neg c3]
    by_cases c4 : (f.size : Int) > 32
    · rw [if_pos c4]
    rw [if_neg c4]
    by_cases c5 : (q.size : Int) > 32
    · rw [if_pos c5]
    exact absurd ⟨by omega, by omega, by omega, by omega, by omega⟩ h1
end Go.Proofs.YtfdnpnaacikgdaaDoor.PCell
