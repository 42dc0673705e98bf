/- Cell: the order of keys' bytes is the keys' own; no key's bytes begin another one's. Plain words alone. -/
import Derived.Test.YtfdnpnaacikgdaaDoorO
/- The order of keys' bytes. -/
set_option linter.unusedVariables false
set_option linter.unusedSimpArgs false
namespace Go.Proofs.YtfdnpnaacikgdaaDoor.PCell
open Go.RowKit Go.Proofs.YtfdnpnaacikgdaaDoorW.PrintWords Go.Proofs.YtfdnpnaacikgdaaDoorW.PrintMore

theorem cmpL_cons (a : UInt8) (x y : List UInt8) : cmpL (a :: x) (a :: y) = cmpL x y := by
  conv => lhs; unfold cmpL
  rw [if_pos rfl]
theorem cmpL_lt {a b : UInt8} (h : a < b) (x y : List UInt8) : cmpL (a :: x) (b :: y) = -1 := by
  unfold cmpL
  rw [if_neg (fun e => by subst e; exact absurd h (UInt8.lt_irrefl _)), if_pos h]
theorem cmpL_gt {a b : UInt8} (h : b < a) (x y : List UInt8) : cmpL (a :: x) (b :: y) = 1 := by
  rw [cmpL_swap (b :: y) (a :: x), cmpL_lt h]
  rfl
theorem pos_of_ne {b : UInt8} (h : b ≠ 0) : 0 < b := by
  have : b.toNat ≠ 0 := fun e => h (UInt8.toNat_inj.1 (by simpa using e))
  show (0 : UInt8).toNat < b.toNat
  simp
  omega
/-- Escaped texts are ordered as the texts are, whatever stands behind. -/
theorem cmpL_esc : ∀ s s' u u' : List UInt8, cmpL (rep s ++ [0, 1] ++ u) (rep s' ++ [0, 1] ++ u') = if cmpL s s' = 0 then cmpL u u' else cmpL s s'
  | [], [], u, u' => by
    simp only [rep, List.nil_append, List.cons_append]
    rw [cmpL_cons, cmpL_cons]
    rfl
  | [], b :: y, u, u' => by
    have e : cmpL [] (b :: y) = -1 := rfl
    rw [e, if_neg (by decide)]
    by_cases hb : b = 0
    · subst hb
      simp only [rep, beq_self_eq_true, if_true, List.nil_append, List.cons_append, List.append_assoc]
      rw [cmpL_cons, cmpL_lt (by decide)]
    · have hb' : (b == 0) = false := by simpa using hb
      simp only [rep, hb', List.nil_append, List.cons_append, List.append_assoc, Bool.false_eq_true, if_false]
      rw [cmpL_lt (pos_of_ne hb)]
  | a :: x, [], u, u' => by
    have e : cmpL (a :: x) [] = 1 := rfl
    rw [e, if_neg (by decide)]
    by_cases hb : a = 0
    · subst hb
      simp only [rep, beq_self_eq_true, if_true, List.nil_append, List.cons_append, List.append_assoc]
      rw [cmpL_cons, cmpL_gt (by decide)]
    · have hb' : (a == 0) = false := by simpa using hb
      simp only [rep, hb', List.nil_append, List.cons_append, List.append_assoc, Bool.false_eq_true, if_false]
      rw [cmpL_gt (pos_of_ne hb)]
  | a :: x, b :: y, u, u' => by
    have ih := cmpL_esc x y u u'
    by_cases hab : a = b
    · subst hab
      rw [cmpL_cons, ← ih]
      by_cases ha : a = 0
      · subst ha
        simp only [rep, beq_self_eq_true, if_true, List.nil_append, List.cons_append, List.append_assoc]
        rw [cmpL_cons, cmpL_cons]
      · have ha' : (a == 0) = false := by simpa using ha
        simp only [rep, ha', List.nil_append, List.cons_append, List.append_assoc, Bool.false_eq_true, if_false]
        rw [cmpL_cons]
    · have hn : cmpL (a :: x) (b :: y) = if a < b then -1 else 1 := by
        conv => lhs; unfold cmpL
        rw [if_neg hab]
      have hn0 : ¬ cmpL (a :: x) (b :: y) = 0 := by rw [hn]; split <;> decide
      rw [if_neg hn0]
      by_cases ha : a = 0
      · subst ha
        have hb : b ≠ 0 := fun e => hab e.symm
        have hb' : (b == 0) = false := by simpa using hb
        simp only [rep, beq_self_eq_true, if_true, hb', List.nil_append, List.cons_append, List.append_assoc, Bool.false_eq_true, if_false]
        rw [cmpL_lt (pos_of_ne hb), cmpL_lt (pos_of_ne hb)]
      · have ha' : (a == 0) = false := by simpa using ha
        by_cases hb : b = 0
        · subst hb
          simp only [rep, beq_self_eq_true, if_true, ha', List.nil_append, List.cons_append, List.append_assoc, Bool.false_eq_true, if_false]
          rw [cmpL_gt (pos_of_ne ha), cmpL_gt (pos_of_ne ha)]
        · have hb' : (b == 0) = false := by simpa using hb
          simp only [rep, ha', hb', List.nil_append, List.cons_append, List.append_assoc, Bool.false_eq_true, if_false]
          rw [hn]
          conv => lhs; unfold cmpL
          rw [if_neg hab]

/-- n bytes of a number, the greatest first. -/
def be (x n : Nat) : List UInt8 := (List.range n).map fun i => UInt8.ofNat (x / 2 ^ (8 * (n - 1 - i)))
theorem be_length (x n : Nat) : (be x n).length = n := by simp [be]
theorem be_succ (x n : Nat) : be x (n + 1) = UInt8.ofNat (x / 2 ^ (8 * n)) :: be x n := by
  unfold be
  rw [List.range_succ_eq_map, List.map_cons, List.map_map]
  congr 1
  apply List.map_congr_left
  intro i hi
  have : i < n := by simpa using hi
  simp only [Function.comp]
  rw [show n + 1 - 1 - i.succ = n - 1 - i by omega]
def cmpN (a b : Nat) : Int := if a < b then -1 else if b < a then 1 else 0
theorem be_cmp (x y : Nat) : ∀ n, cmpL (be x n) (be y n) = cmpN (x % 2 ^ (8 * n)) (y % 2 ^ (8 * n))
  | 0 => by simp [be, cmpL, cmpN, Nat.mod_one]
  | n + 1 => by
    have ih := be_cmp x y n
    have e : (2 : Nat) ^ (8 * (n + 1)) = 2 ^ (8 * n) * 256 := by rw [Nat.mul_succ, Nat.pow_add]
    have hx := Nat.mod_mul (x := x) (a := 2 ^ (8 * n)) (b := 256)
    have hy := Nat.mod_mul (x := y) (a := 2 ^ (8 * n)) (b := 256)
    rw [e, hx, hy, be_succ, be_succ]
    have hp : 0 < (2 : Nat) ^ (8 * n) := Nat.pow_pos (by decide)
    have lx := Nat.mod_lt x hp
    have ly := Nat.mod_lt y hp
    have tx : (UInt8.ofNat (x / 2 ^ (8 * n))).toNat = x / 2 ^ (8 * n) % 256 := by simp
    have ty : (UInt8.ofNat (y / 2 ^ (8 * n))).toNat = y / 2 ^ (8 * n) % 256 := by simp
    generalize hA : UInt8.ofNat (x / 2 ^ (8 * n)) = A at tx ⊢
    generalize hB : UInt8.ofNat (y / 2 ^ (8 * n)) = B at ty ⊢
    rw [← tx, ← ty]
    generalize (2 : Nat) ^ (8 * n) = p at lx ly ih hp ⊢
    rcases Nat.lt_trichotomy A.toNat B.toNat with h | h | h
    · rw [cmpL_lt h]
      unfold cmpN
      have : p * A.toNat + p ≤ p * B.toNat := by rw [← Nat.mul_succ]; exact Nat.mul_le_mul_left p h
      rw [if_pos (by omega)]
    · have hab := UInt8.toNat_inj.1 h
      subst hab
      rw [cmpL_cons, ih]
      unfold cmpN
      rcases Nat.lt_trichotomy (x % p) (y % p) with h2 | h2 | h2
      · rw [if_pos h2, if_pos (by omega)]
      · rw [if_neg (by omega), if_neg (by omega), if_neg (by omega), if_neg (by omega)]
      · rw [if_neg (by omega), if_pos h2, if_neg (by omega), if_pos (by omega)]
    · rw [cmpL_gt h]
      unfold cmpN
      have : p * B.toNat + p ≤ p * A.toNat := by rw [← Nat.mul_succ]; exact Nat.mul_le_mul_left p h
      rw [if_neg (by omega), if_pos (by omega)]

/-- A key's bytes. -/
def timeU (t : Int) : List UInt8 := be (timeX t).toNat 8
def keyU (r f q : ByteArray) (t : Int) : List UInt8 := escL r ++ (escL f ++ (escL q ++ timeU t))
theorem timeX_eq {t : Int} (h0 : 0 ≤ t) (h1 : t < 18446744073709551616) : timeX t = 18446744073709551615 - t := by
  unfold timeX
  rw [wrap_u64]
  omega
theorem timeU_nums {t : Int} (h0 : 0 ≤ t) (h1 : t < 18446744073709551616) : nums (timeU t) = timeL (timeX t) 8 := by
  have e := timeX_eq h0 h1
  obtain ⟨X, hX⟩ : ∃ X : Nat, timeX t = (X : Int) := ⟨(timeX t).toNat, by omega⟩
  unfold timeU timeL nums be
  rw [hX, List.map_map]
  apply List.map_congr_left
  intro i hi
  have : i < 8 := by simpa using hi
  simp only [Function.comp, Int.toNat_natCast]
  rw [UInt8.toNat_ofNat', show 8 * (8 - 1 - i) = 56 - 8 * i by omega]
  simp
theorem keyU_nums {r f q : ByteArray} {t : Int} (h0 : 0 ≤ t) (h1 : t < 18446744073709551616) : keyL r f q ++ timeL (timeX t) 8 = nums (keyU r f q t) := by
  unfold keyL keyU
  rw [nums_append, nums_append, nums_append, timeU_nums h0 h1]
  simp only [List.append_assoc]
theorem strOf_nums (l : List UInt8) : (strOfNums (nums l)).data.toList = l := by
  unfold strOfNums nums
  rw [List.map_map]
  show List.map _ l = l
  conv => rhs; rw [← List.map_id l]
  apply List.map_congr_left
  intro b _
  simp
theorem timeU_cmp {t t' : Int} (h0 : 0 ≤ t) (h1 : t < 18446744073709551616) (h0' : 0 ≤ t') (h1' : t' < 18446744073709551616) : cmpL (timeU t) (timeU t') = cmpU t' t := by
  unfold timeU
  rw [be_cmp, timeX_eq h0 h1, timeX_eq h0' h1']
  have e : (2 : Nat) ^ (8 * 8) = 18446744073709551616 := by decide
  rw [e, Nat.mod_eq_of_lt (by omega), Nat.mod_eq_of_lt (by omega)]
  unfold cmpN cmpU
  rcases Int.lt_trichotomy t t' with h | h | h
  · rw [if_neg (by omega), if_pos (by omega), if_neg (by omega), if_pos (by omega)]
  · rw [if_neg (by omega), if_neg (by omega), if_neg (by omega), if_neg (by omega)]
  · rw [if_pos (by omega), if_pos (by omega)]
theorem keyU_cmp {r f q : ByteArray} {t : Int} {r' f' q' : ByteArray} {t' : Int} (h0 : 0 ≤ t) (h1 : t < 18446744073709551616) (h0' : 0 ≤ t') (h1' : t' < 18446744073709551616) : cmpL (keyU r f q t) (keyU r' f' q' t') = keyCmp r f q t r' f' q' t' := by
  unfold keyU escL keyCmp
  rw [cmpL_esc, cmpL_esc, cmpL_esc, timeU_cmp h0 h1 h0' h1']
theorem escL_free {s s' : ByteArray} {u z u' : List UInt8} (h : escL s ++ u ++ z = escL s' ++ u') : s = s' ∧ u ++ z = u' := by
  have e : cmpL (escL s ++ (u ++ z)) (escL s' ++ u') = 0 := by rw [← List.append_assoc, h]; exact cmpL_self _
  unfold escL at e
  rw [cmpL_esc] at e
  split at e
  · rename_i h1
    exact ⟨Go.WideShapes.bytes_inj (cmpL_eq h1), cmpL_eq e⟩
  · contradiction
theorem keyU_free {r f q : ByteArray} {t : Int} {r' f' q' : ByteArray} {t' : Int} {z : List UInt8} (h : keyU r f q t ++ z = keyU r' f' q' t') : z = [] := by
  unfold keyU at h
  have h1 := (escL_free h).2
  have h2 := (escL_free h1).2
  have h3 := (escL_free h2).2
  have h4 := congrArg List.length h3
  rw [List.length_append] at h4
  unfold timeU at h4
  rw [be_length, be_length] at h4
  exact List.eq_nil_of_length_eq_zero (by omega)
theorem keyCmp_zero {r f q : ByteArray} {t : Int} {r' f' q' : ByteArray} {t' : Int} : keyCmp r f q t r' f' q' t' = 0 ↔ sameCol r f q r' f' q' ∧ t = t' := by
  constructor
  · intro h
    by_cases hs : sameCol r f q r' f' q'
    · obtain ⟨rfl, rfl, rfl⟩ := hs
      rw [keyCmp_same] at h
      refine ⟨⟨rfl, rfl, rfl⟩, ?_⟩
      unfold cmpU at h
      rcases Int.lt_trichotomy t' t with h1 | h1 | h1
      · rw [if_pos h1] at h; omega
      · exact h1.symm
      · rw [if_neg (by omega), if_pos h1] at h; omega
    · exact absurd h (keyCmp_other hs).1
  · rintro ⟨⟨rfl, rfl, rfl⟩, rfl⟩
    rw [keyCmp_same]
    unfold cmpU
    rw [if_neg (by omega), if_neg (by omega)]
end Go.Proofs.YtfdnpnaacikgdaaDoor.PCell
