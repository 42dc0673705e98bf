/- Words and walks for Split and Tablet: texts of these sessions, and of the kit's print, cut down to what is used (Cn). -/
import Derived.Test.YtpckachmleonlaaGreatDoorCv24
import Derived.Test.YtpckachmleonlaaGreatDoorCv25
import Derived.Test.YtpckachmleonlaaGreatDoorCv23
import Derived.Laws.BitsLemmas
section
set_option linter.unusedVariables false
set_option linter.unusedSimpArgs false
namespace Go.Proofs.YtpckachmleonlaaGreatDoor.Cp
open Go.RowKit Go.Proofs.YtpckachmleonlaaGreatDoorW.PrintWords
theorem cmpL_nil (b : List UInt8) : cmpL [] b = if b.length = 0 then 0 else -1 := by cases b <;> simp [cmpL]
theorem cmpL_nil' (a : List UInt8) : cmpL a [] = if a.length = 0 then 0 else 1 := by cases a <;> simp [cmpL]
def cmpU (a b : Int) : Int := if a < b then -1 else if a > b then 1 else 0
def zGc (r f q : ByteArray) (t : Int) (r' f' q' : ByteArray) (t' : Int) : Int :=
 if cmpL r.data.toList r'.data.toList = 0 then (if cmpL f.data.toList f'.data.toList = 0 then (if cmpL q.data.toList q'.data.toList = 0 then cmpU t' t else cmpL q.data.toList q'.data.toList) else cmpL f.data.toList f'.data.toList) else cmpL r.data.toList r'.data.toList
theorem wrap_u64 (n : Int) : IntKind.u64.wrap n = n % 18446744073709551616 := by simp [IntKind.wrap, IntKind.bits, IntKind.signed]
theorem u64_wf {t : Int} (h : (Lit.int .u64 t).wf = true) : 0 ≤ t ∧ t < 18446744073709551616 := by
 simp only [Lit.wf, IntKind.min, IntKind.max, IntKind.signed, IntKind.bits, Bool.and_eq_true, decide_eq_true_eq, Bool.false_eq_true, if_false] at h
 omega
theorem cmpL_self : ∀ x : List UInt8, cmpL x x = 0
 | [] => rfl
 | a :: x => by unfold cmpL; rw [if_pos rfl]; exact cmpL_self x
theorem cmpL_eq {x y : List UInt8} (h : cmpL x y = 0) : x = y := by
 have := (bytesLess_cmpL x y).2
 rw [h] at this
 simpa using this
theorem cmpL_swap : ∀ x y : List UInt8, cmpL y x = - cmpL x y
 | [], [] => rfl
 | [], _ :: _ => rfl
 | _ :: _, [] => rfl
 | a :: x, b :: y => by
  unfold cmpL
  by_cases h : a = b
  ·rw [if_pos h, if_pos h.symm]
   exact cmpL_swap x y
  ·rw [if_neg h, if_neg (fun e => h e.symm)]
   by_cases hl : a < b
   ·rw [if_pos hl, if_neg (by simp only [UInt8.not_lt]; exact UInt8.le_of_lt hl)]
    rfl
   ·rw [if_neg hl, if_pos]
    have h1 : ¬ a.toNat < b.toNat := hl
    have h2 : a.toNat ≠ b.toNat := fun e => h (UInt8.toNat_inj.1 e)
    show b.toNat < a.toNat
    omega
theorem cmpU_swap (a b : Int) : cmpU b a = - cmpU a b := by
 unfold cmpU
 rcases Int.lt_trichotomy a b with h | h | h
 ·rw [if_neg (by omega), if_pos h, if_pos h]; rfl
 ·rw [if_neg (by omega), if_neg (by omega), if_neg (by omega), if_neg (by omega)]; rfl
 ·rw [if_pos h, if_neg (by omega), if_pos h]
def sameCol (r f q r' f' q' : ByteArray) : Prop := r = r' ∧ f = f' ∧ q = q'
theorem keyCmp_same (r f q : ByteArray) (t t' : Int) : zGc r f q t r f q t' = cmpU t' t := by
 unfold zGc
 rw [cmpL_self, cmpL_self, cmpL_self]
 rfl
theorem keyCmp_other {r f q : ByteArray} {t : Int} {r' f' q' : ByteArray} {t' : Int} (h : ¬ sameCol r f q r' f' q') : zGc r f q t r' f' q' t' ≠ 0 ∧ ∀ s s', zGc r f q s r' f' q' s' = zGc r f q t r' f' q' t' := by
 unfold zGc
 by_cases h1 : cmpL r.data.toList r'.data.toList = 0
 ·rw [if_pos h1]
  by_cases h2 : cmpL f.data.toList f'.data.toList = 0
  ·rw [if_pos h2]
   by_cases h3 : cmpL q.data.toList q'.data.toList = 0
   ·exact absurd ⟨Go.WideShapes.bytes_inj (cmpL_eq h1), Go.WideShapes.bytes_inj (cmpL_eq h2), Go.WideShapes.bytes_inj (cmpL_eq h3)⟩ h
   ·rw [if_neg h3]
    exact ⟨h3, fun s s' => by rw [if_pos h1, if_pos h2, if_neg h3]⟩
  ·rw [if_neg h2]
   exact ⟨h2, fun s s' => by rw [if_pos h1, if_neg h2]⟩
 ·rw [if_neg h1]
  exact ⟨h1, fun s s' => by rw [if_neg h1]⟩
theorem keyCmp_swap (r f q : ByteArray) (t : Int) (r' f' q' : ByteArray) (t' : Int) : zGc r' f' q' t' r f q t = - zGc r f q t r' f' q' t' := by
 unfold zGc
 rw [cmpL_swap r.data.toList r'.data.toList, cmpL_swap f.data.toList f'.data.toList, cmpL_swap q.data.toList q'.data.toList, cmpU_swap t' t]
 generalize cmpL r.data.toList r'.data.toList = a
 generalize cmpL f.data.toList f'.data.toList = b
 generalize cmpL q.data.toList q'.data.toList = c
 generalize cmpU t' t = d
 by_cases ha : a = 0
 ·rw [if_pos ha, if_pos (by omega)]
  by_cases hb : b = 0
  ·rw [if_pos hb, if_pos (by omega)]
   by_cases hc : c = 0
   ·rw [if_pos hc, if_pos (by omega)]
   ·rw [if_neg hc, if_neg (by omega)]
  ·rw [if_neg hb, if_neg (by omega)]
 ·rw [if_neg ha, if_neg (by omega)]
theorem zDi (a : UInt8) (x y : List UInt8) : cmpL (a :: x) (a :: y) = cmpL x y := by
 conv => lhs; unfold cmpL
 rw [if_pos rfl]
theorem zFk {a b : UInt8} (h : a < b) (x y : List UInt8) : cmpL (a :: x) (b :: y) = -1 := by
 unfold cmpL
 rw [if_neg (fun e => by subst e; exact absurd h (UInt8.lt_irrefl _)), if_pos h]
theorem cmpL_gt {a b : UInt8} (h : b < a) (x y : List UInt8) : cmpL (a :: x) (b :: y) = 1 := by
 rw [cmpL_swap (b :: y) (a :: x), zFk h]
 rfl
theorem zEi {b : UInt8} (h : b ≠ 0) : 0 < b := by
 have : b.toNat ≠ 0 := fun e => h (UInt8.toNat_inj.1 (by simpa using e))
 show (0 : UInt8).toNat < b.toNat
 simp
 omega
theorem cmpL_esc : ∀ s s' u u' : List UInt8, cmpL (rep s ++ [0, 1] ++ u) (rep s' ++ [0, 1] ++ u') = if cmpL s s' = 0 then cmpL u u' else cmpL s s'
 | [], [], u, u' => by
  simp only [rep, List.nil_append, List.cons_append]
  rw [zDi, zDi]
  rfl
 | [], b :: y, u, u' => by
  have e : cmpL [] (b :: y) = -1 := rfl
  rw [e, if_neg (by decide)]
  by_cases hb : b = 0
  ·subst hb
   simp only [rep, beq_self_eq_true, if_true, List.nil_append, List.cons_append, List.append_assoc]
   rw [zDi, zFk (by decide)]
  ·have hb' : (b == 0) = false := by simpa using hb
   simp only [rep, hb', List.nil_append, List.cons_append, List.append_assoc, Bool.false_eq_true, if_false]
   rw [zFk (zEi hb)]
 | a :: x, [], u, u' => by
  have e : cmpL (a :: x) [] = 1 := rfl
  rw [e, if_neg (by decide)]
  by_cases hb : a = 0
  ·subst hb
   simp only [rep, beq_self_eq_true, if_true, List.nil_append, List.cons_append, List.append_assoc]
   rw [zDi, cmpL_gt (by decide)]
  ·have hb' : (a == 0) = false := by simpa using hb
   simp only [rep, hb', List.nil_append, List.cons_append, List.append_assoc, Bool.false_eq_true, if_false]
   rw [cmpL_gt (zEi hb)]
 | a :: x, b :: y, u, u' => by
  have ih := cmpL_esc x y u u'
  by_cases hab : a = b
  ·subst hab
   rw [zDi, ← ih]
   by_cases ha : a = 0
   ·subst ha
    simp only [rep, beq_self_eq_true, if_true, List.nil_append, List.cons_append, List.append_assoc]
    rw [zDi, zDi]
   ·have ha' : (a == 0) = false := by simpa using ha
    simp only [rep, ha', List.nil_append, List.cons_append, List.append_assoc, Bool.false_eq_true, if_false]
    rw [zDi]
  ·have hn : cmpL (a :: x) (b :: y) = if a < b then -1 else 1 := by
    conv => lhs; unfold cmpL
    rw [if_neg hab]
   have hn0 : ¬ cmpL (a :: x) (b :: y) = 0 := by rw [hn]; split <;> decide
   rw [if_neg hn0]
   by_cases ha : a = 0
   ·subst ha
    have hb : b ≠ 0 := fun e => hab e.symm
    have hb' : (b == 0) = false := by simpa using hb
    simp only [rep, beq_self_eq_true, if_true, hb', List.nil_append, List.cons_append, List.append_assoc, Bool.false_eq_true, if_false]
    rw [zFk (zEi hb), zFk (zEi hb)]
   ·have ha' : (a == 0) = false := by simpa using ha
    by_cases hb : b = 0
    ·subst hb
     simp only [rep, beq_self_eq_true, if_true, ha', List.nil_append, List.cons_append, List.append_assoc, Bool.false_eq_true, if_false]
     rw [cmpL_gt (zEi ha), cmpL_gt (zEi ha)]
    ·have hb' : (b == 0) = false := by simpa using hb
     simp only [rep, ha', hb', List.nil_append, List.cons_append, List.append_assoc, Bool.false_eq_true, if_false]
     rw [hn]
     conv => lhs; unfold cmpL
     rw [if_neg hab]
def be (x n : Nat) : List UInt8 := (List.range n).map fun i => UInt8.ofNat (x / 2 ^ (8 * (n - 1 - i)))
theorem be_length (x n : Nat) : (be x n).length = n := by simp [be]
theorem be_succ (x n : Nat) : be x (n + 1) = UInt8.ofNat (x / 2 ^ (8 * n)) :: be x n := by
 unfold be
 rw [List.range_succ_eq_map, List.map_cons, List.map_map]
 congr 1
 apply List.map_congr_left
 intro i hi
 have : i < n := by simpa using hi
 simp only [Function.comp]
 rw [show n + 1 - 1 - i.succ = n - 1 - i by omega]
def cmpN (a b : Nat) : Int := if a < b then -1 else if b < a then 1 else 0
theorem be_cmp (x y : Nat) : ∀ n, cmpL (be x n) (be y n) = cmpN (x % 2 ^ (8 * n)) (y % 2 ^ (8 * n))
 | 0 => by simp [be, cmpL, cmpN, Nat.mod_one]
 | n + 1 => by
  have ih := be_cmp x y n
  have e : (2 : Nat) ^ (8 * (n + 1)) = 2 ^ (8 * n) * 256 := by rw [Nat.mul_succ, Nat.pow_add]
  have hx := Nat.mod_mul (x := x) (a := 2 ^ (8 * n)) (b := 256)
  have hy := Nat.mod_mul (x := y) (a := 2 ^ (8 * n)) (b := 256)
  rw [e, hx, hy, be_succ, be_succ]
  have hp : 0 < (2 : Nat) ^ (8 * n) := Nat.pow_pos (by decide)
  have lx := Nat.mod_lt x hp
  have ly := Nat.mod_lt y hp
  have tx : (UInt8.ofNat (x / 2 ^ (8 * n))).toNat = x / 2 ^ (8 * n) % 256 := by simp
  have ty : (UInt8.ofNat (y / 2 ^ (8 * n))).toNat = y / 2 ^ (8 * n) % 256 := by simp
  generalize hA : UInt8.ofNat (x / 2 ^ (8 * n)) = A at tx ⊢
  generalize hB : UInt8.ofNat (y / 2 ^ (8 * n)) = B at ty ⊢
  rw [← tx, ← ty]
  generalize (2 : Nat) ^ (8 * n) = p at lx ly ih hp ⊢
  rcases Nat.lt_trichotomy A.toNat B.toNat with h | h | h
  ·rw [zFk h]
   unfold cmpN
   have : p * A.toNat + p ≤ p * B.toNat := by rw [← Nat.mul_succ]; exact Nat.mul_le_mul_left p h
   rw [if_pos (by omega)]
  ·have hab := UInt8.toNat_inj.1 h
   subst hab
   rw [zDi, ih]
   unfold cmpN
   rcases Nat.lt_trichotomy (x % p) (y % p) with h2 | h2 | h2
   ·rw [if_pos h2, if_pos (by omega)]
   ·rw [if_neg (by omega), if_neg (by omega), if_neg (by omega), if_neg (by omega)]
   ·rw [if_neg (by omega), if_pos h2, if_neg (by omega), if_pos (by omega)]
  ·rw [cmpL_gt h]
   unfold cmpN
   have : p * B.toNat + p ≤ p * A.toNat := by rw [← Nat.mul_succ]; exact Nat.mul_le_mul_left p h
   rw [if_neg (by omega), if_pos (by omega)]
def timeU (t : Int) : List UInt8 := be (timeX t).toNat 8
def keyU (r f q : ByteArray) (t : Int) : List UInt8 := escL r ++ (escL f ++ (escL q ++ timeU t))
theorem timeX_eq {t : Int} (h0 : 0 ≤ t) (h1 : t < 18446744073709551616) : timeX t = 18446744073709551615 - t := by
 unfold timeX
 rw [wrap_u64]
 omega
theorem timeU_nums {t : Int} (h0 : 0 ≤ t) (h1 : t < 18446744073709551616) : nums (timeU t) = timeL (timeX t) 8 := by
 have e := timeX_eq h0 h1
 obtain ⟨X, hX⟩ : ∃ X : Nat, timeX t = (X : Int) := ⟨(timeX t).toNat, by omega⟩
 unfold timeU timeL nums be
 rw [hX, List.map_map]
 apply List.map_congr_left
 intro i hi
 have : i < 8 := by simpa using hi
 simp only [Function.comp, Int.toNat_natCast]
 rw [UInt8.toNat_ofNat', show 8 * (8 - 1 - i) = 56 - 8 * i by omega]
 simp
theorem keyU_nums {r f q : ByteArray} {t : Int} (h0 : 0 ≤ t) (h1 : t < 18446744073709551616) : keyL r f q ++ timeL (timeX t) 8 = nums (keyU r f q t) := by
 unfold keyL keyU
 rw [nums_append, nums_append, nums_append, timeU_nums h0 h1]
 simp only [List.append_assoc]
theorem strOf_nums (l : List UInt8) : (strOfNums (nums l)).data.toList = l := by
 unfold strOfNums nums
 rw [List.map_map]
 show List.map _ l = l
 conv => rhs; rw [← List.map_id l]
 apply List.map_congr_left
 intro b _
 simp
theorem timeU_cmp {t t' : Int} (h0 : 0 ≤ t) (h1 : t < 18446744073709551616) (h0' : 0 ≤ t') (h1' : t' < 18446744073709551616) : cmpL (timeU t) (timeU t') = cmpU t' t := by
 unfold timeU
 rw [be_cmp, timeX_eq h0 h1, timeX_eq h0' h1']
 have e : (2 : Nat) ^ (8 * 8) = 18446744073709551616 := by decide
 rw [e, Nat.mod_eq_of_lt (by omega), Nat.mod_eq_of_lt (by omega)]
 unfold cmpN cmpU
 rcases Int.lt_trichotomy t t' with h | h | h
 ·rw [if_neg (by omega), if_pos (by omega), if_neg (by omega), if_pos (by omega)]
 ·rw [if_neg (by omega), if_neg (by omega), if_neg (by omega), if_neg (by omega)]
 ·rw [if_pos (by omega), if_pos (by omega)]
theorem keyU_cmp {r f q : ByteArray} {t : Int} {r' f' q' : ByteArray} {t' : Int} (h0 : 0 ≤ t) (h1 : t < 18446744073709551616) (h0' : 0 ≤ t') (h1' : t' < 18446744073709551616) : cmpL (keyU r f q t) (keyU r' f' q' t') = zGc r f q t r' f' q' t' := by
 unfold keyU escL zGc
 rw [cmpL_esc, cmpL_esc, cmpL_esc, timeU_cmp h0 h1 h0' h1']
theorem keyCmp_zero {r f q : ByteArray} {t : Int} {r' f' q' : ByteArray} {t' : Int} : zGc r f q t r' f' q' t' = 0 ↔ sameCol r f q r' f' q' ∧ t = t' := by
 constructor
 ·intro h
  by_cases hs : sameCol r f q r' f' q'
  ·obtain ⟨rfl, rfl, rfl⟩ := hs
   rw [keyCmp_same] at h
   refine ⟨⟨rfl, rfl, rfl⟩, ?_⟩
   unfold cmpU at h
   rcases Int.lt_trichotomy t' t with h1 | h1 | h1
   ·rw [if_pos h1] at h; omega
   ·exact h1.symm
   ·rw [if_neg (by omega), if_pos h1] at h; omega
  ·exact absurd h (keyCmp_other hs).1
 ·rintro ⟨⟨rfl, rfl, rfl⟩, rfl⟩
  rw [keyCmp_same]
  unfold cmpU
  rw [if_neg (by omega), if_neg (by omega)]
theorem unesc_esc : ∀ s u : List UInt8, unesc (rep s ++ [0, 1] ++ u) = some (s, u)
 | [], u => by
  simp only [rep, List.nil_append, List.cons_append]
  unfold unesc
  rw [if_pos rfl]
  simp
 | x :: s, u => by
  have ih := unesc_esc s u
  by_cases hx : x = 0
  ·subst hx
   simp only [rep, beq_self_eq_true, if_true, List.nil_append, List.cons_append, List.append_assoc] at ih ⊢
   unfold unesc
   rw [if_pos rfl]
   simp only []
   rw [if_neg (by decide), if_pos trivial, ih]
   rfl
  ·have hb : (x == 0) = false := by simpa using hx
   simp only [rep, hb, List.nil_append, List.cons_append, List.append_assoc, Bool.false_eq_true, if_false] at ih ⊢
   unfold unesc
   rw [if_neg hx, ih]
   rfl
theorem beV_foldl : ∀ (l : List UInt8) (a : Nat), l.foldl (fun a c => a * 256 + c.toNat) a = a * 256 ^ l.length + beV l
 | [], a => by simp [beV]
 | c :: l, a => by
  have h1 := beV_foldl l (a * 256 + c.toNat)
  have h2 := beV_foldl l (0 * 256 + c.toNat)
  unfold beV at h1 h2 ⊢
  rw [List.foldl_cons, List.foldl_cons, h1, h2, List.length_cons, Nat.pow_succ, Nat.zero_mul, Nat.zero_add, Nat.add_mul, Nat.mul_assoc, Nat.mul_comm 256 (256 ^ l.length)]
  omega
theorem beV_cons (c : UInt8) (l : List UInt8) : beV (c :: l) = c.toNat * 256 ^ l.length + beV l := by
 have := beV_foldl l (0 * 256 + c.toNat)
 conv => lhs; unfold beV
 rw [List.foldl_cons, this, Nat.zero_mul, Nat.zero_add]
theorem pow8 (n : Nat) : (256 : Nat) ^ n = 2 ^ (8 * n) := by rw [Nat.pow_mul]
theorem beV_be (x : Nat) : ∀ n, beV (be x n) = x % 2 ^ (8 * n)
 | 0 => by simp [be, beV, Nat.mod_one]
 | n + 1 => by
  have ih := beV_be x n
  have e : (2 : Nat) ^ (8 * (n + 1)) = 2 ^ (8 * n) * 256 := by rw [Nat.mul_succ, Nat.pow_add]
  rw [be_succ, beV_cons, be_length, ih, pow8, e, Nat.mod_mul, UInt8.toNat_ofNat', Nat.mul_comm (2 ^ (8 * n)), Nat.add_comm]
theorem strU_data (l : List UInt8) : (strU l).data.toList = l := strOf_nums l
theorem strU_of (s : ByteArray) : strU s.data.toList = s := Go.WideShapes.bytes_inj (strU_data _)
theorem timeX_beV {t : Int} (h0 : 0 ≤ t) (h1 : t < 18446744073709551616) : timeX (beV (timeU t) : Nat) = t := by
 unfold timeU
 have e : (2 : Nat) ^ (8 * 8) = 18446744073709551616 := by decide
 rw [beV_be, timeX_eq h0 h1, e, Nat.mod_eq_of_lt (by omega), timeX_eq (by omega) (by omega)]
 omega
theorem readF_key {r f q : ByteArray} {t : Int} (h0 : 0 ≤ t) (h1 : t < 18446744073709551616) (hk : okB r f q = true) : readF (keyU r f q t) = some (r, f, q, t) := by
 unfold readF keyU escL
 rw [unesc_esc]
 simp only []
 rw [unesc_esc]
 simp only []
 rw [unesc_esc]
 simp only []
 have hl : (timeU t).length = 8 := by unfold timeU; exact be_length _ _
 rw [strU_of, strU_of, strU_of, if_pos ⟨hl, hk⟩, timeX_beV h0 h1]
end Go.Proofs.YtpckachmleonlaaGreatDoor.Cp
end
