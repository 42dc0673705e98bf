/- Cell: the law CellBack in plain words, and at its call. -/
import Derived.Test.YtfdnpnaacikgdaaDoorN
import Derived.Test.YtfdnpnaacikgdaaDoorR7
import Derived.Test.YtfdnpnaacikgdaaDoorPCell2x3
/- The law CellBack. -/
set_option linter.unusedVariables false
set_option linter.unusedSimpArgs false
namespace Go.Proofs.YtfdnpnaacikgdaaDoor.PCell
open Go.RowKit Go.Proofs.YtfdnpnaacikgdaaDoorW.PrintWords Go.Proofs.YtfdnpnaacikgdaaDoorW.PrintMore

theorem unesc_esc : ∀ s u : List UInt8, unesc (rep s ++ [0, 1] ++ u) = some (s, u)
  | [], u => by
    simp only [rep, List.nil_append, List.cons_append]
    unfold unesc
    rw [if_pos rfl]
    simp
  | x :: s, u => by
    have ih := unesc_esc s u
    by_cases hx : x = 0
    · subst hx
      simp only [rep, beq_self_eq_true, if_true, List.nil_append, List.cons_append, List.append_assoc] at ih ⊢
      unfold unesc
      rw [if_pos rfl]
      simp only []
      rw [if_neg (by decide), if_pos trivial, ih]
      rfl
    · have hb : (x == 0) = false := by simpa using hx
      simp only [rep, hb, List.nil_append, List.cons_append, List.append_assoc, Bool.false_eq_true, if_false] at ih ⊢
      unfold unesc
      rw [if_neg hx, ih]
      rfl
theorem unesc_inv : ∀ (n : Nat) (bs s r : List UInt8), bs.length ≤ n → unesc bs = some (s, r) → bs = rep s ++ [0, 1] ++ r
  | _, [], s, r, _, h => by cases h
  | 0, x :: bs, s, r, hl, h => by simp at hl
  | n + 1, x :: bs, s, r, hl, h => by
    unfold unesc at h
    split at h
    · rename_i hx
      subst hx
      split at h
      · cases h
      · rename_i y r'
        split at h
        · rename_i hy
          subst hy
          injection h with h
          injection h with h1 h2
          subst h1 h2
          rfl
        · split at h
          · rename_i hy
            subst hy
            cases hu : unesc r' with
            | none => rw [hu] at h; cases h
            | some p =>
              rw [hu] at h
              injection h with h
              injection h with h1 h2
              subst h1 h2
              have := unesc_inv n r' p.1 p.2 (by simp at hl; omega) hu
              simp only [rep, beq_self_eq_true, if_true, List.nil_append, List.cons_append, List.append_assoc] at this ⊢
              rw [← this]
          · cases h
    · rename_i hx
      cases hu : unesc bs with
      | none => rw [hu] at h; cases h
      | some p =>
        rw [hu] at h
        injection h with h
        injection h with h1 h2
        subst h1 h2
        have := unesc_inv n bs p.1 p.2 (by simp at hl; omega) hu
        have hb : (x == 0) = false := by simpa using hx
        simp only [rep, hb, List.nil_append, List.cons_append, List.append_assoc, Bool.false_eq_true, if_false] at this ⊢
        rw [← this]
theorem beV_foldl : ∀ (l : List UInt8) (a : Nat), l.foldl (fun a c => a * 256 + c.toNat) a = a * 256 ^ l.length + beV l
  | [], a => by simp [beV]
  | c :: l, a => by
    have h1 := beV_foldl l (a * 256 + c.toNat)
    have h2 := beV_foldl l (0 * 256 + c.toNat)
    unfold beV at h1 h2 ⊢
    rw [List.foldl_cons, List.foldl_cons, h1, h2, List.length_cons, Nat.pow_succ, Nat.zero_mul, Nat.zero_add, Nat.add_mul, Nat.mul_assoc, Nat.mul_comm 256 (256 ^ l.length)]
    omega
theorem beV_cons (c : UInt8) (l : List UInt8) : beV (c :: l) = c.toNat * 256 ^ l.length + beV l := by
  have := beV_foldl l (0 * 256 + c.toNat)
  conv => lhs; unfold beV
  rw [List.foldl_cons, this, Nat.zero_mul, Nat.zero_add]
theorem pow8 (n : Nat) : (256 : Nat) ^ n = 2 ^ (8 * n) := by rw [Nat.pow_mul]
theorem beV_be (x : Nat) : ∀ n, beV (be x n) = x % 2 ^ (8 * n)
  | 0 => by simp [be, beV, Nat.mod_one]
  | n + 1 => by
    have ih := beV_be x n
    have e : (2 : Nat) ^ (8 * (n + 1)) = 2 ^ (8 * n) * 256 := by rw [Nat.mul_succ, Nat.pow_add]
    rw [be_succ, beV_cons, be_length, ih, pow8, e, Nat.mod_mul, UInt8.toNat_ofNat', Nat.mul_comm (2 ^ (8 * n)), Nat.add_comm]
theorem be_add (c V : Nat) (n : Nat) : be (c * 2 ^ (8 * n) + V) n = be V n := by
  unfold be
  apply List.map_congr_left
  intro i hi
  have hi' : i < n := by simpa using hi
  have e : (2 : Nat) ^ (8 * n) = 2 ^ (8 * (i + 1)) * 2 ^ (8 * (n - 1 - i)) := by
    rw [← Nat.pow_add]
    congr 1
    omega
  have hp : 0 < (2 : Nat) ^ (8 * (n - 1 - i)) := Nat.pow_pos (by decide)
  rw [e, ← Nat.mul_assoc, Nat.mul_comm (c * _), Nat.mul_add_div hp]
  apply UInt8.toNat_inj.1
  rw [UInt8.toNat_ofNat', UInt8.toNat_ofNat']
  have e2 : (2 : Nat) ^ (8 * (i + 1)) = 2 ^ (8 * i) * 256 := by rw [Nat.mul_succ, Nat.pow_add]
  rw [e2, ← Nat.mul_assoc, Nat.mul_comm (c * 2 ^ (8 * i)), Nat.mul_add_mod]
theorem be_beV : ∀ l : List UInt8, be (beV l) l.length = l
  | [] => rfl
  | c :: l => by
    have ih := be_beV l
    have hp : 0 < (2 : Nat) ^ (8 * l.length) := Nat.pow_pos (by decide)
    have hl := beV_lt l
    rw [beV_cons, pow8, List.length_cons, be_succ, be_add, ih]
    congr 1
    apply UInt8.toNat_inj.1
    rw [UInt8.toNat_ofNat', Nat.mul_comm, Nat.mul_add_div hp, Nat.div_eq_of_lt (by rw [← pow8]; exact hl), Nat.add_zero]
    exact Nat.mod_eq_of_lt c.toNat_lt
theorem strU_data (l : List UInt8) : (strU l).data.toList = l := strOf_nums l
theorem strU_of (s : ByteArray) : strU s.data.toList = s := Go.WideShapes.bytes_inj (strU_data _)
theorem timeX_beV {t : Int} (h0 : 0 ≤ t) (h1 : t < 18446744073709551616) : timeX (beV (timeU t) : Nat) = t := by
  unfold timeU
  have e : (2 : Nat) ^ (8 * 8) = 18446744073709551616 := by decide
  rw [beV_be, timeX_eq h0 h1, e, Nat.mod_eq_of_lt (by omega), timeX_eq (by omega) (by omega)]
  omega
theorem readF_key {r f q : ByteArray} {t : Int} (h0 : 0 ≤ t) (h1 : t < 18446744073709551616) (hk : okB r f q = true) : readF (keyU r f q t) = some (r, f, q, t) := by
  unfold readF keyU escL
  rw [unesc_esc]
  simp only []
  rw [unesc_esc]
  simp only []
  rw [unesc_esc]
  simp only []
  have hl : (timeU t).length = 8 := by unfold timeU; exact be_length _ _
  rw [strU_of, strU_of, strU_of, if_pos ⟨hl, hk⟩, timeX_beV h0 h1]
theorem readF_inv {bs : List UInt8} {r f q : ByteArray} {t : Int} (h : readF bs = some (r, f, q, t)) : okB r f q = true ∧ 0 ≤ t ∧ t < 18446744073709551616 ∧ keyU r f q t = bs := by
  unfold readF at h
  cases h1 : unesc bs with
  | none => rw [h1] at h; cases h
  | some p1 =>
    obtain ⟨s1, b1⟩ := p1
    rw [h1] at h
    simp only [] at h
    cases h2 : unesc b1 with
    | none => rw [h2] at h; cases h
    | some p2 =>
      obtain ⟨s2, b2⟩ := p2
      rw [h2] at h
      simp only [] at h
      cases h3 : unesc b2 with
      | none => rw [h3] at h; cases h
      | some p3 =>
        obtain ⟨s3, b3⟩ := p3
        rw [h3] at h
        simp only [] at h
        split at h
        · rename_i hc
          obtain ⟨hl, hk⟩ := hc
          injection h with h
          injection h with e1 h
          injection h with e2 h
          injection h with e3 e4
          subst e1 e2 e3 e4
          have hV := beV_lt b3
          rw [hl] at hV
          have e8 : 256 ^ 8 = 18446744073709551616 := by decide
          rw [e8] at hV
          have ht : timeX (beV b3 : Nat) = 18446744073709551615 - ((beV b3 : Nat) : Int) := timeX_eq (by omega) (by omega)
          refine ⟨hk, by omega, by omega, ?_⟩
          have hb3 := be_beV b3
          rw [hl] at hb3
          have htu : timeU (timeX (beV b3 : Nat)) = b3 := by
            unfold timeU
            rw [timeX_eq (t := timeX (beV b3 : Nat)) (by omega) (by omega), ht, show (18446744073709551615 - (18446744073709551615 - ((beV b3 : Nat) : Int))).toNat = beV b3 by omega]
            exact hb3
          unfold keyU escL
          rw [strU_data, strU_data, strU_data, htu]
          have i1 := unesc_inv _ _ _ _ (Nat.le_refl _) h1
          have i2 := unesc_inv _ _ _ _ (Nat.le_refl _) h2
          have i3 := unesc_inv _ _ _ _ (Nat.le_refl _) h3
          rw [i1, i2, i3]
        · cases h
theorem toU_of (l : List UInt8) : toU (nums l) = l := strOf_nums l
theorem nums_range (l : List UInt8) : ∀ x ∈ nums l, 0 ≤ x ∧ x < 256 := by
  intro x hx
  unfold nums at hx
  obtain ⟨b, _, rfl⟩ := List.mem_map.1 hx
  have := b.toNat_lt
  omega
theorem CellBack (r f q : ByteArray) (t : Int) (l : List Int) (h0 : 0 ≤ t) (h1 : t < 18446744073709551616) (hl : ∀ x ∈ l, 0 ≤ x ∧ x < 256) : PCell2.bulwarklaw04_CellBack.f 100000 r f q t l = some true := by
  have hj1 : l.length ≤ 1000 → PCell2.bulwarklaw04_CellBack.j1 99999 l = some true := by
    intro hlen
    rw [show (99999 : Nat) = 99998 + 1 from rfl]
    simp only [PCell2.bulwarklaw04_CellBack.j1]
    rw [alive_f _ (by omega), read_f hl (by omega)]
    simp only [Option.bind_some]
    cases hr : readF (toU l) with
    | none =>
      simp [readR, ByteArray.toList_eq]
    | some p =>
      obtain ⟨r', f', q', t'⟩ := p
      obtain ⟨hk, ht0, ht1, hb⟩ := readF_inv hr
      have hcb : cell_Bytes.f r' f' q' t' = some (l, 0) := by
        unfold cell_Bytes.f
        rw [if_pos hk, keyU_nums ht0 ht1, hb, toU_nums hl]
      have hsf := same_f l l 99998 (by omega) (by omega)
      simp [readR, hcb, hsf]
  have hj0 : ∀ x : Bool, (x = false → l.length ≤ 1000) → PCell2.bulwarklaw04_CellBack.j0 100000 l x r f q t = some true := by
    intro x hx
    rw [show (100000 : Nat) = 99999 + 1 from rfl]
    simp only [PCell2.bulwarklaw04_CellBack.j0]
    rw [alive_f _ (by omega)]
    cases x with
    | true => simp
    | false =>
      rw [if_neg (by simp), hj1 (hx rfl)]
      unfold cell_Bytes.f
      simp only [Option.bind_some]
      rcases Bool.eq_false_or_eq_true (okB r f q) with hk | hk
      · have hlen := keyB_len r f q t hk
        rw [if_pos hk]
        simp only []
        rw [if_pos trivial, keyU_nums h0 h1] at *
        rw [read_f (nums_range _) (by omega), toU_of, readF_key h0 h1 hk]
        simp [readR]
      · rw [if_neg (c := okB r f q = true) (by rw [hk]; simp)]
        simp
  unfold PCell2.bulwarklaw04_CellBack.f
  obtain ⟨b0, e0, _⟩ := light_f r f q t
  rw [e0]
  simp only [Option.bind_some]
  split
  · exact hj0 _ (fun h => by have := of_decide_eq_false h; omega)
  · exact hj0 _ (fun h => by cases h)
theorem CellBack_law (r f q : ByteArray) (t : Int) (A : Option Addr) (c : Nat) (l : List Int) (W : World) (wt : (Lit.int .u64 t).wf = true) (hc : l.length ≤ c) (hr : Kd.C (Kd.int .u8) W A l.length l ∧ (∀ x ∈ l, 0 ≤ x ∧ x < 256)) :
    Calls Tryd.prog 8 #[.agg #[.string r, .string f, .string q, .int .u64 t], .slice A l.length c] W fun e w' => e = .returned (.bool true) ∧ Below W.heap.size W w' :=
  PCell2.bulwarklaw04_CellBack.calls 100000 r f q t A c l true W hr.1 hc (CellBack r f q t l (u64_wf wt).1 (u64_wf wt).2 hr.2)
end Go.Proofs.YtfdnpnaacikgdaaDoor.PCell
