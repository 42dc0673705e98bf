/- Words and walks for Split and Tablet: texts of these sessions, and of the kit's print, cut down to what is used (Cf Cg Ch Ci Cj). -/
import Derived.Test.YtpckachmleonlaaGreatDoorCv22
import Derived.Lib.ConvBytes
import Derived.Test.YtpckachmleonlaaGreatDoorCv2
import Derived.OneCell
import Derived.Test.YtpckachmleonlaaGreatDoorCv3
import Derived.Deep.RegionWith
section
set_option linter.unusedVariables false
set_option linter.unusedSimpArgs false
namespace Go.Proofs.YtpckachmleonlaaGreatDoor.Cp
open Go.RowKit Go.Proofs.YtpckachmleonlaaGreatDoorW.PrintWords
theorem bsAt_world (w : World) (s : ByteArray) : BsAt (Lib.bytesWorld w 5 s) w.heap.size 0 s.data.toList := by
  intro i hi
  rw [Nat.zero_add, Lib.bytesWorld_cell w 5 s i (by rwa [Array.length_toList] at hi)]
theorem bsAt_blk {w : World} {g : Nat} {bs : List UInt8} (h : w.heap[g]? = some (.cells (cells bs).toArray 5 (0, 0))) : BsAt w g 0 bs := by
  intro i hi
  rw [Nat.zero_add, zAc h, List.getElem?_toArray, cells_get hi]
def escL (s : ByteArray) : List UInt8 := rep s.data.toList ++ [0, 1]
set_option maxHeartbeats 1000000 in
set_option maxRecDepth 100000 in
theorem escaped_any (s : ByteArray) (w : World) (hs : s.size ≤ 1000) :
    Calls Tryz.prog 152 #[.string s] w fun e w' => ∃ v0_ : Value, e = .returned v0_ ∧ Kd.R kB 5 w' w.heap.size (fun _ => True) v0_ (nums (escL s)) ∧ Below w.heap.size w w' := by
  have kb := fun W => print_bytes (P := Tryz.prog) 9 47 5 Tryz.underlying9 Tryz.underlying47 Tryz.underlying5 s W
  have HW0 := zAa.mk (bsAt_world w s)
  have HB0 : zAa (Below w.heap.size w (Lib.bytesWorld w 5 s)) := ⟨bytes_below (Below.refl _ _) (Nat.le_refl _) 5 s⟩
  have hsz := Lib.bytesWorld_size w 5 s
  have HZ := zAa.mk hsz
  obtain ⟨c, hc⟩ : ∃ c, grownCap w s.size 0 5 = c := ⟨_, rfl⟩
  have hcge : s.size ≤ c := by rw [← hc]; exact grownCap_ge w s.size 0 5
  obtain ⟨w1, hw1⟩ : ∃ w1, Lib.bytesWorld w 5 s = w1 := ⟨_, rfl⟩
  have kb1 := kb w
  rw [hc, hw1] at kb1
  rw [hw1] at HW0 HB0 hsz HZ
  clear kb hc hw1
  go_enter Tryz.func152, Tryz.ntmps152
  go_wp2_with fail
  have HC0 : zAa (BsAt ((w1.alloc (Obj.cells #[Value.int IntKind.u8 0] 5)).alloc (Obj.cells #[Value.int IntKind.u8 0, Value.int IntKind.u8 255] 5)) w.heap.size 0 s.data.toList) := ⟨HW0.out.below (by simpa using zAb (zAb (Below.refl w1.heap.size w1) _) _)⟩
  have HC1 : zAa (BsAt ((w1.alloc (Obj.cells #[Value.int IntKind.u8 0] 5)).alloc (Obj.cells #[Value.int IntKind.u8 0, Value.int IntKind.u8 255] 5)) (w.heap.size + 1) 0 [0]) := ⟨by
    rw [← HZ.out]
    exact bsAt_blk (zAi (heap_alloc_new w1 _) _)⟩
  have HC2 : zAa (BsAt ((w1.alloc (Obj.cells #[Value.int IntKind.u8 0] 5)).alloc (Obj.cells #[Value.int IntKind.u8 0, Value.int IntKind.u8 255] 5)) (w.heap.size + 1 + 1) 0 [0, 255]) := ⟨by
    have h := bsAt_blk (bs := [0, 255]) (heap_alloc_new (w1.alloc (Obj.cells #[Value.int IntKind.u8 0] 5)) (.cells #[.int .u8 0, .int .u8 255] 5))
    rwa [World.size_alloc, HZ.out] at h⟩
  have HB2 : zAa (Below w.heap.size w ((w1.alloc (Obj.cells #[Value.int IntKind.u8 0] 5)).alloc (Obj.cells #[Value.int IntKind.u8 0, Value.int IntKind.u8 255] 5))) := ⟨zAb (zAb HB0.out _) _⟩
  have HZ2 : zAa (w.heap.size ≤ ((w1.alloc (Obj.cells #[Value.int IntKind.u8 0] 5)).alloc (Obj.cells #[Value.int IntKind.u8 0, Value.int IntKind.u8 255] 5)).heap.size) := ⟨HB2.out.size⟩
  generalize ((w1.alloc (Obj.cells #[Value.int IntKind.u8 0] 5)).alloc (Obj.cells #[Value.int IntKind.u8 0, Value.int IntKind.u8 255] 5)) = w2 at HC0 HC1 HC2 HB2 HZ2 ⊢
  clear hsz kb1
  refine (replaceAll_any w.heap.size s.size c (w.heap.size + 1) (w.heap.size + 1 + 1) s.data.toList w2 (zDc s) hcge (by omega) HC0.out HC1.out HC2.out).mono ?_
  rintro e w3 ⟨v, rfl, hr, hb⟩
  have HR := zAa.mk (Kd.zCj hr HZ2.out)
  have HB3 := zAa.mk (HB2.out.trans (hb.mono HZ2.out))
  have HL : zAa ((nums (rep s.data.toList)).length ≤ 2000) := ⟨by
    rw [nums_length, rep_length]
    have h1 : s.data.toList.count 0 ≤ s.data.toList.length := List.count_le_length
    rw [zDc] at h1 ⊢
    omega⟩
  clear hr hb
  obtain ⟨A, c1, e1⟩ := Kd.zAk HR.out
  subst e1
  go_wp2_with (at_builtin; refine Kd.zDf kB (w0 := w) w.heap.size rfl (.tmp 7) (.tmp 8) 47 5 (.int .u8 0) 1 rfl Tryz.underlying47 info5 rfl (by decide) (by omega) (.slice A (nums (rep s.data.toList)).length c1) (nums (rep s.data.toList)) (nums [0, 1]) (some ⟨w3.heap.size, 0, none⟩) 2 2 (fun _ => True) (fun _ => False) rfl rfl (Kd.zEb HR.out _) (C_bsAt (w := w3.alloc (.cells #[.int .u8 0, .int .u8 1] 5)) (bs := [0, 1]) ?c1 (by simp)) (fun x cs h => h) (fun _ hk => hk.elim) (fun _ _ => trivial) (zAb HB3.out _) ?c2 ?c3 ?_; (case c1 => exact bsAt_blk (heap_alloc_new w3 _)); (case c2 => (have := HB3.out.size; simp; omega)); (case c3 => (have := HL.out; omega)); intro v1 w4 ho4 hb4 _ _)
  have HO4 : zAa (Kd.R kB 5 w4 w.heap.size (fun _ => True) v1 (nums (escL s))) := ⟨by unfold escL; rw [nums_append]; exact ho4⟩
  have HB4 := zAa.mk hb4
  clear ho4 hb4
  obtain ⟨A4, c4, e4⟩ := Kd.zAk HO4.out
  subst e4
  go_wp2_with fail
  go_ret
  exact ⟨_, rfl, HO4.out, HB4.out⟩
end Go.Proofs.YtpckachmleonlaaGreatDoor.Cp
end
section
set_option linter.unusedVariables false
set_option linter.unusedSimpArgs false
namespace Go.Proofs.YtpckachmleonlaaGreatDoor.Cp
open Go.RowKit Go.Proofs.YtpckachmleonlaaGreatDoorW.PrintWords
set_option maxHeartbeats 1000000 in
set_option maxRecDepth 100000 in
theorem grow_nil (n : Nat) (w : World) (hn : n ≤ 1000000) :
    Calls Tryz.prog 156 #[.slice none 0 0, .int .i64 n] w fun e w' => ∃ v, e = .returned v ∧ Kd.R kB 5 w' w.heap.size (fun _ => True) v [] ∧ Below w.heap.size w w' := by
  rcases Nat.eq_zero_or_pos n with h0 | h0
  · subst h0
    go_enter Tryz.func156, Tryz.ntmps156
    go_wp2_with fail
    go_ret
    exact ⟨_, rfl, Kd.R_nil _ _ _ _ _, Below.refl _ _⟩
  · have h1 : (0 : Int) < (n : Int) := by omega
    have hto : ((n : Int)).toNat = n := by omega
    go_enter Tryz.func156, Tryz.ntmps156
    go_wp2_with (at_builtin; refine Kd.R_append_zeros kB (w0 := w) w.heap.size rfl (.tmp 20) (.tmp 21) 47 3 5 (.int .u8 0) 1 rfl Tryz.underlying47 Tryz.underlying3 info5 rfl (by decide) (by omega) (.slice none 0 0) [] 0 (n : Int) (fun _ => True) rfl rfl rfl (fun _ _ => trivial) (Kd.R_nil _ _ _ _ _) (by omega) (Below.refl _ _) (Nat.le_refl _) (by simp; omega) ?_; intro v1 w2 ho hb _ _; have HO := zAa.mk ho; have HB := zAa.mk hb; clear ho hb; obtain ⟨A, c1, e1⟩ := Kd.zAk HO.out; subst e1)
    go_ret
    exact ⟨_, rfl, Kd.R_take (m := 0) HO.out (by omega), HB.out⟩
def rd_L (xs : List (List Int)) (i : Nat) : List Int := xs.getD i []
def flt (l : List (List Int)) (i : Nat) : List Int := (l.take i).flatten
theorem flt_le (l : List (List Int)) (i : Nat) : (flt l i).length ≤ l.flatten.length := by
  unfold flt
  conv => rhs; rw [← List.take_append_drop i l, List.flatten_append]
  simp
theorem flt_succ {l : List (List Int)} {i : Nat} (h : i < l.length) : flt l (i + 1) = flt l i ++ rd_L l i := by
  unfold flt rd_L
  rw [List.take_succ_eq_append_getElem h, List.flatten_append, List.getD_eq_getElem?_getD, List.getElem?_eq_getElem h]
  simp
theorem rowAt {w : World} {A : Option Addr} {n : Nat} {xs : List (List Int)} (h : Kd.C (Kd.slice 5 kB) w A n xs) (i : Nat) (h1 : i < n) : ∃ ad A0 c0, A = some ad ∧ ad.block < w.heap.size ∧ w.cell? (ad.add i) = some (.slice A0 (rd_L xs i).length c0) ∧ (rd_L xs i).length ≤ c0 ∧ kB.C w A0 (rd_L xs i).length (rd_L xs i) := by
  obtain ⟨ad, c, e, _, hK, hc0⟩ := Kd.C_get h ([] : List Int) (i : Int) (by omega) (by omega)
  have hc : ∀ j u, c[j]? = some u → w.cell? (ad.add (i * 1 + j)) = some u := hc0
  obtain ⟨A0, c0, rfl, l0, g0⟩ := hK
  have hq := hc 0 _ rfl
  rw [Nat.mul_one, Nat.add_zero] at hq
  refine ⟨ad, A0, c0, e, ?_, hq, l0, g0⟩
  have := World.block_lt_of_cell? w _ hq
  unfold Addr.add at this
  split at this <;> exact this
set_option maxHeartbeats 1000000 in
set_option maxRecDepth 100000 in
theorem concat_any (A : Option Addr) (c : Nat) (l : List (List Int)) (w : World) (hr : Kd.C (Kd.slice 5 kB) w A l.length l) (hl : l.length ≤ 1000) (ht : l.flatten.length ≤ 1000000) :
    Calls Tryz.prog 139 #[.slice A l.length c] w fun e w' => ∃ v, e = .returned v ∧ Kd.R kB 5 w' w.heap.size (fun _ => True) v l.flatten ∧ Below w.heap.size w w' := by
  have HR := zAa.mk hr
  obtain ⟨n, hn⟩ : ∃ n, l.length = n := ⟨_, rfl⟩
  have HN := zAa.mk hn
  obtain ⟨m, hm⟩ : ∃ m, l.flatten.length = m := ⟨_, rfl⟩
  have HM := zAa.mk hm
  rw [hn] at hl HR ⊢
  rw [hm] at ht
  clear hr hn hm
  go_enter Tryz.func139, Tryz.ntmps139
  go_wp2_with fail
  go_loop [3, 11] (fun vs vi => ∃ i s : Nat, i ≤ n ∧ s ≤ m ∧ vi = .int .i64 i ∧ vs = .int .i64 s ∧ zAa ((flt l i).length = s)) (fun _ vi => n - (intOf vi).toNat)
  case atStart => exact ⟨0, 0, by omega, by omega, rfl, rfl, ⟨rfl⟩⟩
  case round =>
    obtain ⟨i, s, hi, hs, rfl, rfl, HS⟩ := hrel
    by_cases hlt : i < n
    · obtain ⟨ad, A0, c0, rfl, hb, h1, h2, h3⟩ := rowAt HR.out i hlt
      have h4 : (i : Int) < n := by omega
      have hle : s + (rd_L l i).length ≤ m := by
        have h5 := flt_le l (i + 1)
        rw [flt_succ (by rw [HN.out]; exact hlt), HM.out, List.length_append, HS.out] at h5
        exact h5
      have h6 : ¬ ((s : Int) + ((rd_L l i).length : Int) < 0) := by omega
      have h7 : decide ((s : Int) + ((rd_L l i).length : Int) < 0) = false := df h6
      clear h3
      go_wp2_with fail
      go_round
      case rel => exact ⟨i + 1, s + (rd_L l i).length, by omega, by omega, by go_num, by go_num, ⟨by rw [flt_succ (by rw [HN.out]; exact hlt), List.length_append, HS.out]⟩⟩
      case measure => simp [intOf]; omega
    · obtain rfl : i = n := by omega
      have hsm : s = m := by rw [← HS.out, ← HM.out]; unfold flt; rw [List.take_of_length_le (by rw [HN.out]; exact Nat.le_refl _)]
      subst hsm
      go_wp2_with fail
      refine (grow_nil s w (by omega)).mono ?_
      rintro e w1 ⟨v, rfl, hr, hb⟩
      have HG := zAa.mk hr
      have HB := zAa.mk hb
      clear hr hb
      obtain ⟨A1, c1, e1⟩ := Kd.zAk HG.out
      subst e1
      go_wp2_with fail
      go_loopw [6, 27] (fun vv vj w' => ∃ j : Nat, j ≤ i ∧ vj = .int .i64 j ∧ zAa (Kd.R kB 5 w' w.heap.size (fun _ => True) vv (flt l j)) ∧ zAa (Below w.heap.size w w')) (fun _ vj _ => i - (intOf vj).toNat)
      case atStart => exact ⟨0, by omega, rfl, HG, HB⟩
      case round =>
        obtain ⟨j, hj, rfl, HV, HW⟩ := hrel
        by_cases hjl : j < i
        · obtain ⟨ad, A0, c0, rfl, hb, h1, h2, h3⟩ := rowAt (Kd.zBb HR.out HW.out) j hjl
          have h4 : (j : Int) < i := by omega
          have HC := zAa.mk h3
          have HL : zAa ((flt l j).length + (rd_L l j).length ≤ 1000000) := ⟨by
            have h5 := flt_le l (j + 1)
            rw [flt_succ (by rw [HN.out]; exact hjl), HM.out, List.length_append] at h5
            omega⟩
          clear h3
          obtain ⟨A2, c2, e2⟩ := Kd.zAk HV.out
          subst e2
          go_wp2_with (at_builtin; refine Kd.zDf kB (w0 := w) w.heap.size rfl (.tmp 31) (.tmp 32) 47 5 (.int .u8 0) 1 rfl Tryz.underlying47 info5 rfl (by decide) (by omega) (.slice A2 (flt l j).length c2) (flt l j) (rd_L l j) A0 (rd_L l j).length c0 (fun _ => True) (fun _ => False) rfl rfl HV.out HC.out (fun x cs h => h) (fun _ hk => hk.elim) (fun _ _ => trivial) HW.out HW.out.size (by have := HL.out; omega) ?_; intro v1 w2 ho hb _ _)
          rw [← flt_succ (by rw [HN.out]; exact hjl)] at ho
          have HO := zAa.mk ho
          have HB2 := zAa.mk hb
          clear ho hb
          go_roundw
          case rel => exact ⟨j + 1, by omega, by go_num, HO, HB2⟩
          case measure => simp [intOf]; omega
        · obtain rfl : j = i := by omega
          have HF : zAa (flt l j = l.flatten) := ⟨by unfold flt; rw [List.take_of_length_le (by rw [HN.out]; exact Nat.le_refl _)]⟩
          go_wp2_with fail
          go_ret
          exact ⟨_, rfl, HF.out ▸ HV.out, HW.out⟩
end Go.Proofs.YtpckachmleonlaaGreatDoor.Cp
end
section
set_option linter.unusedVariables false
set_option linter.unusedSimpArgs false
namespace Go.Proofs.YtpckachmleonlaaGreatDoor.Cp
open Go.RowKit Go.Proofs.YtpckachmleonlaaGreatDoorW.PrintWords
structure PutAt (w0 w : World) (gb gt : Nat) (v : Value) (l : List Int) (x : Int) : Prop where
  hb : w.heap[gb]? = some (.cells #[v] 47 (0, 0))
  ht : w.heap[gt]? = some (.cells #[.int .u64 x] 44 (0, 0))
  hr : Kd.R kB 5 w w0.heap.size (fun _ => True) v l
  below : Below w0.heap.size w0 w
  lb : w0.heap.size ≤ gb
  lt : w0.heap.size ≤ gt
  len : l.length ≤ 100000
theorem PutAt.step {w0 w w1 : World} {gb gt : Nat} {v v1 : Value} {l : List Int} {x y : Int} (h : PutAt w0 w gb gt v l x) (h1 : Kd.R kB 5 w1 w0.heap.size (fun _ => True) v1 (l ++ [y])) (hb : Below w0.heap.size w0 w1) (hg : w.grownBy w1 v.ownBlock) (hn : l.length < 100000) :
    PutAt w0 (w1.setCell ⟨gb, 0, none⟩ v1) gb gt v1 (l ++ [y]) x := by
  have n1 : some gb ≠ v.ownBlock := Kd.R_ne h.hr h.hb (by decide)
  have n2 : some gt ≠ v.ownBlock := Kd.R_ne h.hr h.ht (by decide)
  have b1 := zEc h.hb hg n1
  have b2 := zEc h.ht hg n2
  have hne : gt ≠ gb := blk_ne h.ht h.hb (by decide)
  refine ⟨one_setCell b1, zDj b2 hne v1, Kd.R_set h1 b1 (by decide) 0 v1, hb.setCell h.lb v1, h.lb, h.lt, by simp; omega⟩
set_option maxHeartbeats 1000000 in
set_option maxRecDepth 100000 in
theorem put_any (at_ x : Int) (gb gt : Nat) (v : Value) (l : List Int) (w0 w : World) (h0 : 0 ≤ at_) (h1 : at_ ≤ 56) (hx : 0 ≤ x) (hp : PutAt w0 w gb gt v l x) (hn : l.length < 100000) :
    Calls Tryz.prog 155 #[.int .i64 at_, .pointer (some ⟨gb, 0, none⟩), .pointer (some ⟨gt, 0, none⟩)] w fun e w' => ∃ v1, e = .returned (.tuple #[]) ∧ PutAt w0 w' gb gt v1 (l ++ [x / 2 ^ at_.toNat % 256]) x := by
  have c0 := cell_of_one hp.hb
  have c1 := cell_of_one hp.ht
  have f0 := free_of_one hp.hb
  obtain ⟨A, c, e0⟩ := Kd.zAk hp.hr
  subst e0
  have HP := zAa.mk hp
  obtain ⟨n, hnn⟩ : ∃ n, l.length = n := ⟨_, rfl⟩
  have HN := zAa.mk hnn
  rw [hnn] at c0 hn
  have HP' : zAa (PutAt w0 w gb gt (.slice A n c) l x) := ⟨by rw [← hnn]; exact hp⟩
  clear hp HP hnn
  go_enter Tryz.func155, Tryz.ntmps155
  go_wp2_with (at_builtin; refine Kd.zEf kB (w0 := w0) w0.heap.size rfl (.tmp 4) (.tmp 10) 47 5 (.int .u8 0) 1 rfl Tryz.underlying47 info5 rfl (by decide) (by omega) (.slice A n c) l (x / 2 ^ at_.toNat % 256) _ (fun _ => True) (fun _ => False) rfl rfl rfl (fun _ hk => hk.elim) (fun _ _ => trivial) HP'.out.hr HP'.out.below HP'.out.below.size (by have := HN.out; omega) ?_; intro v1 w1 ho hb hg hat; have HS := zAa.mk (HP'.out.step ho hb hg (by have := HN.out; omega)); have hbl := zEc HP'.out.hb hg (Kd.R_ne HP'.out.hr HP'.out.hb (by decide)); have d0 := cell_of_one hbl; have d1 := free_of_one hbl; clear hbl hat hg hb; obtain ⟨A1, c1, e1⟩ := Kd.zAk ho; subst e1; clear ho; rw [List.length_append, List.length_singleton] at HS)
  go_end0
  exact ⟨_, rfl, HS.out⟩
end Go.Proofs.YtpckachmleonlaaGreatDoor.Cp
end
section
set_option linter.unusedVariables false
set_option linter.unusedSimpArgs false
namespace Go.Proofs.YtpckachmleonlaaGreatDoor.Cp
open Go.RowKit Go.Proofs.YtpckachmleonlaaGreatDoorW.PrintWords Go.Proofs.YtpckachmleonlaaGreatDoorW.PrintMore
attribute [local go_sem] max2_int max_two max_three
def okB (r f q : ByteArray) : Bool := decide (1 ≤ r.size ∧ 1 ≤ f.size ∧ r.size ≤ 32 ∧ f.size ≤ 32 ∧ q.size ≤ 32)
def rightI (a b c : ByteArray) : Int := if okB a b c then 0 else 5
theorem toList_size (a : ByteArray) : a.toList.length = a.size := by
  rw [ByteArray.toList_eq]
  exact zDc a
theorem size_pos {a : ByteArray} (h : a.toList.isEmpty = false) : 1 ≤ a.size := by
  rw [← toList_size]
  cases hl : a.toList with
  | nil => rw [hl] at h; cases h
  | cons x l => simp
theorem size_zero {a : ByteArray} (h : a.toList.isEmpty = true) : a.size = 0 := by
  rw [← toList_size, List.isEmpty_iff.1 h]
  rfl
theorem ret_i {a b : Int} (h : a = b) : Ending.returned (.int .i64 a) = .returned (.int .i64 b) := by rw [h]
def mx2 (x y : Nat) : Nat := if x < y then y else x
theorem mx2_eq (x y : Nat) : (if x < y then (y : Int) else (x : Int)) = ((mx2 x y : Nat) : Int) := by
  unfold mx2
  split <;> rfl
theorem mx2_le (x y m : Nat) : mx2 x y ≤ m ↔ x ≤ m ∧ y ≤ m := by
  unfold mx2
  split <;> omega
set_option maxHeartbeats 1000000 in
set_option maxRecDepth 100000 in
theorem right_any (a b c : ByteArray) (t : Int) (w : World) :
    Calls Tryz.prog 74 #[.agg #[.string a, .string b, .string c, .int .u64 t]] w fun e w' => e = .returned (.int .i64 (rightI a b c)) ∧ Below w.heap.size w w' := by
  rcases Bool.eq_false_or_eq_true a.toList.isEmpty with h1 | h1
  · have HF : zAa (okB a b c = false) := ⟨by unfold okB; have := size_zero h1; exact df (by omega)⟩
    go_enter Tryz.func74, Tryz.ntmps74
    go_wp2_with fail
    go_ret
    exact ⟨ret_i (by unfold rightI; rw [HF.out]; rfl), (Below.refl _ _).alloc (Nat.le_refl _) _⟩
  · rcases Bool.eq_false_or_eq_true b.toList.isEmpty with h2 | h2
    · have HF : zAa (okB a b c = false) := ⟨by unfold okB; have := size_zero h2; exact df (by omega)⟩
      go_enter Tryz.func74, Tryz.ntmps74
      go_wp2_with fail
      go_ret
      exact ⟨ret_i (by unfold rightI; rw [HF.out]; rfl), (Below.refl _ _).alloc (Nat.le_refl _) _⟩
    · have m1 := mx2_eq a.size b.size
      have m2 := mx2_eq (mx2 a.size b.size) c.size
      have HM := zAa.mk (mx2_le (mx2 a.size b.size) c.size 32)
      have HM1 := zAa.mk (mx2_le a.size b.size 32)
      generalize mx2 a.size b.size = p at m1 m2 HM HM1
      generalize mx2 p c.size = q at m2 HM
      rcases Nat.lt_or_ge 32 q with h3 | h3
      · have d1 : decide ((32 : Int) < (q : Int)) = true := dt (by omega)
        have d2 : decide (32 < q) = true := dt h3
        have HF : zAa (okB a b c = false) := ⟨by unfold okB; have h4 := HM.out; have h5 := HM1.out; exact df (by omega)⟩
        clear h3
        go_enter Tryz.func74, Tryz.ntmps74
        go_wp2_with fail
        go_ret
        exact ⟨ret_i (by unfold rightI; rw [HF.out]; rfl), (Below.refl _ _).alloc (Nat.le_refl _) _⟩
      · have d1 : decide ((32 : Int) < (q : Int)) = false := df (by omega)
        have d2 : decide (32 < q) = false := df (by omega)
        have HF : zAa (okB a b c = true) := ⟨by unfold okB; have h4 := HM.out; have h5 := HM1.out; have h6 := size_pos h1; have h7 := size_pos h2; exact dt (by omega)⟩
        clear h3
        go_enter Tryz.func74, Tryz.ntmps74
        go_wp2_with fail
        go_ret
        exact ⟨ret_i (by unfold rightI; rw [HF.out]; rfl), (Below.refl _ _).alloc (Nat.le_refl _) _⟩
end Go.Proofs.YtpckachmleonlaaGreatDoor.Cp
end
section
set_option linter.unusedVariables false
set_option linter.unusedSimpArgs false
namespace Go.Proofs.YtpckachmleonlaaGreatDoor.Cp
open Go.RowKit Go.Proofs.YtpckachmleonlaaGreatDoorW.PrintWords
theorem okB_sizes {a b c : ByteArray} (h : okB a b c = true) : a.size ≤ 1000 ∧ b.size ≤ 1000 ∧ c.size ≤ 1000 := by
  have := of_decide_eq_true h
  omega
theorem rightI_ok {a b c : ByteArray} (h : okB a b c = true) : rightI a b c = 0 := by unfold rightI; rw [h]; rfl
theorem rightI_bad {a b c : ByteArray} (h : okB a b c = false) : rightI a b c = 5 := by unfold rightI; rw [h]; rfl
theorem bl_to {X W w2 : World} (hw : Below X.heap.size X W) (hb : Below W.heap.size W w2) : Below X.heap.size X w2 := hw.trans (hb.mono hw.size)
theorem bl_lower {X W w2 : World} {B : Nat} {v : Value} {l : List Int} (hw : Below X.heap.size X W) (hr : Kd.R kB 5 w2 W.heap.size (fun _ => True) v l) (hX : B ≤ X.heap.size) : Kd.R kB 5 w2 B (fun _ => True) v l := Kd.zCj hr (Nat.le_trans hX hw.size)
theorem bcell {W w1 : World} (hb : Below W.heap.size W w1) : (∀ b o, b < W.heap.size → w1.cell? ⟨b, o, none⟩ = W.cell? ⟨b, o, none⟩) ∧ (∀ b o, b < W.heap.size → w1.frozen? ⟨b, o, none⟩ = W.frozen? ⟨b, o, none⟩) :=
  ⟨fun b o h => hb.cell (p := ⟨b, o, none⟩) h, fun b o h => hb.frozen (p := ⟨b, o, none⟩) h⟩
theorem escL_length (s : ByteArray) (h : s.size ≤ 1000) : (nums (escL s)).length ≤ 2002 := by
  rw [nums_length]
  unfold escL
  rw [List.length_append, rep_length]
  have h1 : s.data.toList.count 0 ≤ s.data.toList.length := List.count_le_length
  rw [zDc] at h1 ⊢
  simp only [List.length_cons, List.length_nil]
  omega
theorem C_rows3 {w : World} {b : Nat} {A1 A2 A3 : Option Addr} {c1 c2 c3 : Nat} {l1 l2 l3 : List Int} (hb : w.heap[b]? = some (.cells #[.slice A1 l1.length c1, .slice A2 l2.length c2, .slice A3 l3.length c3] 47 (0, 0)))
    (h1 : l1.length ≤ c1) (h2 : l2.length ≤ c2) (h3 : l3.length ≤ c3) (k1 : kB.C w A1 l1.length l1) (k2 : kB.C w A2 l2.length l2) (k3 : kB.C w A3 l3.length l3) : Kd.C (Kd.slice 5 kB) w (some ⟨b, 0, none⟩) [l1, l2, l3].length [l1, l2, l3] := by
  refine ⟨rfl, by simp, fun _ => ⟨_, rfl, fun j p hj => ?_⟩⟩
  have hj3 : j < 3 := (List.getElem?_eq_some_iff.1 hj).1
  have hc : ∀ v, (#[Value.slice A1 l1.length c1, Value.slice A2 l2.length c2, Value.slice A3 l3.length c3] : Array Value)[j]? = some v → ∀ i u, [v][i]? = some u → w.cell? ((⟨b, 0, none⟩ : Addr).add (j * 1 + i)) = some u := by
    intro v hv i u hu
    have hi : i = 0 := by
      have := (List.getElem?_eq_some_iff.1 hu).1
      simpa using this
    subst hi
    simp only [List.getElem?_cons_zero, Option.some.injEq] at hu
    subst hu
    rw [add_plain, zAc hb]
    simpa using hv
  rcases (by omega : j = 0 ∨ j = 1 ∨ j = 2) with rfl | rfl | rfl
  · obtain rfl := Option.some.inj hj
    exact ⟨[.slice A1 l1.length c1], rfl, ⟨A1, c1, rfl, h1, k1⟩, hc _ rfl⟩
  · obtain rfl := Option.some.inj hj
    exact ⟨[.slice A2 l2.length c2], rfl, ⟨A2, c2, rfl, h2, k2⟩, hc _ rfl⟩
  · obtain rfl := Option.some.inj hj
    exact ⟨[.slice A3 l3.length c3], rfl, ⟨A3, c3, rfl, h3, k3⟩, hc _ rfl⟩
theorem R_cap {w : World} {e base : Nat} {ok : Nat → Prop} {A : Option Addr} {n c : Nat} {l : List Int} (h : Kd.R kB e w base ok (.slice A n c) l) : l.length ≤ c ∧ kB.C w A l.length l := by
  obtain ⟨A', c', he, h1, h2⟩ := Kd.zGa h
  injection he with e1 e2 e3
  subst e1 e3
  exact ⟨h1, h2⟩
def keyL (r f q : ByteArray) : List Int := nums (escL r) ++ nums (escL f) ++ nums (escL q)
theorem zFi (w : World) (a b : Obj) : ((w.alloc a).alloc b).heap[w.heap.size + 1]? = some b := by
  have := heap_alloc_new (w.alloc a) b
  rwa [World.size_alloc] at this
def timeX (t : Int) : Int := IntKind.u64.wrap (18446744073709551615 - t)
theorem u64_nonneg (t : Int) : 0 ≤ IntKind.u64.wrap t := by
  unfold IntKind.wrap
  simp only []
  exact Int.emod_nonneg _ (by decide)
def timeL (x : Int) (j : Nat) : List Int := (List.range j).map fun i => x / 2 ^ (56 - 8 * i) % 256
theorem timeL_length (x : Int) (j : Nat) : (timeL x j).length = j := by simp [timeL]
theorem timeL_succ (x : Int) (j : Nat) : timeL x (j + 1) = timeL x j ++ [x / 2 ^ (56 - 8 * j) % 256] := by simp [timeL, List.range_succ]
theorem keepS {g : Nat} {r f q : ByteArray} {t : Int} {w w1 : World} (h : w.heap[g]? = some (.cells #[.string r, .string f, .string q, .int .u64 t] 46 (0, 0))) (hb : Below w.heap.size w w1) : w1.cell? ⟨g, 0, none⟩ = some (.string r) ∧ w1.cell? ⟨g, 1, none⟩ = some (.string f) ∧ w1.cell? ⟨g, 2, none⟩ = some (.string q) := by
  have h1 := zAf h hb
  exact ⟨(zAc h1 0).trans rfl, (zAc h1 1).trans rfl, (zAc h1 2).trans rfl⟩
set_option maxHeartbeats 4000000 in
set_option maxRecDepth 100000 in
theorem bytes_ok (r f q : ByteArray) (t : Int) (w : World) (h : okB r f q = true) :
    Calls Tryz.prog 138 #[.agg #[.string r, .string f, .string q, .int .u64 t]] w fun e w' => ∃ v0_ : Value, e = .returned (.tuple #[v0_, .int .i64 0]) ∧ Kd.R kB 5 w' w.heap.size (fun _ => True) v0_ (keyL r f q ++ timeL (timeX t) 8) ∧ Below w.heap.size w w' := by
  obtain ⟨s1, s2, s3⟩ := okB_sizes h
  have HR0 := zAa.mk (rightI_ok h)
  clear h
  go_enter Tryz.func138, Tryz.ntmps138
  go_wp2_with fail
  refine (right_any r f q t _).mono ?_
  rintro e w1 ⟨rfl, hb⟩
  rw [HR0.out]
  have HX : zAa (w1.heap[w.heap.size]? = some (.cells #[.string r, .string f, .string q, .int .u64 t] 46 (0, 0))) := ⟨zAf (heap_alloc_new w _) hb⟩
  have HB : zAa (Below w.heap.size w w1) := ⟨((Below.refl _ _).alloc (Nat.le_refl _) _).trans (hb.mono (by simp))⟩
  have HZ : zAa (w.heap.size + 1 ≤ w1.heap.size) := ⟨by have := hb.size; simpa using this⟩
  obtain ⟨g, hg⟩ : ∃ g, w.heap.size = g := ⟨_, rfl⟩
  have HG := zAa.mk hg
  rw [hg] at HX ⊢
  clear hb hg
  have c0 : w1.cell? ⟨g, 0, none⟩ = some (.string r) := (zAc HX.out 0).trans rfl
  have c1 : w1.cell? ⟨g, 1, none⟩ = some (.string f) := (zAc HX.out 1).trans rfl
  have c2 : w1.cell? ⟨g, 2, none⟩ = some (.string q) := (zAc HX.out 2).trans rfl
  have c3 : w1.cell? ⟨g, 3, none⟩ = some (.int .u64 t) := (zAc HX.out 3).trans rfl
  have hlt := zAj HX.out
  go_upto_region 4 with fail
  go_cut [5] (fun v5 wx => ∃ gb : Nat, ∃ v : Value, v5 = .pointer (some ⟨gb, 0, none⟩) ∧ zAa (wx.heap[gb]? = some (.cells #[v] 47 (0, 0)) ∧ wx.heap[g]? = some (.cells #[.string r, .string f, .string q, .int .u64 t] 46 (0, 0)) ∧ Below w.heap.size w wx ∧ Kd.R kB 5 wx w.heap.size (fun _ => True) v (keyL r f q) ∧ w.heap.size ≤ gb))
  case first =>
   go_region_held3 (fun w' => w'.cell? ⟨g, 0, none⟩ = some (.string r) ∧ w'.cell? ⟨g, 1, none⟩ = some (.string f) ∧ w'.cell? ⟨g, 2, none⟩ = some (.string q))
    (first | go_keep | exact keepS HY4.out (zAb (Below.refl _ _) _) | exact keepS (zDj HY4.out (by (try simp); omega) _) (Below.refl _ _) | exact HK4.out | exact HK3.out | exact HK2.out | exact HK1.out)
    (first
      | (go_at_call_of 152 (Value.string r); refine (escaped_any r _ s1).mono ?_; rintro e W1 ⟨v1, rfl, hr, hb⟩; have hb2 := bl_to (X := w1) (by repeat (first | exact Below.refl _ _ | refine zAg ?_ | refine zAe ?_ _ | refine zAb ?_ _)) hb; have HK1 := zAa.mk (keepS HX.out hb2); have HY1 := zAa.mk (zAf HX.out hb2); have HB1 := zAa.mk (HB.out.trans (hb2.mono HB.out.size)); have HR1 := zAa.mk (bl_lower (X := w1) (B := w.heap.size) (by repeat (first | exact Below.refl _ _ | refine zAg ?_ | refine zAe ?_ _ | refine zAb ?_ _)) hr HB.out.size); have HL1 := zAa.mk hb; obtain ⟨hc1, hf1⟩ := bcell hb; have hz1 := hb.size; (try simp at hz1); (try have q01 := (show w1.heap.size < W1.heap.size by omega)); (try have p01 := (show w1.heap.size + 1 < W1.heap.size by omega)); clear hb hb2 hr; obtain ⟨A1, n1, e1⟩ := Kd.zAk HR1.out; subst e1)
      | (go_at_call_of 152 (Value.string f); (refine (escaped_any f _ s2).mono ?_; rintro e W2 ⟨v2, rfl, hr, hb⟩; have hb2 := bl_to (X := W1) (by repeat (first | exact Below.refl _ _ | refine zAg ?_ | refine zAe ?_ _ | refine zAb ?_ _)) hb; have HK2 := zAa.mk (keepS HY1.out hb2); have HY2 := zAa.mk (zAf HY1.out hb2); have HB2 := zAa.mk (HB1.out.trans (hb2.mono HB1.out.size)); have HR2 := zAa.mk (bl_lower (X := W1) (B := w.heap.size) (by repeat (first | exact Below.refl _ _ | refine zAg ?_ | refine zAe ?_ _ | refine zAb ?_ _)) hr HB1.out.size); have HR1' := zAa.mk (Kd.zFa HR1.out hb2); clear HR1; have HR1 := HR1'; clear HR1'; have HL2 := zAa.mk hb; obtain ⟨hc2, hf2⟩ := bcell hb; have hz2 := hb.size; (try simp at hz2); (try have q02 := (show w1.heap.size < W2.heap.size by omega)); (try have p02 := (show w1.heap.size + 1 < W2.heap.size by omega)); (try have q12 := (show W1.heap.size < W2.heap.size by omega)); (try have p12 := (show W1.heap.size + 1 < W2.heap.size by omega)); clear hb hb2 hr; obtain ⟨A2, n2, e2⟩ := Kd.zAk HR2.out; subst e2))
      | (go_at_call_of 152 (Value.string q); refine (escaped_any q _ s3).mono ?_; rintro e W3 ⟨v3, rfl, hr, hb⟩; have hb2 := bl_to (X := W2) (by repeat (first | exact Below.refl _ _ | refine zAg ?_ | refine zAe ?_ _ | refine zAb ?_ _)) hb; have HK3 := zAa.mk (keepS HY2.out hb2); have HY3 := zAa.mk (zAf HY2.out hb2); have HB3 := zAa.mk (HB2.out.trans (hb2.mono HB2.out.size)); have HR3 := zAa.mk (bl_lower (X := W2) (B := w.heap.size) (by repeat (first | exact Below.refl _ _ | refine zAg ?_ | refine zAe ?_ _ | refine zAb ?_ _)) hr HB2.out.size); have HR1' := zAa.mk (Kd.zFa HR1.out hb2); clear HR1; have HR1 := HR1'; clear HR1'; have HR2' := zAa.mk (Kd.zFa HR2.out hb2); clear HR2; have HR2 := HR2'; clear HR2'; have HL3 := zAa.mk hb; obtain ⟨hc3, hf3⟩ := bcell hb; have hz3 := hb.size; (try simp at hz3); (try have q03 := (show w1.heap.size < W3.heap.size by omega)); (try have p03 := (show w1.heap.size + 1 < W3.heap.size by omega)); (try have q13 := (show W1.heap.size < W3.heap.size by omega)); (try have p13 := (show W1.heap.size + 1 < W3.heap.size by omega)); (try have q23 := (show W2.heap.size < W3.heap.size by omega)); (try have p23 := (show W2.heap.size + 1 < W3.heap.size by omega)); clear hb hb2 hr; obtain ⟨A3, n3, e3⟩ := Kd.zAk HR3.out; subst e3)
      | (go_at_call 139; refine (concat_any _ _ [nums (escL r), nums (escL f), nums (escL q)] _ (C_rows3 (A1 := A1) (A2 := A2) (A3 := A3) (c1 := n1) (c2 := n2) (c3 := n3) (by first | exact heap_alloc_new _ _ | exact zAi (heap_alloc_new _ _) _ | (have h9 := heap_alloc_new (W3.alloc (.cells #[.slice none 0 0] 47)) (.cells #[.slice A1 (nums (escL r)).length n1, .slice A2 (nums (escL f)).length n2, .slice A3 (nums (escL q)).length n3] 47); rwa [World.size_alloc] at h9)) (R_cap HR1.out).1 (R_cap HR2.out).1 (R_cap HR3.out).1 (Kd.zBb (R_cap HR1.out).2 (by repeat (first | exact Below.refl _ _ | refine zAg ?_ | refine zAe ?_ _ | refine zAb ?_ _))) (Kd.zBb (R_cap HR2.out).2 (by repeat (first | exact Below.refl _ _ | refine zAg ?_ | refine zAe ?_ _ | refine zAb ?_ _))) (Kd.zBb (R_cap HR3.out).2 (by repeat (first | exact Below.refl _ _ | refine zAg ?_ | refine zAe ?_ _ | refine zAb ?_ _)))) (by simp) ?_).mono ?_; (have := escL_length r s1; have := escL_length f s2; have := escL_length q s3; simp; omega); rintro e W4 ⟨v4, rfl, hr, hb⟩; have hb2 := bl_to (X := W3) (by repeat (first | exact Below.refl _ _ | refine zAg ?_ | refine zAe ?_ _ | refine zAb ?_ _)) hb; have HY4 := zAa.mk (zAf HY3.out hb2); have HK4 := zAa.mk (keepS HY3.out hb2); have HB4 := zAa.mk (HB3.out.trans (hb2.mono HB3.out.size)); have HR4 : zAa (Kd.R kB 5 W4 w.heap.size (fun _ => True) v4 (keyL r f q)) := ⟨by unfold keyL; have h9 := bl_lower (X := W3) (B := w.heap.size) (by repeat (first | exact Below.refl _ _ | refine zAg ?_ | refine zAe ?_ _ | refine zAb ?_ _)) hr HB3.out.size; simpa [List.append_assoc] using h9⟩; have HL4 := zAa.mk hb; obtain ⟨hc4, hf4⟩ := bcell hb; have hz4 := hb.size; (try simp at hz4); (try have q04 := (show w1.heap.size < W4.heap.size by omega)); (try have p04 := (show w1.heap.size + 1 < W4.heap.size by omega)); (try have q14 := (show W1.heap.size < W4.heap.size by omega)); (try have p14 := (show W1.heap.size + 1 < W4.heap.size by omega)); (try have q24 := (show W2.heap.size < W4.heap.size by omega)); (try have p24 := (show W2.heap.size + 1 < W4.heap.size by omega)); (try have q34 := (show W3.heap.size < W4.heap.size by omega)); (try have p34 := (show W3.heap.size + 1 < W4.heap.size by omega)); clear hr hb hb2; obtain ⟨A4, n4, e4⟩ := Kd.zAk HR4.out; subst e4))
   all_goals (
    go_wp2_with fail
    go_meet
    refine ⟨_, _, rfl, ⟨(by first | exact heap_alloc_new _ _ | exact one_setCell (zAf (zAi (heap_alloc_new _ _) _) HL4.out) | exact one_setCell (zAf (zAi (zAf (heap_alloc_new _ _) HL3.out) _) HL4.out) | exact one_setCell (zAf (zAi (zAf (zAf (heap_alloc_new _ _) HL2.out) HL3.out) _) HL4.out) | exact one_setCell (zAf (zAi (zAf (zAf (zAf (heap_alloc_new _ _) HL1.out) HL2.out) HL3.out) _) HL4.out) | exact one_setCell (zAf (zAi (zAf (zAf (zAf (heap_alloc_new w1 (.cells #[.slice none 0 0] 47)) HL1.out) HL2.out) HL3.out) _) HL4.out) | exact one_setCell (zAf (zAi (zAf (zAf (zAf (heap_alloc_new w1.drew (.cells #[.slice none 0 0] 47)) HL1.out) HL2.out) HL3.out) _) HL4.out) | exact one_setCell (zAf (zFi _ _ _) HL4.out)), ?_, ?_, ?_, ?_⟩⟩
    · first | exact zAi HY4.out _ | exact zDj HY4.out (by (try simp); omega) _
    · first | exact HB4.out.alloc HB4.out.size _ | exact HB4.out.setCell (by (try simp); (have := HB.out.size; omega)) _
    · first | exact Kd.zEb HR4.out _ | exact Kd.R_set HR4.out (by first | exact (zAf (zAi (heap_alloc_new _ _) _) HL4.out) | exact (zAf (zAi (zAf (heap_alloc_new _ _) HL3.out) _) HL4.out) | exact (zAf (zAi (zAf (zAf (heap_alloc_new _ _) HL2.out) HL3.out) _) HL4.out) | exact (zAf (zAi (zAf (zAf (zAf (heap_alloc_new _ _) HL1.out) HL2.out) HL3.out) _) HL4.out) | exact (zAf (zAi (zAf (zAf (zAf (heap_alloc_new w1 (.cells #[.slice none 0 0] 47)) HL1.out) HL2.out) HL3.out) _) HL4.out) | exact (zAf (zAi (zAf (zAf (zAf (heap_alloc_new w1.drew (.cells #[.slice none 0 0] 47)) HL1.out) HL2.out) HL3.out) _) HL4.out) | exact (zAf (zFi _ _ _) HL4.out)) (by decide) 0 _
    · have := HB.out.size; have := HB4.out.size; (try simp); omega)
  case rest =>
    obtain ⟨gb, v, rfl, HC⟩ := hcut
    have d3 : wc.cell? ⟨g, 3, none⟩ = some (.int .u64 t) := (zAc HC.out.2.1 3).trans rfl
    clear c0 c1 c2 c3
    go_wp2_with fail
    obtain ⟨x, hx⟩ : ∃ x, IntKind.u64.wrap (18446744073709551615 - t) = x := ⟨_, rfl⟩
    rw [hx]
    have hx0 : 0 ≤ x := by rw [← hx]; exact u64_nonneg _
    have HXX : zAa (timeX t = x) := ⟨hx⟩
    clear hx
    have HP : zAa (PutAt w (wc.alloc (Obj.cells #[.int .u64 x] 44)) gb wc.heap.size v (keyL r f q) x) := ⟨⟨zAi HC.out.1 _, heap_alloc_new wc _, Kd.zEb HC.out.2.2.2.1 _, HC.out.2.2.1.alloc HC.out.2.2.1.size _, HC.out.2.2.2.2, HC.out.2.2.1.size, by
      unfold keyL
      have := escL_length r s1
      have := escL_length f s2
      have := escL_length q s3
      simp only [List.length_append]
      omega⟩⟩
    have HN : zAa ((keyL r f q).length ≤ 10000) := ⟨by
      unfold keyL
      have := escL_length r s1
      have := escL_length f s2
      have := escL_length q s3
      simp only [List.length_append]
      omega⟩
    generalize wc.alloc (Obj.cells #[.int .u64 x] 44) = w5 at HP ⊢
    generalize wc.heap.size = gt at HP ⊢
    clear d3
    go_loopw [8] (fun v8 w' => ∃ (j : Nat) (a : Int) (v : Value), j ≤ 8 ∧ a = 56 - 8 * (j : Int) ∧ v8 = .int .i64 a ∧ zAa (PutAt w w' gb gt v (keyL r f q ++ timeL x j) x)) (fun v8 _ => (intOf v8 + 8).toNat)
    case atStart => exact ⟨0, 56, v, by omega, by omega, rfl, by unfold timeL; simpa using HP⟩
    case round =>
      obtain ⟨j, a, v6, hj, ha, rfl, HQ⟩ := hrel
      have HA := zAa.mk ha
      by_cases hlt : j < 8
      · have h1 : 0 ≤ a := by omega
        have h2 : a ≤ 56 := by omega
        clear ha
        go_wp2_with fail
        refine (put_any a x gb gt v6 _ w _ h1 h2 hx0 HQ.out (by have := HN.out; rw [List.length_append, timeL_length]; omega)).mono ?_
        rintro e w6 ⟨v7, rfl, hp⟩
        have HP7 := zAa.mk hp
        clear hp
        go_wp2_with fail
        go_roundw
        case rel => exact ⟨j + 1, a - 8, v7, by omega, by have := HA.out; omega, by go_num, ⟨by rw [timeL_succ, ← List.append_assoc, show 56 - 8 * j = a.toNat by have := HA.out; omega]; exact HP7.out⟩⟩
        case measure => simp [intOf]; omega
      · obtain rfl : j = 8 := by omega
        have h1 : a < 0 := by omega
        have e0 := cell_of_one HQ.out.hb
        obtain ⟨A9, n9, e9⟩ := Kd.zAk HQ.out.hr
        subst e9
        clear ha
        go_wp2_with fail
        go_ret2
        exact ⟨_, rfl, by rw [HXX.out]; have h9 := HQ.out.hr; rw [List.length_append] at h9; exact h9, HQ.out.below⟩
end Go.Proofs.YtpckachmleonlaaGreatDoor.Cp
end
