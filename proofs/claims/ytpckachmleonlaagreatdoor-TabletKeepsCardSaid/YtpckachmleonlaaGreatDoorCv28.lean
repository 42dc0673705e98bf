/- Words and walks for Split and Tablet: texts of these sessions, and of the kit's print, cut down to what is used (U2 V2). -/
import Derived.Test.YtpckachmleonlaaGreatDoorCv26
import Derived.Test.YtpckachmleonlaaGreatDoorCv27
section
set_option linter.unusedVariables false
set_option linter.unusedSimpArgs false
namespace Go.Proofs.YtpckachmleonlaaGreatDoor
open Go.RowKit Go.Proofs.YtpckachmleonlaaGreatDoorW.PrintWords
structure OkC (x : CellM) : Prop where
 k : Cp.okB x.f0.f0 x.f0.f1 x.f0.f2 = true
 t0 : 0 ≤ x.f0.f3
 t1 : x.f0.f3 < 18446744073709551616
 v : x.f1.length ≤ 256
 g : x.f2 = true → x.f1 = []
def keyUO (x : CellM) : List UInt8 := Cp.keyU x.f0.f0 x.f0.f1 x.f0.f2 x.f0.f3
theorem keyOf_nums {x : CellM} (h : OkC x) : keyOf x = Cp.nums (keyUO x) := Cp.keyU_nums h.t0 h.t1
theorem u8s_nums (l : List UInt8) : u8s (Cp.nums l) = l := by
 unfold u8s Cp.nums
 rw [List.map_map]
 conv => rhs; rw [← List.map_id l]
 apply List.map_congr_left
 intro a _
 simp
theorem isB_nums (l : List UInt8) : IsB (Cp.nums l) := fun x hx => by
 obtain ⟨b, _, rfl⟩ := List.mem_map.1 hx
 have := b.toNat_lt
 exact ⟨by omega, by omega⟩
theorem key_isB {x : CellM} (h : OkC x) : IsB (keyOf x) := by rw [keyOf_nums h]; exact isB_nums _
theorem escL_len2 (s : ByteArray) (h : s.size ≤ 32) : 2 ≤ (Cp.escL s).length ∧ (Cp.escL s).length ≤ 66 := by
 unfold Cp.escL
 rw [List.length_append, Cp.rep_length]
 have h1 : s.data.toList.length = s.size := by simp
 have h2 : s.data.toList.count 0 ≤ s.data.toList.length := List.count_le_length
 rw [List.length_cons, List.length_cons, List.length_nil]
 omega
theorem key_len {x : CellM} (h : OkC x) : 14 ≤ (keyOf x).length ∧ (keyOf x).length ≤ 206 := by
 have hk := of_decide_eq_true h.k
 have h1 := escL_len2 x.f0.f0 (by omega)
 have h2 := escL_len2 x.f0.f1 (by omega)
 have h3 := escL_len2 x.f0.f2 (by omega)
 unfold keyOf Cp.keyL
 simp only [List.length_append, Cp.nums_length, Cp.timeL_length]
 omega
theorem val_len {x : CellM} (h : OkC x) : (valOf x).length ≤ 257 := by
 have := h.v
 unfold valOf
 split
 ·simp
 ·simp; omega
theorem cb_cmpL : ∀ a b : List UInt8, Lib.compareBytes a b = Cp.cmpL a b
 | [], [] => rfl
 | [], _ :: _ => rfl
 | _ :: _, [] => rfl
 | x :: a, y :: b => by
  unfold Lib.compareBytes Cp.cmpL
  by_cases h : x = y
  ·subst h
   simp [cb_cmpL a b]
  ·by_cases h2 : x < y
   ·simp [h, h2]
   ·have h3 : y < x := by
     rcases UInt8.lt_or_lt_of_ne h with h4 | h4
     ·exact absurd h4 h2
     ·exact h4
    simp [h, h2, h3]
def cmpK (a b : PSplitCuts.S46) : Int := Cp.zGc a.f0 a.f1 a.f2 a.f3 b.f0 b.f1 b.f2 b.f3
theorem cmp_key {x y : CellM} (hx : OkC x) (hy : OkC y) : cmpI (keyOf x) (keyOf y) = cmpK x.f0 y.f0 := by
 unfold cmpI
 rw [keyOf_nums hx, keyOf_nums hy, u8s_nums, u8s_nums, cb_cmpL]
 exact Cp.keyU_cmp hx.t0 hx.t1 hy.t0 hy.t1
theorem key_inj {x y : CellM} (hx : OkC x) (hy : OkC y) (h : keyOf x = keyOf y) : x.f0 = y.f0 := by
 have h1 := cmp_key hx hy
 rw [h, cmpI_self] at h1
 obtain ⟨⟨e1, e2, e3⟩, e4⟩ := Cp.keyCmp_zero.1 h1.symm
 obtain ⟨⟨a, b, c, d⟩, _, _⟩ := x
 obtain ⟨⟨a', b', c', d'⟩, _, _⟩ := y
 simp only at e1 e2 e3 e4
 subst e1 e2 e3 e4
 rfl
def set6 (w : World) (g : Nat) (a b c d e f : Value) : World := (((((w.setCell ⟨g, 0, none⟩ a).setCell ⟨g, 1, none⟩ b).setCell ⟨g, 2, none⟩ c).setCell ⟨g, 3, none⟩ d).setCell ⟨g, 4, none⟩ e).setCell ⟨g, 5, none⟩ f
theorem set6_cells (w : World) (g : Nat) (a b c d e f : Value) : set6 w g a b c d e f = w.setCells g 0 [a, b, c, d, e, f] := rfl
theorem set6_blk {w : World} {g t : Nat} {a0 b0 c0 d0 e0 f0 : Value} (h : w.heap[g]? = some (.cells #[a0, b0, c0, d0, e0, f0] t (0, 0))) (a b c d e f : Value) : (set6 w g a b c d e f).heap[g]? = some (.cells #[a, b, c, d, e, f] t (0, 0)) := by
 rw [set6_cells]
 exact Cp.zCc (cur := [a0, b0, c0, d0, e0, f0]) (cs := [a, b, c, d, e, f]) h (by simp)
theorem set6_far {w : World} {g k : Nat} (hk : k ≠ g) (a b c d e f : Value) : (set6 w g a b c d e f).heap[k]? = w.heap[k]? := by
 rw [set6_cells]
 exact setCells_far' _ _ _ hk
theorem set6_below {B : Nat} {w0 w : World} {g : Nat} (hb : Below B w0 w) (hg : B ≤ g) (a b c d e f : Value) : Below B w0 (set6 w g a b c d e f) := by
 rw [set6_cells]
 exact Cp.zBk hb hg
theorem cells6 {w : World} {g t : Nat} {a0 b0 c0 d0 e0 f0 : Value} (h : w.heap[g]? = some (.cells #[a0, b0, c0, d0, e0, f0] t (0, 0))) (a b c d e f : Value) :
  let W := (((((w.setCell ⟨g, 0, none⟩ a).setCell ⟨g, 1, none⟩ b).setCell ⟨g, 2, none⟩ c).setCell ⟨g, 3, none⟩ d).setCell ⟨g, 4, none⟩ e).setCell ⟨g, 5, none⟩ f
  W.cell? ⟨g, 0, none⟩ = some a ∧ W.cell? ⟨g, 1, none⟩ = some b ∧ W.cell? ⟨g, 2, none⟩ = some c ∧ W.cell? ⟨g, 3, none⟩ = some d ∧ W.cell? ⟨g, 4, none⟩ = some e ∧ W.cell? ⟨g, 5, none⟩ = some f := by
 have h9 := set6_blk h a b c d e f
 exact ⟨zAc h9 0, zAc h9 1, zAc h9 2, zAc h9 3, zAc h9 4, zAc h9 5⟩
theorem far6 {w : World} {g k : Nat} (hk : k ≠ g) : ∀ (a b c d e f : Value) (i : Nat), ((((((w.setCell ⟨g, 0, none⟩ a).setCell ⟨g, 1, none⟩ b).setCell ⟨g, 2, none⟩ c).setCell ⟨g, 3, none⟩ d).setCell ⟨g, 4, none⟩ e).setCell ⟨g, 5, none⟩ f).cell? ⟨k, i, none⟩ = w.cell? ⟨k, i, none⟩ := fun a b c d e f i => by
 have h := set6_far (w := w) hk a b c d e f
 unfold set6 at h
 simp only [World.cell?, h]
theorem byte0 {w : World} {A : Option Addr} {y : Int} {l : List Int} (h : kB.C w A (y :: l).length (y :: l)) : ∃ ad, A = some ad ∧ w.cell? ad = some (.int .u8 y) := by
 obtain ⟨ad, c, e, _, hK, hc⟩ := Kd.C_get h 0 0 (by omega) (by simp)
 have hK' : c = [Value.int .u8 y] := hK
 subst hK'
 have h0 := hc 0 _ rfl
 refine ⟨ad, e, ?_⟩
 have e0 : ad.add 0 = ad := by cases ad; rename_i s; cases s <;> rfl
 rwa [show (0 : Int).toNat * Kd.sz (Kd.int .u8) + 0 = 0 from rfl, e0] at h0
set_option maxHeartbeats 4000000 in
set_option maxRecDepth 100000 in
theorem cell_any (x : CellM) (hx : OkC x) (A B : Option Addr) (a b : Nat) (w : World) (hk : BAt w ⟨A, (keyOf x).length, a⟩ (keyOf x)) (hv : BAt w ⟨B, (valOf x).length, b⟩ (valOf x)) :
  Calls Tryz.prog 96 #[.agg #[.slice A (keyOf x).length a, .slice B (valOf x).length b]] w fun e w' => ∃ V c, e = .returned (.tuple #[cellV x V c, .int .i64 0]) ∧ Kd.R kB 5 w' w.heap.size (fun _ => True) (.slice V x.f1.length c) x.f1 ∧ Below w.heap.size w w' := by
 have hkl := key_len hx
 have hvl := val_len hx
 have hrd := Cp.read_any A (keyOf x).length a (keyUO x) ((w.alloc (.cells #[.slice A (keyOf x).length a, .slice B (valOf x).length b] 129)).alloc (.cells #[.string ⟨#[]⟩, .string ⟨#[]⟩, .string ⟨#[]⟩, .int .u64 0, .slice none 0 0, .bool false] 49)) (by rw [keyOf_nums hx, Cp.nums_length]) hk.c (by omega) (by
  have := (hk.keep (zAb (zAb (Below.refl _ _) _) _) : BAt ((w.alloc (.cells #[.slice A (keyOf x).length a, .slice B (valOf x).length b] 129)).alloc (.cells #[.string ⟨#[]⟩, .string ⟨#[]⟩, .string ⟨#[]⟩, .int .u64 0, .slice none 0 0, .bool false] 49)) _ _).row
  rw [← keyOf_nums hx]
  exact this)
 rw [show Cp.readF (keyUO x) = some (x.f0.f0, x.f0.f1, x.f0.f2, x.f0.f3) from Cp.readF_key hx.t0 hx.t1 hx.k] at hrd
 have HX := zAa.mk hx
 have HV := zAa.mk hv
 obtain ⟨kl, hkl2⟩ : ∃ kl, (keyOf x).length = kl := ⟨_, rfl⟩
 obtain ⟨vl, hvl2⟩ : ∃ vl, (valOf x).length = vl := ⟨_, rfl⟩
 rw [hkl2, hvl2] at hrd
 rw [hvl2] at HV hvl
 rw [hkl2, hvl2]
 have HVL := zAa.mk hvl2
 have HR := zAa.mk hrd
 obtain ⟨⟨r, f, q, t⟩, val, gone⟩ := x
 unfold cellV
 simp only at HR ⊢
 clear hx hk hv hrd hkl hkl2 hvl2
 go_enter Tryz.func96, Tryz.ntmps96
 go_wp2_with fail
 have hb0 : Below w.heap.size w ((w.alloc (.cells #[.slice A kl a, .slice B vl b] 129)).alloc (.cells #[.string ⟨#[]⟩, .string ⟨#[]⟩, .string ⟨#[]⟩, .int .u64 0, .slice none 0 0, .bool false] 49)) := zAb (zAb (Below.refl _ _) _) _
 have b0 : ((w.alloc (.cells #[.slice A kl a, .slice B vl b] 129)).alloc (.cells #[.string ⟨#[]⟩, .string ⟨#[]⟩, .string ⟨#[]⟩, .int .u64 0, .slice none 0 0, .bool false] 49)).heap[w.heap.size]? = some (.cells #[.slice A kl a, .slice B vl b] 129 (0, 0)) := zAi (heap_alloc_new _ _) _
 have b1 : ((w.alloc (.cells #[.slice A kl a, .slice B vl b] 129)).alloc (.cells #[.string ⟨#[]⟩, .string ⟨#[]⟩, .string ⟨#[]⟩, .int .u64 0, .slice none 0 0, .bool false] 49)).heap[w.heap.size + 1]? = some (.cells #[.string ⟨#[]⟩, .string ⟨#[]⟩, .string ⟨#[]⟩, .int .u64 0, .slice none 0 0, .bool false] 49 (0, 0)) := Cp.zFi _ _ _
 refine HR.out.mono ?_
 rintro e w2 ⟨rfl, hb⟩
 have HB2 := zAa.mk (bl_to hb0 hb)
 have B0 := zAa.mk (zAi (zAf b0 hb) (.cells #[.string r, .string f, .string q, .int .u64 t] 46))
 have B1 := zAa.mk (zAi (zAf b1 hb) (.cells #[.string r, .string f, .string q, .int .u64 t] 46))
 have B2 := zAa.mk (heap_alloc_new w2 (.cells #[.string r, .string f, .string q, .int .u64 t] 46))
 obtain ⟨g, hg⟩ : ∃ g, w.heap.size = g := ⟨_, rfl⟩
 have HG := zAa.mk hg
 rw [hg] at B0 B1 ⊢
 clear hb hb0 b0 b1 hg HR
 go_upto_region 2 with fail
 have HB3 : zAa (Below w.heap.size w (w2.alloc (.cells #[.string r, .string f, .string q, .int .u64 t] 46))) := ⟨zAb HB2.out _⟩
 have HZ3 : zAa (g + 1 < w2.heap.size) := ⟨by
  have h9 := zAj B1.out
  have h8 := HB2.out.size
  have h7 := HG.out
  rcases Nat.lt_or_ge (g + 1) w2.heap.size with h6 | h6
  ·exact h6
  ·have h5 : g + 1 = w2.heap.size := by simp at h9; omega
   have h4 := B1.out
   rw [h5, B2.out] at h4
   injection h4 with h4
   injection h4 with h4
   have := congrArg Array.size h4
   simp at this⟩
 generalize w2.alloc (.cells #[.string r, .string f, .string q, .int .u64 t] 46) = w3 at B0 B1 B2 HB3 ⊢
 generalize w2.heap.size = K at B2 HZ3 ⊢
 clear HB2
 have hKg : g + 1 < K := HZ3.out
 have HV3 := zAa.mk (HV.out.keep HB3.out)
 have p1 := (zAc B0.out 1).trans (rfl : _ = some (Value.slice B vl b))
 have k0 := (zAc B2.out 0).trans (rfl : _ = some (Value.string r))
 have k1 := (zAc B2.out 1).trans (rfl : _ = some (Value.string f))
 have k2 := (zAc B2.out 2).trans (rfl : _ = some (Value.string q))
 have k3 := (zAc B2.out 3).trans (rfl : _ = some (Value.int .u64 t))
 have f0 : w3.frozen? ⟨g + 1, 0, none⟩ = false := zAd B1.out 0
 have f1 : w3.frozen? ⟨g + 1, 1, none⟩ = false := zAd B1.out 1
 have f2 : w3.frozen? ⟨g + 1, 2, none⟩ = false := zAd B1.out 2
 have f3 : w3.frozen? ⟨g + 1, 3, none⟩ = false := zAd B1.out 3
 have f4 : w3.frozen? ⟨g + 1, 4, none⟩ = false := zAd B1.out 4
 have f5 : w3.frozen? ⟨g + 1, 5, none⟩ = false := zAd B1.out 5
 have q0 := (zAc B1.out 0).trans (rfl : _ = some (Value.string ⟨#[]⟩))
 have q1 := (zAc B1.out 1).trans (rfl : _ = some (Value.string ⟨#[]⟩))
 have q2 := (zAc B1.out 2).trans (rfl : _ = some (Value.string ⟨#[]⟩))
 have q3 := (zAc B1.out 3).trans (rfl : _ = some (Value.int .u64 0))
 have q4 := (zAc B1.out 4).trans (rfl : _ = some (Value.slice none 0 0))
 have q5 := (zAc B1.out 5).trans (rfl : _ = some (Value.bool false))
 have l0 := zAj B0.out
 have l1 := zAj B1.out
 have l2 := zAj B2.out
 cases gone
 case true =>
  have hval : val = [] := HX.out.g rfl
  subst hval
  have e9 : valOf ⟨⟨r, f, q, t⟩, [], true⟩ = [1] := rfl
  rw [e9] at HV3 HVL HV
  obtain rfl : vl = 1 := HVL.out.symm
  obtain ⟨ad, rfl, hc⟩ := byte0 HV3.out.row
  have hb1 : 1 ≤ b := HV3.out.c
  go_wp2_with fail
  have y := cells6 B1.out (.string r) (.string f) (.string q) (.int .u64 t) (.slice none 0 0) (.bool true)
  obtain ⟨y0, y1, y2, y3, y4, y5⟩ := y
  refine bodyPost_ret (v := .tuple #[.agg #[.string r, .string f, .string q, .int .u64 t, .slice none 0 0, .bool true], .int .i64 0]) (by simp [results, Tryz.results96, go_sem, y0, y1, y2, y3, y4, y5]) rfl ?_
  refine ⟨none, 0, rfl, Kd.R_nil _ _ _ _ _, set6_below HB3.out (by rw [HG.out]; omega) _ _ _ _ _ _⟩
 case false =>
  have e9 : valOf ⟨⟨r, f, q, t⟩, val, false⟩ = 0 :: val := rfl
  rw [e9] at HV3 HVL HV
  obtain ⟨m, hm⟩ : ∃ m, val.length = m := ⟨_, rfl⟩
  have hvl3 : vl = m + 1 := by rw [← HVL.out, List.length_cons, hm]
  have HM := zAa.mk hm
  obtain ⟨ad, rfl, hc⟩ := byte0 (by have := HV3.out.row; exact this)
  have hb1 : m + 1 ≤ b := by have := HV3.out.c; rw [List.length_cons, hm] at this; exact this
  have HC := zAa.mk HV3.out.row
  clear HV3 HVL HV e9 hm
  subst hvl3
  have t1 : decide ((257 : Int) < ((m + 1 : Nat) : Int)) = false := df (by omega)
  have t0 : (((m + 1 : Nat) : Int) == 0) = false := ine (by omega)
  have n1 : ¬ ((257 : Int) < (m : Int) + 1) := by omega
  have n0 : ((m : Int) + 1 == 0) = false := ine (by omega)
  have HKEEP : zAa (∀ X, Below w3.heap.size w3 X → X.cell? ⟨K, 0, none⟩ = some (.string r) ∧ X.cell? ⟨K, 1, none⟩ = some (.string f) ∧ X.cell? ⟨K, 2, none⟩ = some (.string q) ∧ X.cell? ⟨K, 3, none⟩ = some (.int .u64 t) ∧ X.cell? ⟨g, 1, none⟩ = some (.slice (some ad) (m + 1 : Nat) b)) := ⟨fun X hX => ⟨(hX.cell l2).trans k0, (hX.cell l2).trans k1, (hX.cell l2).trans k2, (hX.cell l2).trans k3, (hX.cell l0).trans p1⟩⟩
  have HCL : zAa (∀ X A' c', Below w3.heap.size w3 X → kB.C w3 A' m val → m ≤ c' → Calls Tryz.prog 87 #[.slice A' m c'] X fun e w' => ∃ V c, e = .returned (.slice V m c) ∧ Kd.R kB 5 w' X.heap.size (fun _ => True) (.slice V m c) val ∧ Below X.heap.size X w') := ⟨fun X A' c' hX hC hc => by
   have h9 := cloneB_any A' c' val X (by rw [HM.out]; exact Kd.zBb hC hX) (by rw [HM.out]; exact hc) (by rw [HM.out]; omega)
   rw [HM.out] at h9
   refine h9.mono ?_
   rintro e w' ⟨v, rfl, hr, hb⟩
   obtain ⟨V, c, e1⟩ := Kd.zAk hr
   rw [HM.out] at e1
   exact ⟨V, c, by rw [e1], by rw [← e1]; exact hr, hb⟩⟩
  have HTL : zAa (kB.C w3 (if b = 1 then some ad else some (ad.add 1)) m val) := ⟨by
   have h9 := Kd.C_drop (m := 1) HC.out (by simp) (by rw [List.length_cons, HM.out]; exact hb1)
   rw [show List.drop 1 ((0 : Int) :: val) = val from rfl, HM.out] at h9
   exact h9⟩
  have hgk : K ≠ g + 1 := by omega
  have z1 : (1 : Int) ≤ (m : Int) + 1 := by omega
  have z2 : (m : Int) + 1 ≤ (b : Int) := by omega
  have z3 : (1 : Int) ≤ (b : Int) := by omega
  have z4 : m + 1 - 1 = m := by omega
  by_cases hbn : b = 1
  ·obtain rfl : m = 0 := by omega
   subst hbn
   clear hb1 z1 z2 z3 z4
   go_upto_region 11 with fail
   go_region_held3 (fun w' => w'.cell? ⟨K, 0, none⟩ = some (.string r) ∧ w'.cell? ⟨K, 1, none⟩ = some (.string f) ∧ w'.cell? ⟨K, 2, none⟩ = some (.string q) ∧ w'.cell? ⟨K, 3, none⟩ = some (.int .u64 t) ∧ w'.cell? ⟨g, 1, none⟩ = some (.slice (some ad) 1 1))
    (first | with_reducible exact HKP.out | with_reducible exact ⟨HKP5.out.1 _ _ _ _ _ _ 0 |>.trans HKP.out.1, HKP5.out.1 _ _ _ _ _ _ 1 |>.trans HKP.out.2.1, HKP5.out.1 _ _ _ _ _ _ 2 |>.trans HKP.out.2.2.1, HKP5.out.1 _ _ _ _ _ _ 3 |>.trans HKP.out.2.2.2.1, HKP5.out.2 _ _ _ _ _ _ 1 |>.trans HKP.out.2.2.2.2⟩ | exact ⟨k0, k1, k2, k3, p1⟩ | fail)
    ((go_at_call 87; refine (HCL.out _ (some ad) 0 (by repeat (first | exact Below.refl _ _ | refine zAg ?_ | refine zAe ?_ _ | refine zAb ?_ _)) (by have := HTL.out; rw [if_pos rfl] at this; exact this) (by omega)).mono ?_; rintro e W4 ⟨V, c, rfl, hr, hb⟩; have hb4 := bl_to (w2 := w3) (by repeat (first | exact Below.refl _ _ | refine zAg ?_ | refine zAe ?_ _ | refine zAb ?_ _)) hb; have HKP := zAa.mk (HKEEP.out _ hb4); have HR4 := zAa.mk (rl_to (w2 := w3) (by repeat (first | exact Below.refl _ _ | refine zAg ?_ | refine zAe ?_ _ | refine zAb ?_ _)) hr); have B14 := zAa.mk (zAf B1.out hb4); have HB4 := zAa.mk hb4; have HKP5 := zAa.mk (And.intro (far6 (w := W4) (k := K) (g := g + 1) (by omega)) (far6 (w := W4) (k := g) (g := g + 1) (by omega))); have f0' := zAd B14.out 0; have f1' := zAd B14.out 1; have f2' := zAd B14.out 2; have f3' := zAd B14.out 3; have f4' := zAd B14.out 4; have f5' := zAd B14.out 5; have q0' := (zAc B14.out 0).trans (rfl : _ = some (Value.string ⟨#[]⟩)); have q1' := (zAc B14.out 1).trans (rfl : _ = some (Value.string ⟨#[]⟩)); have q2' := (zAc B14.out 2).trans (rfl : _ = some (Value.string ⟨#[]⟩)); have q3' := (zAc B14.out 3).trans (rfl : _ = some (Value.int .u64 0)); have q4' := (zAc B14.out 4).trans (rfl : _ = some (Value.slice none 0 0)); have q5' := (zAc B14.out 5).trans (rfl : _ = some (Value.bool false)); clear hr hb hb4))
   go_wp2_with fail
   have HRF : zAa (Kd.R kB 5 (set6 W4 (g + 1) (.string r) (.string f) (.string q) (.int .u64 t) (.slice V 0 c) (.bool false)) w.heap.size (fun _ => True) (.slice V 0 c) val) := ⟨by
    have h9 := Kd.R_move (Kd.R_bound HR4.out) (w1 := set6 W4 (g + 1) (.string r) (.string f) (.string q) (.int .u64 t) (.slice V 0 c) (.bool false)) (fun k hk => set6_far (by have := hk.2.1; omega) _ _ _ _ _ _)
    exact Kd.zCj (Kd.R_mono h9 (fun _ _ => trivial)) HB3.out.size⟩
   obtain ⟨y0, y1, y2, y3, y4, y5⟩ := cells6 B14.out (.string r) (.string f) (.string q) (.int .u64 t) (.slice V 0 c) (.bool false)
   refine bodyPost_ret (v := .tuple #[.agg #[.string r, .string f, .string q, .int .u64 t, .slice V 0 c, .bool false], .int .i64 0]) (by simp [results, Tryz.results96, go_sem, y0, y1, y2, y3, y4, y5]) rfl ?_
   exact ⟨V, c, by rw [HM.out], by rw [HM.out]; exact HRF.out, set6_below (HB3.out.trans (HB4.out.mono HB3.out.size)) (by rw [HG.out]; omega) _ _ _ _ _ _⟩
  by_cases hm0 : m = 0
  ·have t2 : ((m : Int) + 1 == 1) = true := by rw [hm0]; rfl
   clear hm0
   go_upto_region 11 with fail
   go_region_held3 (fun w' => w'.cell? ⟨K, 0, none⟩ = some (.string r) ∧ w'.cell? ⟨K, 1, none⟩ = some (.string f) ∧ w'.cell? ⟨K, 2, none⟩ = some (.string q) ∧ w'.cell? ⟨K, 3, none⟩ = some (.int .u64 t) ∧ w'.cell? ⟨g, 1, none⟩ = some (.slice (some ad) (m + 1 : Nat) b))
    (first | with_reducible exact HKP.out | with_reducible exact ⟨HKP5.out.1 _ _ _ _ _ _ 0 |>.trans HKP.out.1, HKP5.out.1 _ _ _ _ _ _ 1 |>.trans HKP.out.2.1, HKP5.out.1 _ _ _ _ _ _ 2 |>.trans HKP.out.2.2.1, HKP5.out.1 _ _ _ _ _ _ 3 |>.trans HKP.out.2.2.2.1, HKP5.out.2 _ _ _ _ _ _ 1 |>.trans HKP.out.2.2.2.2⟩ | exact ⟨k0, k1, k2, k3, p1⟩ | fail)
    ((go_at_call 87; refine (HCL.out _ (some (ad.add 1)) (b - 1) (by repeat (first | exact Below.refl _ _ | refine zAg ?_ | refine zAe ?_ _ | refine zAb ?_ _)) (by have := HTL.out; rw [if_neg hbn] at this; exact this) (by omega)).mono ?_; rintro e W4 ⟨V, c, rfl, hr, hb⟩; have hb4 := bl_to (w2 := w3) (by repeat (first | exact Below.refl _ _ | refine zAg ?_ | refine zAe ?_ _ | refine zAb ?_ _)) hb; have HKP := zAa.mk (HKEEP.out _ hb4); have HR4 := zAa.mk (rl_to (w2 := w3) (by repeat (first | exact Below.refl _ _ | refine zAg ?_ | refine zAe ?_ _ | refine zAb ?_ _)) hr); have B14 := zAa.mk (zAf B1.out hb4); have HB4 := zAa.mk hb4; have HKP5 := zAa.mk (And.intro (far6 (w := W4) (k := K) (g := g + 1) (by omega)) (far6 (w := W4) (k := g) (g := g + 1) (by omega))); have f0' := zAd B14.out 0; have f1' := zAd B14.out 1; have f2' := zAd B14.out 2; have f3' := zAd B14.out 3; have f4' := zAd B14.out 4; have f5' := zAd B14.out 5; have q0' := (zAc B14.out 0).trans (rfl : _ = some (Value.string ⟨#[]⟩)); have q1' := (zAc B14.out 1).trans (rfl : _ = some (Value.string ⟨#[]⟩)); have q2' := (zAc B14.out 2).trans (rfl : _ = some (Value.string ⟨#[]⟩)); have q3' := (zAc B14.out 3).trans (rfl : _ = some (Value.int .u64 0)); have q4' := (zAc B14.out 4).trans (rfl : _ = some (Value.slice none 0 0)); have q5' := (zAc B14.out 5).trans (rfl : _ = some (Value.bool false)); clear hr hb hb4))
   go_wp2_with fail
   have HRF : zAa (Kd.R kB 5 (set6 W4 (g + 1) (.string r) (.string f) (.string q) (.int .u64 t) (.slice V m c) (.bool false)) w.heap.size (fun _ => True) (.slice V m c) val) := ⟨by
    have h9 := Kd.R_move (Kd.R_bound HR4.out) (w1 := set6 W4 (g + 1) (.string r) (.string f) (.string q) (.int .u64 t) (.slice V m c) (.bool false)) (fun k hk => set6_far (by have := hk.2.1; omega) _ _ _ _ _ _)
    exact Kd.zCj (Kd.R_mono h9 (fun _ _ => trivial)) HB3.out.size⟩
   obtain ⟨y0, y1, y2, y3, y4, y5⟩ := cells6 B14.out (.string r) (.string f) (.string q) (.int .u64 t) (.slice V m c) (.bool false)
   refine bodyPost_ret (v := .tuple #[.agg #[.string r, .string f, .string q, .int .u64 t, .slice V m c, .bool false], .int .i64 0]) (by simp [results, Tryz.results96, go_sem, y0, y1, y2, y3, y4, y5]) rfl ?_
   exact ⟨V, c, by rw [HM.out], by rw [HM.out]; exact HRF.out, set6_below (HB3.out.trans (HB4.out.mono HB3.out.size)) (by rw [HG.out]; omega) _ _ _ _ _ _⟩
  ·have t2 : ((m : Int) + 1 == 1) = false := ine (by omega)
   clear hm0
   go_upto_region 11 with fail
   go_region_held3 (fun w' => w'.cell? ⟨K, 0, none⟩ = some (.string r) ∧ w'.cell? ⟨K, 1, none⟩ = some (.string f) ∧ w'.cell? ⟨K, 2, none⟩ = some (.string q) ∧ w'.cell? ⟨K, 3, none⟩ = some (.int .u64 t) ∧ w'.cell? ⟨g, 1, none⟩ = some (.slice (some ad) (m + 1 : Nat) b))
    (first | with_reducible exact HKP.out | with_reducible exact ⟨HKP5.out.1 _ _ _ _ _ _ 0 |>.trans HKP.out.1, HKP5.out.1 _ _ _ _ _ _ 1 |>.trans HKP.out.2.1, HKP5.out.1 _ _ _ _ _ _ 2 |>.trans HKP.out.2.2.1, HKP5.out.1 _ _ _ _ _ _ 3 |>.trans HKP.out.2.2.2.1, HKP5.out.2 _ _ _ _ _ _ 1 |>.trans HKP.out.2.2.2.2⟩ | exact ⟨k0, k1, k2, k3, p1⟩ | fail)
    ((go_at_call 87; refine (HCL.out _ (some (ad.add 1)) (b - 1) (by repeat (first | exact Below.refl _ _ | refine zAg ?_ | refine zAe ?_ _ | refine zAb ?_ _)) (by have := HTL.out; rw [if_neg hbn] at this; exact this) (by omega)).mono ?_; rintro e W4 ⟨V, c, rfl, hr, hb⟩; have hb4 := bl_to (w2 := w3) (by repeat (first | exact Below.refl _ _ | refine zAg ?_ | refine zAe ?_ _ | refine zAb ?_ _)) hb; have HKP := zAa.mk (HKEEP.out _ hb4); have HR4 := zAa.mk (rl_to (w2 := w3) (by repeat (first | exact Below.refl _ _ | refine zAg ?_ | refine zAe ?_ _ | refine zAb ?_ _)) hr); have B14 := zAa.mk (zAf B1.out hb4); have HB4 := zAa.mk hb4; have HKP5 := zAa.mk (And.intro (far6 (w := W4) (k := K) (g := g + 1) (by omega)) (far6 (w := W4) (k := g) (g := g + 1) (by omega))); have f0' := zAd B14.out 0; have f1' := zAd B14.out 1; have f2' := zAd B14.out 2; have f3' := zAd B14.out 3; have f4' := zAd B14.out 4; have f5' := zAd B14.out 5; have q0' := (zAc B14.out 0).trans (rfl : _ = some (Value.string ⟨#[]⟩)); have q1' := (zAc B14.out 1).trans (rfl : _ = some (Value.string ⟨#[]⟩)); have q2' := (zAc B14.out 2).trans (rfl : _ = some (Value.string ⟨#[]⟩)); have q3' := (zAc B14.out 3).trans (rfl : _ = some (Value.int .u64 0)); have q4' := (zAc B14.out 4).trans (rfl : _ = some (Value.slice none 0 0)); have q5' := (zAc B14.out 5).trans (rfl : _ = some (Value.bool false)); clear hr hb hb4))
   go_wp2_with fail
   have HRF : zAa (Kd.R kB 5 (set6 W4 (g + 1) (.string r) (.string f) (.string q) (.int .u64 t) (.slice V m c) (.bool false)) w.heap.size (fun _ => True) (.slice V m c) val) := ⟨by
    have h9 := Kd.R_move (Kd.R_bound HR4.out) (w1 := set6 W4 (g + 1) (.string r) (.string f) (.string q) (.int .u64 t) (.slice V m c) (.bool false)) (fun k hk => set6_far (by have := hk.2.1; omega) _ _ _ _ _ _)
    exact Kd.zCj (Kd.R_mono h9 (fun _ _ => trivial)) HB3.out.size⟩
   obtain ⟨y0, y1, y2, y3, y4, y5⟩ := cells6 B14.out (.string r) (.string f) (.string q) (.int .u64 t) (.slice V m c) (.bool false)
   refine bodyPost_ret (v := .tuple #[.agg #[.string r, .string f, .string q, .int .u64 t, .slice V m c, .bool false], .int .i64 0]) (by simp [results, Tryz.results96, go_sem, y0, y1, y2, y3, y4, y5]) rfl ?_
   exact ⟨V, c, by rw [HM.out], by rw [HM.out]; exact HRF.out, set6_below (HB3.out.trans (HB4.out.mono HB3.out.size)) (by rw [HG.out]; omega) _ _ _ _ _ _⟩
end Go.Proofs.YtpckachmleonlaaGreatDoor
end
section
set_option linter.unusedVariables false
set_option linter.unusedSimpArgs false
namespace Go.Proofs.YtpckachmleonlaaGreatDoor
open Go.RowKit Go.Proofs.YtpckachmleonlaaGreatDoorW.PrintWords
abbrev KeyM := PSplitCuts.S46
deriving instance DecidableEq for PSplitCuts.S46
theorem cmpK_swap (a b : KeyM) : cmpK b a = - cmpK a b := Cp.keyCmp_swap _ _ _ _ _ _ _ _
theorem cmpK_zero {a b : KeyM} : cmpK a b = 0 ↔ a = b := by
  unfold cmpK
  rw [Cp.keyCmp_zero]
  obtain ⟨r, f, q, t⟩ := a
  obtain ⟨r', f', q', t'⟩ := b
  unfold Cp.sameCol
  simp only [PSplitCuts.S46.mk.injEq]
  constructor
  · rintro ⟨⟨h1, h2, h3⟩, h4⟩
    exact ⟨h1, h2, h3, h4⟩
  · rintro ⟨h1, h2, h3, h4⟩
    exact ⟨⟨h1, h2, h3⟩, h4⟩
theorem cmpK_irrefl (a : KeyM) : ¬ cmpK a a < 0 := by rw [cmpK_zero.2 rfl]; omega
theorem lt_key {x y : CellM} (hx : OkC x) (hy : OkC y) : ltI (keyOf x) (keyOf y) ↔ cmpK x.f0 y.f0 < 0 := by unfold ltI; rw [cmp_key hx hy]
theorem cmpK_trans {x y z : CellM} (hx : OkC x) (hy : OkC y) (hz : OkC z) (h : cmpK x.f0 y.f0 < 0) (k : cmpK y.f0 z.f0 < 0) : cmpK x.f0 z.f0 < 0 := (lt_key hx hz).1 (ltI_trans ((lt_key hx hy).2 h) ((lt_key hy hz).2 k))
def SortedC (cs : List CellM) : Prop := cs.Pairwise fun x y => cmpK x.f0 y.f0 < 0
structure OkL (cs : List CellM) : Prop where
  ok : ∀ x ∈ cs, OkC x
  so : SortedC cs
theorem OkL.nil : OkL [] := ⟨fun _ h => by simp at h, List.Pairwise.nil⟩
theorem OkL.sorted {cs : List CellM} (h : OkL cs) : Sorted (cs.map zDb) := by
  unfold Sorted
  rw [List.pairwise_map]
  refine List.Pairwise.imp_of_mem (fun {x y} hx hy hxy => ?_) h.so
  exact (lt_key (h.ok x hx) (h.ok y hy)).2 hxy
theorem OkL.itOk {cs : List CellM} (h : OkL cs) (hl : cs.length ≤ 100) : ItOk (cs.map zDb) := ⟨by simpa using hl, fun y hy => by
  obtain ⟨x, hx, rfl⟩ := List.mem_map.1 hy
  have h1 := key_len (h.ok x hx)
  have h2 := val_len (h.ok x hx)
  exact ⟨by change (keyOf x).length ≤ 256; omega, by change (valOf x).length ≤ 1100; omega, key_isB (h.ok x hx)⟩⟩
def putF (cs : List CellM) (x : CellM) : List CellM := (cs.filter fun y => decide (cmpK y.f0 x.f0 < 0)) ++ x :: cs.filter fun y => decide (cmpK x.f0 y.f0 < 0)
def delF (cs : List CellM) (k : KeyM) : List CellM := cs.filter fun y => decide (y.f0 ≠ k)
theorem mem_putF {cs : List CellM} {x y : CellM} : y ∈ putF cs x ↔ y = x ∨ (y ∈ cs ∧ y.f0 ≠ x.f0) := by
  unfold putF
  simp only [List.mem_append, List.mem_filter, List.mem_cons, decide_eq_true_eq]
  have h1 := cmpK_swap x.f0 y.f0
  have h2 := cmpK_zero (a := x.f0) (b := y.f0)
  constructor
  · rintro (⟨h, h3⟩ | h | ⟨h, h3⟩)
    · refine .inr ⟨h, fun e => ?_⟩
      rw [e] at h3
      exact cmpK_irrefl _ h3
    · exact .inl h
    · refine .inr ⟨h, fun e => ?_⟩
      rw [e] at h3
      exact cmpK_irrefl _ h3
  · rintro (h | ⟨h, h3⟩)
    · exact .inr (.inl h)
    · by_cases h4 : cmpK x.f0 y.f0 < 0
      · exact .inr (.inr ⟨h, h4⟩)
      · refine .inl ⟨h, ?_⟩
        have h5 : cmpK x.f0 y.f0 ≠ 0 := fun e => h3 (h2.1 e).symm
        omega
theorem OkL.put {cs : List CellM} {x : CellM} (h : OkL cs) (hx : OkC x) : OkL (putF cs x) := by
  refine ⟨fun y hy => ?_, ?_⟩
  · rcases mem_putF.1 hy with rfl | ⟨h1, _⟩
    · exact hx
    · exact h.ok y h1
  · unfold SortedC putF
    rw [List.pairwise_append, List.pairwise_cons]
    refine ⟨h.so.filter _, ⟨fun y hy => ?_, h.so.filter _⟩, fun y hy z hz => ?_⟩
    · simpa using (List.mem_filter.1 hy).2
    · have h1 : cmpK y.f0 x.f0 < 0 := by simpa using (List.mem_filter.1 hy).2
      rcases List.mem_cons.1 hz with rfl | hz
      · exact h1
      · have h2 : cmpK x.f0 z.f0 < 0 := by simpa using (List.mem_filter.1 hz).2
        exact cmpK_trans (h.ok y (List.mem_filter.1 hy).1) hx (h.ok z (List.mem_filter.1 hz).1) h1 h2
theorem OkL.filter {cs : List CellM} (h : OkL cs) (p : CellM → Bool) : OkL (cs.filter p) := ⟨fun x hx => h.ok x (List.mem_filter.1 hx).1, h.so.filter _⟩
theorem OkL.del {cs : List CellM} (h : OkL cs) (k : KeyM) : OkL (delF cs k) := h.filter _
theorem filt_all {l : List CellM} {p : CellM → Bool} (h : ∀ y ∈ l, p y = true) : l.filter p = l := List.filter_eq_self.2 h
theorem filt_none {l : List CellM} {p : CellM → Bool} (h : ∀ y ∈ l, p y = false) : l.filter p = [] := List.filter_eq_nil_iff.2 fun y hy => by rw [h y hy]; simp
theorem map_split {cs : List CellM} {la r : List It} (h : cs.map zDb = la ++ r) : ∃ ca cr, cs = ca ++ cr ∧ ca.map zDb = la ∧ cr.map zDb = r := List.map_eq_append_iff.1 h
theorem put_law {cs : List CellM} {x : CellM} (h : OkL cs) (hx : OkC x) {l' : List It} (hp : PutL (cs.map zDb) (keyOf x) (valOf x) l') : l' = (putF cs x).map zDb := by
  obtain ⟨la, mid, lb, h1, h2, h3, h4, rfl⟩ := hp
  obtain ⟨cm, cb, rfl, e1, rfl⟩ := map_split h1
  obtain ⟨ca, cm, rfl, rfl, rfl⟩ := map_split e1
  have hA : ∀ y ∈ ca, cmpK y.f0 x.f0 < 0 := fun y hy => (lt_key (h.ok y (by simp [hy])) hx).1 (h2 _ (List.mem_map_of_mem hy))
  have hB : ∀ y ∈ cb, cmpK x.f0 y.f0 < 0 := fun y hy => (lt_key hx (h.ok y (by simp [hy]))).1 (h3 _ (List.mem_map_of_mem hy))
  have hM : ∀ y ∈ cm, y.f0 = x.f0 := fun y hy => by
    rcases h4 with h4 | ⟨v0, h4⟩
    · rw [List.map_eq_nil_iff.1 h4] at hy
      simp at hy
    · have h5 : zDb y ∈ cm.map zDb := List.mem_map_of_mem hy
      rw [h4, List.mem_singleton] at h5
      exact key_inj (h.ok y (by simp [hy])) hx (congrArg Prod.fst h5)
  have hA' : ∀ y ∈ ca, ¬ cmpK x.f0 y.f0 < 0 := fun y hy => by have := hA y hy; have h6 := cmpK_swap x.f0 y.f0; omega
  have hB' : ∀ y ∈ cb, ¬ cmpK y.f0 x.f0 < 0 := fun y hy => by have := hB y hy; have h6 := cmpK_swap x.f0 y.f0; omega
  have hM1 : ∀ y ∈ cm, ¬ cmpK y.f0 x.f0 < 0 := fun y hy => by rw [hM y hy]; exact cmpK_irrefl _
  have hM2 : ∀ y ∈ cm, ¬ cmpK x.f0 y.f0 < 0 := fun y hy => by rw [hM y hy]; exact cmpK_irrefl _
  have f1 : (ca ++ cm ++ cb).filter (fun y => decide (cmpK y.f0 x.f0 < 0)) = ca := by
    rw [List.filter_append, List.filter_append, filt_all (l := ca) (fun y hy => decide_eq_true (hA y hy)), filt_none (l := cm) (fun y hy => decide_eq_false (hM1 y hy)), filt_none (l := cb) (fun y hy => decide_eq_false (hB' y hy))]
    simp
  have f2 : (ca ++ cm ++ cb).filter (fun y => decide (cmpK x.f0 y.f0 < 0)) = cb := by
    rw [List.filter_append, List.filter_append, filt_all (l := cb) (fun y hy => decide_eq_true (hB y hy)), filt_none (l := cm) (fun y hy => decide_eq_false (hM2 y hy)), filt_none (l := ca) (fun y hy => decide_eq_false (hA' y hy))]
    simp
  unfold putF
  rw [f1, f2, List.map_append, List.map_cons]
  rfl
theorem del_law {cs : List CellM} {x : CellM} (h : OkL cs) (hx : OkC x) {la lb : List It} {y : It} (h1 : cs.map zDb = la ++ y :: lb) (h2 : y.1 = keyOf x) : la ++ lb = (delF cs x.f0).map zDb := by
  obtain ⟨ca, cr, rfl, rfl, e2⟩ := map_split h1
  cases cr with
  | nil => cases e2
  | cons z cb =>
    rw [List.map_cons] at e2
    injection e2 with e3 e4
    subst e3 e4
    have hz : z.f0 = x.f0 := key_inj (h.ok z (by simp)) hx h2
    obtain ⟨s1, s2, s3⟩ := List.pairwise_append.1 h.so
    have s4 := (List.pairwise_cons.1 s2).1
    have g1 : ∀ y ∈ ca, y.f0 ≠ x.f0 := fun y hy e => by
      have := s3 y hy z (by simp)
      rw [e, ← hz] at this
      exact cmpK_irrefl _ this
    have g2 : ∀ y ∈ cb, y.f0 ≠ x.f0 := fun y hy e => by
      have := s4 y hy
      rw [e, ← hz] at this
      exact cmpK_irrefl _ this
    unfold delF
    rw [List.filter_append, List.filter_cons_of_neg (by simp [hz]), filt_all (l := ca) (fun y hy => decide_eq_true (g1 y hy)), filt_all (l := cb) (fun y hy => decide_eq_true (g2 y hy)), List.map_append]
theorem putF_len (cs : List CellM) (x : CellM) : (putF cs x).length ≤ cs.length + 1 := by
  unfold putF
  have h : ∀ l : List CellM, (l.filter fun y => decide (cmpK y.f0 x.f0 < 0)).length + (l.filter fun y => decide (cmpK x.f0 y.f0 < 0)).length ≤ l.length := fun l => by
    induction l with
    | nil => simp
    | cons y l ih =>
      have h1 := cmpK_swap x.f0 y.f0
      by_cases h2 : cmpK y.f0 x.f0 < 0
      · have h3 : ¬ cmpK x.f0 y.f0 < 0 := by omega
        simp [h2, h3]
        omega
      · by_cases h3 : cmpK x.f0 y.f0 < 0
        · simp [h2, h3]
          omega
        · simp [h2, h3]
          omega
  have := h cs
  simp
  omega
end Go.Proofs.YtpckachmleonlaaGreatDoor
end
