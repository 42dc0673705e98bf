/- Words and walks for Split and Tablet: texts of these sessions, and of the kit's print, cut down to what is used (L3 M3). -/
import Derived.Test.YtpckachmleonlaaGreatDoorCu29
section
set_option linter.unusedVariables false
set_option linter.unusedSimpArgs false
namespace Go.Proofs.YtpckachmleonlaaGreatDoor
open Go.RowKit Go.Proofs.YtpckachmleonlaaGreatDoorW.PrintWords Go.Proofs.YtpckachmleonlaaGreatDoorW.PrintMore Go.Proofs.YtpckachmleonlaaGreatDoorW.PrintLast
theorem eqA46 (d : Nat) (w : World) (x0 y0 : ByteArray) (x1 y1 : ByteArray) (x2 y2 : ByteArray) (x3 y3 : Int) :
  (Op.equalIn (d + 2) 46 (.agg #[.string x0, .string x1, .string x2, .int .u64 x3]) (.agg #[.string y0, .string y1, .string y2, .int .u64 y3])).run Tryz.prog w = .ok (x0.toList == y0.toList && (x1.toList == y1.toList && (x2.toList == y2.toList && (x3 == y3)))) w := by
 refine eqA_of Tryz.underlying46 (by kernel_rfl) ?_
 refine eqf_cons (by rfl) (by go_simp; rfl) (by go_simp; rfl) (by go_simp) ?_
 refine eqf_cons (by rfl) (by go_simp; rfl) (by go_simp; rfl) (by go_simp) ?_
 refine eqf_cons (by rfl) (by go_simp; rfl) (by go_simp; rfl) (by go_simp) ?_
 exact eqf_last (by rfl) (by go_simp; rfl) (by go_simp; rfl) (by go_simp)
def keyB (r f q : ByteArray) (t : Int) (r' f' q' : ByteArray) (t' : Int) : Bool := r.toList == r'.toList && (f.toList == f'.toList && (q.toList == q'.toList && (t == t')))
theorem eqK46 (d : Nat) (w : World) (x0 y0 : ByteArray) (x1 y1 : ByteArray) (x2 y2 : ByteArray) (x3 y3 : Int) :
  (Op.equalIn (d + 2) 46 (.agg #[.string x0, .string x1, .string x2, .int .u64 x3]) (.agg #[.string y0, .string y1, .string y2, .int .u64 y3])).run Tryz.prog w = .ok (keyB x0 x1 x2 x3 y0 y1 y2 y3) w := eqA46 d w x0 y0 x1 y1 x2 y2 x3 y3
theorem keyB_eq (a b : KeyM) : keyB a.f0 a.f1 a.f2 a.f3 b.f0 b.f1 b.f2 b.f3 = decide (a = b) := by
 obtain ⟨r, f, q, t⟩ := a
 obtain ⟨r', f', q', t'⟩ := b
 unfold keyB
 rw [Bool.eq_iff_iff]
 simp [ba_eq]
attribute [local go_sem high] eqK46
theorem drop_same {xs ys : List CellM} {k : Nat} (h : ∀ j : Nat, j < k → xs[j]? = ys[j]?) (hx : xs.length = k) (hy : ys.length = k) : xs = ys := by
 apply List.ext_getElem?
 intro i
 rcases Nat.lt_or_ge i k with h1 | h1
 ·exact h i h1
 ·rw [List.getElem?_eq_none (by omega), List.getElem?_eq_none (by omega)]
theorem two_a (w : World) (a b : Obj) : ((w.alloc a).alloc b).drew.heap[w.heap.size]? = some a := zAh (heap_alloc_new _ _) _
theorem two_b (w : World) (a b : Obj) : ((w.alloc a).alloc b).drew.heap[w.heap.size + 1]? = some b := Cp.blk_new2 _ _ _
theorem cell_eq {x y : CellM} (h1 : x.f0 = y.f0) (h2 : x.f2 = y.f2) (h3 : x.f1 = y.f1) : x = y := by
 obtain ⟨a, b, c⟩ := x
 obtain ⟨a', b', c'⟩ := y
 simp only at h1 h2 h3
 subst h1 h2 h3
 rfl
set_option maxHeartbeats 4000000 in
set_option maxRecDepth 100000 in
theorem results_any (e1 e2 : Int) (m1 m2 : Bool) (xs ys : List CellM) (A B : Option Addr) (c d : Nat) (w : World) (hx : kC.C w A xs.length xs) (hy : kC.C w B ys.length ys) (hl : xs.length ≤ 1000) (hl2 : ys.length ≤ 1000) (hv : ∀ x ∈ xs, x.f1.length ≤ 10000) :
  Calls Tryz.prog 29 #[.agg #[.int .i64 e1, .slice A xs.length c, .bool m1], .agg #[.int .i64 e2, .slice B ys.length d, .bool m2]] w fun e w' => ∃ b, e = .returned (.bool b) ∧ (b = true ↔ (e1 = e2 ∧ m1 = m2 ∧ xs = ys)) ∧ Below w.heap.size w w' := by
 by_cases he : e1 = e2
 case neg =>
  have h1 : (e1 == e2) = false := by simpa using he
  have h1' : (e1 != e2) = true := by simpa using he
  have HE := zA.mk he
  obtain ⟨n, hn⟩ : ∃ n, xs.length = n := ⟨_, rfl⟩
  obtain ⟨m, hm⟩ : ∃ m, ys.length = m := ⟨_, rfl⟩
  rw [hn, hm]
  clear hx hy hl hl2 hv hn hm he
  go_enter Tryz.func29, Tryz.ntmps29
  go_wp2_with fail
  go_ret
  exact ⟨false, rfl, by simp [HE.out], zAa (zAa (Below.refl _ _) _) _⟩
 subst he
 by_cases hm : m1 = m2
 case neg =>
  have h2 : (m1 == m2) = false := by simpa using hm
  have HE := zA.mk hm
  obtain ⟨n, hn⟩ : ∃ n, xs.length = n := ⟨_, rfl⟩
  obtain ⟨m, hm⟩ : ∃ m, ys.length = m := ⟨_, rfl⟩
  rw [hn, hm]
  clear hx hy hl hl2 hv hn hm
  cases m1 <;> cases m2 <;> first | (exact absurd rfl HE.out) | skip
  all_goals (
   clear h2
   go_enter Tryz.func29, Tryz.ntmps29
   go_wp2_with fail
   go_ret
   exact ⟨false, rfl, by simp, zAa (zAa (Below.refl _ _) _) _⟩)
 subst hm
 by_cases hn : xs.length = ys.length
 case neg =>
  have HE : zA (xs ≠ ys) := ⟨fun e => hn (by rw [e])⟩
  have h3 : ((xs.length : Int) == (ys.length : Int)) = false := by rw [beq_eq_false_iff_ne]; omega
  have h4 : ((xs.length : Int) != (ys.length : Int)) = true := by rw [bne_iff_ne]; omega
  obtain ⟨n, hn'⟩ : ∃ n, xs.length = n := ⟨_, rfl⟩
  obtain ⟨m, hm⟩ : ∃ m, ys.length = m := ⟨_, rfl⟩
  rw [hn', hm] at h3 h4 ⊢
  clear hx hy hl hl2 hv hn hn' hm
  cases m1
  all_goals (
   go_enter Tryz.func29, Tryz.ntmps29
   go_wp2_with fail
   go_ret
   exact ⟨false, rfl, by simp [HE.out], zAa (zAa (Below.refl _ _) _) _⟩)
 have HX := zA.mk hx
 have HY : zA (kC.C w B xs.length ys) := ⟨by rw [hn]; exact hy⟩
 have HV := zA.mk (And.intro hv hl)
 rw [← hn]
 obtain ⟨n, hn'⟩ : ∃ n, xs.length = n := ⟨_, rfl⟩
 have HN : zA (xs.length = n ∧ ys.length = n) := ⟨hn', hn ▸ hn'⟩
 rw [hn'] at HX HY hl ⊢
 clear hx hy hv hn hn' hl2
 have HB1 : zA (Below w.heap.size w ((w.alloc (.cells #[.int .i64 e1, .slice A n c, .bool m1] 59)).alloc (.cells #[.int .i64 e1, .slice B n d, .bool m1] 59))) := ⟨zAa (zAa (Below.refl _ _) _) _⟩
 have HA1 : zA (((w.alloc (.cells #[.int .i64 e1, .slice A n c, .bool m1] 59)).alloc (.cells #[.int .i64 e1, .slice B n d, .bool m1] 59)).heap[w.heap.size]? = some (.cells #[.int .i64 e1, .slice A n c, .bool m1] 59 (0, 0))) := ⟨zAh (heap_alloc_new _ _) _⟩
 have HG1 : zA (((w.alloc (.cells #[.int .i64 e1, .slice A n c, .bool m1] 59)).alloc (.cells #[.int .i64 e1, .slice B n d, .bool m1] 59)).heap[w.heap.size + 1]? = some (.cells #[.int .i64 e1, .slice B n d, .bool m1] 59 (0, 0))) := ⟨Cp.blk_new2 _ _ _⟩
 have hmm : (m1 != m1) = false := by cases m1 <;> rfl
 go_enter Tryz.func29, Tryz.ntmps29
 go_upto_region 4 with fail
 revert HB1 HA1 HG1
 generalize (w.alloc _).alloc _ = w1
 intro HB1 HA1 HG1
 go_loopg [5, 6, 7] n (fun gg v5 v6 v7 wr => ∃ k : Nat, k ≤ n ∧ n - k ≤ gg ∧ v5 = .int .i64 k ∧ zA (Below w.heap.size w wr) ∧ zA (wr.heap[w.heap.size]? = some (.cells #[.int .i64 e1, .slice A n c, .bool m1] 59 (0, 0))) ∧ zA (wr.heap[w.heap.size + 1]? = some (.cells #[.int .i64 e1, .slice B n d, .bool m1] 59 (0, 0))) ∧ zA (∀ j : Nat, j < k → xs[j]? = ys[j]?))
 case atStart => exact ⟨0, Nat.zero_le _, by omega, rfl, HB1, HA1, HG1, ⟨fun j hj => absurd hj (Nat.not_lt_zero _)⟩⟩
 case round =>
  obtain ⟨k, hk, hg, rfl, HB, HA, HG, HJ⟩ := hrel
  by_cases hlt : k < n
  ·have hltz : (k : Int) < (n : Int) := by omega
   obtain ⟨ad, A4, c4, rfl, p0, p1, p2, p3, p4, p5, p6, p7⟩ := PSplitCuts.zGe (Kd.zBa HX.out HB.out) (k : Int) (by omega) hltz
   obtain ⟨bd, B4, d4, rfl, q0, q1, q2, q3, q4, q5, q6, q7⟩ := PSplitCuts.zGe (Kd.zBa HY.out HB.out) (k : Int) (by omega) hltz
   simp only [Int.toNat_natCast] at p0 p1 p2 p3 p4 p5 q0 q1 q2 q3 q4 q5
   have hxk : xs[k]? = some (PSplitCuts.zBb xs k) := by
    unfold PSplitCuts.zBb
    rw [Int.toNat_natCast, List.getD_eq_getElem?_getD, List.getElem?_eq_getElem (by have := HN.out.1; omega)]
    rfl
   have hyk : ys[k]? = some (PSplitCuts.zBb ys k) := by
    unfold PSplitCuts.zBb
    rw [Int.toNat_natCast, List.getD_eq_getElem?_getD, List.getElem?_eq_getElem (by have := HN.out.2; omega)]
    rfl
   generalize PSplitCuts.zBb xs (k : Int) = x at p0 p1 p2 p3 p4 p5 p6 p7 hxk
   generalize PSplitCuts.zBb ys (k : Int) = y at q0 q1 q2 q3 q4 q5 q6 q7 hyk
   have HXY := zA.mk (And.intro hxk hyk)
   have HP := zA.mk (And.intro p6 (And.intro p7 (And.intro q6 q7)))
   have HLX : zA (x.f1.length ≤ 10000) := ⟨HV.out.1 x (List.mem_of_getElem? hxk)⟩
   have a1 := (zAb HA.out 1).trans (rfl : _ = some (Value.slice (some ad) n c))
   have b1 := (zAb HG.out 1).trans (rfl : _ = some (Value.slice (some bd) n d))
   have hla := zAi HA.out
   have hlb := zAi HG.out
   obtain ⟨lx, hlx⟩ : ∃ lx, x.f1.length = lx := ⟨_, rfl⟩
   obtain ⟨ly, hly⟩ : ∃ ly, y.f1.length = ly := ⟨_, rfl⟩
   have HL := zA.mk (And.intro hlx hly)
   rw [hlx] at p4
   rw [hly] at q4
   clear p6 p7 q6 q7 hxk hyk hlx hly
   go_upto_region 6 with fail
   have HKEEP : zA (∀ W, Below wr.heap.size wr W → W.cell? ⟨w.heap.size, 1, none⟩ = some (.slice (some ad) n c) ∧ W.cell? ⟨w.heap.size + 1, 1, none⟩ = some (.slice (some bd) n d) ∧
    W.cell? (ad.add (k * 6)) = some (.string x.f0.f0) ∧ W.cell? ⟨(ad.add (k * 6)).block, (ad.add (k * 6)).off + 1, none⟩ = some (.string x.f0.f1) ∧ W.cell? ⟨(ad.add (k * 6)).block, (ad.add (k * 6)).off + 2, none⟩ = some (.string x.f0.f2) ∧ W.cell? ⟨(ad.add (k * 6)).block, (ad.add (k * 6)).off + 3, none⟩ = some (.int .u64 x.f0.f3) ∧ W.cell? ⟨(ad.add (k * 6)).block, (ad.add (k * 6)).off + 4, none⟩ = some (.slice A4 lx c4) ∧ W.cell? ⟨(ad.add (k * 6)).block, (ad.add (k * 6)).off + 5, none⟩ = some (.bool x.f2) ∧
    W.cell? (bd.add (k * 6)) = some (.string y.f0.f0) ∧ W.cell? ⟨(bd.add (k * 6)).block, (bd.add (k * 6)).off + 1, none⟩ = some (.string y.f0.f1) ∧ W.cell? ⟨(bd.add (k * 6)).block, (bd.add (k * 6)).off + 2, none⟩ = some (.string y.f0.f2) ∧ W.cell? ⟨(bd.add (k * 6)).block, (bd.add (k * 6)).off + 3, none⟩ = some (.int .u64 y.f0.f3) ∧ W.cell? ⟨(bd.add (k * 6)).block, (bd.add (k * 6)).off + 4, none⟩ = some (.slice B4 ly d4) ∧ W.cell? ⟨(bd.add (k * 6)).block, (bd.add (k * 6)).off + 5, none⟩ = some (.bool y.f2)) := ⟨fun W hW =>
    have e : ∀ {p : Addr} {v : Value}, wr.cell? p = some v → W.cell? p = some v := fun h => (hW.cell (World.block_lt_of_cell? wr _ h)).trans h
    ⟨e a1, e b1, e p0, e p1, e p2, e p3, e p4, e p5, e q0, e q1, e q2, e q3, e q4, e q5⟩⟩
   go_region_held3 (fun W => W.cell? ⟨w.heap.size, 1, none⟩ = some (.slice (some ad) n c) ∧ W.cell? ⟨w.heap.size + 1, 1, none⟩ = some (.slice (some bd) n d) ∧
    W.cell? (ad.add (k * 6)) = some (.string x.f0.f0) ∧ W.cell? ⟨(ad.add (k * 6)).block, (ad.add (k * 6)).off + 1, none⟩ = some (.string x.f0.f1) ∧ W.cell? ⟨(ad.add (k * 6)).block, (ad.add (k * 6)).off + 2, none⟩ = some (.string x.f0.f2) ∧ W.cell? ⟨(ad.add (k * 6)).block, (ad.add (k * 6)).off + 3, none⟩ = some (.int .u64 x.f0.f3) ∧ W.cell? ⟨(ad.add (k * 6)).block, (ad.add (k * 6)).off + 4, none⟩ = some (.slice A4 lx c4) ∧ W.cell? ⟨(ad.add (k * 6)).block, (ad.add (k * 6)).off + 5, none⟩ = some (.bool x.f2) ∧
    W.cell? (bd.add (k * 6)) = some (.string y.f0.f0) ∧ W.cell? ⟨(bd.add (k * 6)).block, (bd.add (k * 6)).off + 1, none⟩ = some (.string y.f0.f1) ∧ W.cell? ⟨(bd.add (k * 6)).block, (bd.add (k * 6)).off + 2, none⟩ = some (.string y.f0.f2) ∧ W.cell? ⟨(bd.add (k * 6)).block, (bd.add (k * 6)).off + 3, none⟩ = some (.int .u64 y.f0.f3) ∧ W.cell? ⟨(bd.add (k * 6)).block, (bd.add (k * 6)).off + 4, none⟩ = some (.slice B4 ly d4) ∧ W.cell? ⟨(bd.add (k * 6)).block, (bd.add (k * 6)).off + 5, none⟩ = some (.bool y.f2))
    (exact HKEEP.out _ (by repeat (first | exact Below.refl _ _ | refine zAf ?_ | refine zAc ?_ _ | refine zAa ?_ _ | refine Below.setCell ?_ (by simp) _)))
    (fail)
   have HXB := zA.mk (two_a wr (.cells #[.string x.f0.f0, .string x.f0.f1, .string x.f0.f2, .int .u64 x.f0.f3, .slice A4 lx c4, .bool x.f2] 49) (.cells #[.string y.f0.f0, .string y.f0.f1, .string y.f0.f2, .int .u64 y.f0.f3, .slice B4 ly d4, .bool y.f2] 49))
   have HYB := zA.mk (two_b wr (.cells #[.string x.f0.f0, .string x.f0.f1, .string x.f0.f2, .int .u64 x.f0.f3, .slice A4 lx c4, .bool x.f2] 49) (.cells #[.string y.f0.f0, .string y.f0.f1, .string y.f0.f2, .int .u64 y.f0.f3, .slice B4 ly d4, .bool y.f2] 49))
   have HBW : zA (Below wr.heap.size wr ((wr.alloc (.cells #[.string x.f0.f0, .string x.f0.f1, .string x.f0.f2, .int .u64 x.f0.f3, .slice A4 lx c4, .bool x.f2] 49)).alloc (.cells #[.string y.f0.f0, .string y.f0.f1, .string y.f0.f2, .int .u64 y.f0.f3, .slice B4 ly d4, .bool y.f2] 49)).drew) := ⟨zAf (zAa (zAa (Below.refl _ _) _) _)⟩
   generalize ((wr.alloc (.cells #[.string x.f0.f0, .string x.f0.f1, .string x.f0.f2, .int .u64 x.f0.f3, .slice A4 lx c4, .bool x.f2] 49)).alloc (.cells #[.string y.f0.f0, .string y.f0.f1, .string y.f0.f2, .int .u64 y.f0.f3, .slice B4 ly d4, .bool y.f2] 49)).drew = W at HXB HYB HBW ⊢
   generalize wr.heap.size + 1 = gy at HYB ⊢
   generalize wr.heap.size = gx at HXB ⊢
   rotate_left
   have HXB := zA.mk (two_b wr (.cells #[.string y.f0.f0, .string y.f0.f1, .string y.f0.f2, .int .u64 y.f0.f3, .slice B4 ly d4, .bool y.f2] 49) (.cells #[.string x.f0.f0, .string x.f0.f1, .string x.f0.f2, .int .u64 x.f0.f3, .slice A4 lx c4, .bool x.f2] 49))
   have HYB := zA.mk (two_a wr (.cells #[.string y.f0.f0, .string y.f0.f1, .string y.f0.f2, .int .u64 y.f0.f3, .slice B4 ly d4, .bool y.f2] 49) (.cells #[.string x.f0.f0, .string x.f0.f1, .string x.f0.f2, .int .u64 x.f0.f3, .slice A4 lx c4, .bool x.f2] 49))
   have HBW : zA (Below wr.heap.size wr ((wr.alloc (.cells #[.string y.f0.f0, .string y.f0.f1, .string y.f0.f2, .int .u64 y.f0.f3, .slice B4 ly d4, .bool y.f2] 49)).alloc (.cells #[.string x.f0.f0, .string x.f0.f1, .string x.f0.f2, .int .u64 x.f0.f3, .slice A4 lx c4, .bool x.f2] 49)).drew) := ⟨zAf (zAa (zAa (Below.refl _ _) _) _)⟩
   generalize ((wr.alloc (.cells #[.string y.f0.f0, .string y.f0.f1, .string y.f0.f2, .int .u64 y.f0.f3, .slice B4 ly d4, .bool y.f2] 49)).alloc (.cells #[.string x.f0.f0, .string x.f0.f1, .string x.f0.f2, .int .u64 x.f0.f3, .slice A4 lx c4, .bool x.f2] 49)).drew = W at HXB HYB HBW ⊢
   generalize wr.heap.size + 1 = gx at HXB ⊢
   generalize wr.heap.size = gy at HYB ⊢
   all_goals (
    have x0 := (zAb HXB.out 0).trans (rfl : _ = some (Value.string x.f0.f0))
    have x1 := (zAb HXB.out 1).trans (rfl : _ = some (Value.string x.f0.f1))
    have x2 := (zAb HXB.out 2).trans (rfl : _ = some (Value.string x.f0.f2))
    have x3 := (zAb HXB.out 3).trans (rfl : _ = some (Value.int .u64 x.f0.f3))
    have x4 := (zAb HXB.out 4).trans (rfl : _ = some (Value.slice A4 lx c4))
    have x5 := (zAb HXB.out 5).trans (rfl : _ = some (Value.bool x.f2))
    have y0 := (zAb HYB.out 0).trans (rfl : _ = some (Value.string y.f0.f0))
    have y1 := (zAb HYB.out 1).trans (rfl : _ = some (Value.string y.f0.f1))
    have y2 := (zAb HYB.out 2).trans (rfl : _ = some (Value.string y.f0.f2))
    have y3 := (zAb HYB.out 3).trans (rfl : _ = some (Value.int .u64 y.f0.f3))
    have y4 := (zAb HYB.out 4).trans (rfl : _ = some (Value.slice B4 ly d4))
    have y5 := (zAb HYB.out 5).trans (rfl : _ = some (Value.bool y.f2))
    have hlx := zAi HXB.out
    have hly := zAi HYB.out
    have HB3 : zA (Below w.heap.size w W) := ⟨HB.out.trans (HBW.out.mono HB.out.size)⟩
    have HA3 := zA.mk (zAe HA.out HBW.out)
    have HG3 := zA.mk (zAe HG.out HBW.out)
    have HKB := zA.mk (keyB_eq x.f0 y.f0)
    have HNE : zA (x ≠ y → xs ≠ ys) := ⟨fun h e => by
     have h1 := HXY.out.1
     rw [e, HXY.out.2] at h1
     exact h (Option.some.inj h1).symm⟩
    have hcall := rsame_any A4 c4 x.f1 B4 d4 y.f1 W (Kd.zBa HP.out.2.1 HBW.out) HP.out.1 (Kd.zBa HP.out.2.2.2 HBW.out) HP.out.2.2.1 HLX.out
    rw [HL.out.1, HL.out.2] at hcall
    have HCALL := zA.mk hcall
    clear hcall HKEEP p0 p1 p2 p3 p4 p5 q0 q1 q2 q3 q4 q5 a1 b1 hla hlb
    obtain ⟨b, hb⟩ : ∃ b, keyB x.f0.f0 x.f0.f1 x.f0.f2 x.f0.f3 y.f0.f0 y.f0.f1 y.f0.f2 y.f0.f3 = b := ⟨_, rfl⟩
    have HKE : zA (b = decide (x.f0 = y.f0)) := ⟨hb.symm.trans HKB.out⟩
    cases b
    case false =>
     have HD : zA (xs ≠ ys) := ⟨HNE.out (fun e => by have h9 := HKE.out; rw [e] at h9; simp at h9)⟩
     clear HKE HKB
     go_wp2_with fail
     go_ret
     exact ⟨false, rfl, by simp [HD.out], HB3.out⟩
    case true =>
     have HKF : zA (x.f0 = y.f0) := ⟨of_decide_eq_true HKE.out.symm⟩
     clear HKE HKB
     obtain ⟨gone, hgone⟩ : ∃ g, x.f2 = g := ⟨_, rfl⟩
     obtain ⟨gone', hgone'⟩ : ∃ g, y.f2 = g := ⟨_, rfl⟩
     have HGG := zA.mk (And.intro hgone hgone')
     rw [hgone] at x5
     rw [hgone'] at y5
     rw [hgone, hgone']
     clear hgone hgone'
     obtain ⟨b2, hb2⟩ : ∃ b2, decide (x.f1 = y.f1) = b2 := ⟨_, rfl⟩
     rw [hb2] at HCALL
     have HD2 := zA.mk hb2
     clear hb2
     have hgg : zA (gone ≠ gone' → xs ≠ ys) := ⟨fun h => HNE.out (fun e => h (by rw [← HGG.out.1, ← HGG.out.2, e]))⟩
     have hgs : zA (gone = gone' → x.f2 = y.f2) := ⟨fun h => by rw [HGG.out.1, HGG.out.2, h]⟩
     clear HGG
     cases gone <;> cases gone'
     case false.true =>
      go_wp2_with fail
      go_ret
      exact ⟨false, rfl, by simp [hgg.out (by decide)], HB3.out⟩
     case true.false =>
      go_wp2_with fail
      go_ret
      exact ⟨false, rfl, by simp [hgg.out (by decide)], HB3.out⟩
     all_goals (
      cases b2
      case false =>
       have HD : zA (xs ≠ ys) := ⟨HNE.out (fun e => by have h9 := HD2.out; rw [e] at h9; simp at h9)⟩
       go_wp2_with fail
       refine HCALL.out.mono ?_
       rintro e W5 ⟨rfl, hb5⟩
       have HB5 : zA (Below w.heap.size w W5) := ⟨HB3.out.trans (hb5.mono HB3.out.size)⟩
       clear hb5 HCALL x0 x1 x2 x3 x4 x5 y0 y1 y2 y3 y4 y5
       go_wp2_with fail
       go_ret
       exact ⟨false, rfl, by simp [HD.out], HB5.out⟩
      case true =>
       have HE : zA (x = y) := ⟨cell_eq HKF.out (hgs.out rfl) (of_decide_eq_true HD2.out)⟩
       go_wp2_with fail
       refine HCALL.out.mono ?_
       rintro e W5 ⟨rfl, hb5⟩
       have HB5 : zA (Below w.heap.size w W5) := ⟨HB3.out.trans (hb5.mono HB3.out.size)⟩
       have HA5 := zA.mk (zAe HA3.out hb5)
       have HG5 := zA.mk (zAe HG3.out hb5)
       clear hb5 HCALL x0 x1 x2 x3 x4 x5 y0 y1 y2 y3 y4 y5
       go_wp2_with fail
       go_roundg (n - (k + 1))
       case measure => omega
       case rel =>
        refine ⟨k + 1, by omega, by omega, by go_num, HB5, HA5, HG5, ⟨fun j hj => ?_⟩⟩
        rcases Nat.lt_or_ge j k with h9 | h9
        ·exact HJ.out j h9
        ·obtain rfl : j = k := by omega
         rw [HXY.out.1, HXY.out.2, HE.out]))
  ·have hltz : ¬ (k : Int) < (n : Int) := by omega
   have : k = n := by omega
   subst this
   have a1 := (zAb HA.out 1).trans (rfl : _ = some (Value.slice A k c))
   have hla := zAi HA.out
   go_wp2_with fail
   go_ret
   exact .inr ⟨rfl, drop_same HJ.out HN.out.1 HN.out.2, HB.out⟩
end Go.Proofs.YtpckachmleonlaaGreatDoor
end
section
set_option linter.unusedVariables false
set_option linter.unusedSimpArgs false
namespace Go.Proofs.YtpckachmleonlaaGreatDoor
open Go.RowKit Go.Proofs.YtpckachmleonlaaGreatDoorW.PrintWords
attribute [local go_sem high] eqK46
theorem drop_ge {cs : List CellM} {x : CellM} {k : Nat} (h : OkL cs) (hx : OkC x) (hge : ∀ y, cs[k]? = some y → ¬ cmpK y.f0 x.f0 < 0) : ∀ y ∈ cs.drop k, ¬ cmpK y.f0 x.f0 < 0 := by
  rcases Nat.lt_or_ge k cs.length with hk | hk
  · intro y hy hlt
    rw [List.drop_eq_getElem_cons hk] at hy
    have h0 := hge _ (List.getElem?_eq_getElem hk)
    rcases List.mem_cons.1 hy with rfl | hy
    · exact h0 hlt
    · have hs : SortedC (cs.drop k) := h.so.sublist (List.drop_sublist _ _)
      rw [List.drop_eq_getElem_cons hk] at hs
      have h1 := (List.pairwise_cons.1 hs).1 y hy
      have hm : y ∈ cs := List.mem_of_mem_drop hy
      exact h0 (cmpK_trans (h.ok _ (List.getElem_mem hk)) (h.ok _ hm) hx h1 hlt)
  · intro y hy
    rw [List.drop_eq_nil_of_le hk] at hy
    cases hy
theorem put_split {cs : List CellM} {x : CellM} {k : Nat} (h : OkL cs) (hx : OkC x) (hlt : ∀ y ∈ cs.take k, cmpK y.f0 x.f0 < 0) (hge : ∀ y, cs[k]? = some y → ¬ cmpK y.f0 x.f0 < 0) : putF cs x = cs.take k ++ x :: (cs.drop k).filter fun y => decide (cmpK x.f0 y.f0 < 0) := by
  have h1 := drop_ge h hx hge
  have hf1 : cs.filter (fun y => decide (cmpK y.f0 x.f0 < 0)) = cs.take k := by
    conv => lhs; rw [← List.take_append_drop k cs]
    rw [List.filter_append, filt_all (fun y hy => decide_eq_true (hlt y hy)), filt_none (fun y hy => decide_eq_false (h1 y hy)), List.append_nil]
  have hf2 : cs.filter (fun y => decide (cmpK x.f0 y.f0 < 0)) = (cs.drop k).filter fun y => decide (cmpK x.f0 y.f0 < 0) := by
    conv => lhs; rw [← List.take_append_drop k cs]
    rw [List.filter_append, filt_none (fun y hy => decide_eq_false (by have h2 := hlt y hy; have h3 := cmpK_swap x.f0 y.f0; omega)), List.nil_append]
  unfold putF
  rw [hf1, hf2]
theorem put_new {cs : List CellM} {x : CellM} {k : Nat} (h : OkL cs) (hx : OkC x) (hlt : ∀ y ∈ cs.take k, cmpK y.f0 x.f0 < 0) (hge : ∀ y, cs[k]? = some y → ¬ cmpK y.f0 x.f0 < 0) (hne : ∀ y, cs[k]? = some y → y.f0 ≠ x.f0) : putF cs x = cs.take k ++ [x] ++ cs.drop k := by
  rw [put_split h hx hlt hge, filt_all, List.append_assoc]
  · rfl
  · intro y hy
    have h1 := drop_ge h hx hge y hy
    have h2 := cmpK_swap x.f0 y.f0
    refine decide_eq_true ?_
    by_cases e : cmpK x.f0 y.f0 = 0
    · exfalso
      have e1 := cmpK_zero.1 e
      rcases Nat.lt_or_ge k cs.length with hk | hk
      · rw [List.drop_eq_getElem_cons hk] at hy
        rcases List.mem_cons.1 hy with rfl | hy
        · exact hne _ (List.getElem?_eq_getElem hk) e1.symm
        · have hs : SortedC (cs.drop k) := h.so.sublist (List.drop_sublist _ _)
          rw [List.drop_eq_getElem_cons hk] at hs
          have h3 := (List.pairwise_cons.1 hs).1 y hy
          rw [← e1] at h3
          exact hge _ (List.getElem?_eq_getElem hk) h3
      · rw [List.drop_eq_nil_of_le hk] at hy
        cases hy
    · omega
theorem put_old {cs : List CellM} {x y : CellM} {k : Nat} (h : OkL cs) (hx : OkC x) (hlt : ∀ y ∈ cs.take k, cmpK y.f0 x.f0 < 0) (hy : cs[k]? = some y) (he : y.f0 = x.f0) : putF cs x = cs.take k ++ [x] ++ cs.drop (k + 1) := by
  obtain ⟨hk, e⟩ := List.getElem?_eq_some_iff.1 hy
  rw [put_split h hx hlt (fun z hz => by rw [hy] at hz; cases hz; rw [he]; exact cmpK_irrefl _), List.drop_eq_getElem_cons hk, e, List.filter_cons_of_neg (by rw [he]; simpa using cmpK_irrefl x.f0), filt_all, List.append_assoc]
  · rfl
  · intro z hz
    have hs : SortedC (cs.drop k) := h.so.sublist (List.drop_sublist _ _)
    rw [List.drop_eq_getElem_cons hk, e] at hs
    have h3 := (List.pairwise_cons.1 hs).1 z hz
    rw [he] at h3
    exact decide_eq_true h3
end Go.Proofs.YtpckachmleonlaaGreatDoor
end
