/- Words and walks for Split and Tablet: texts of these sessions, and of the kit's print, cut down to what is used (J4 K4 Card4). -/
import Derived.Test.YtpckachmleonlaaGreatDoorCu37
section
set_option linter.unusedVariables false
set_option linter.unusedSimpArgs false
namespace Go.Proofs.YtpckachmleonlaaGreatDoor
open Go.RowKit Go.Proofs.YtpckachmleonlaaGreatDoorW.PrintWords
def mergeR (a b a2 b2 : ByteArray) (xs ys : List CellM) : ByteArray × ByteArray × List CellM := if zDg b a2 xs ys = 0 then (a, b2, xs ++ ys) else (⟨#[]⟩, ⟨#[]⟩, [])
def RMPost (a b a2 b2 : ByteArray) (xs ys : List CellM) (w : World) (e : Ending) (w' : World) : Prop :=
  ∃ A n c, e = .returned (.tuple #[.agg #[.string (mergeR a b a2 b2 xs ys).1, .string (mergeR a b a2 b2 xs ys).2.1, .slice A n c], .int .i64 (zDg b a2 xs ys)]) ∧ n = (mergeR a b a2 b2 xs ys).2.2.length ∧ n ≤ c ∧ kC.C w' A n (mergeR a b a2 b2 xs ys).2.2 ∧ Below w.heap.size w w'
theorem rmPost_no {a b a2 b2 : ByteArray} {xs ys : List CellM} {w w' : World} {i : Int} (h : zDg b a2 xs ys = i) (hi : i ≠ 0) (hb : Below w.heap.size w w') : RMPost a b a2 b2 xs ys w (.returned (.tuple #[.agg #[.string ⟨#[]⟩, .string ⟨#[]⟩, .slice none 0 0], .int .i64 i])) w' := by
  have e : mergeR a b a2 b2 xs ys = (⟨#[]⟩, ⟨#[]⟩, []) := by unfold mergeR; rw [if_neg (by rw [h]; exact hi)]
  unfold RMPost
  rw [e, h]
  exact ⟨none, 0, 0, rfl, rfl, Nat.le_refl _, ⟨rfl, by simp, fun h => absurd h (by simp)⟩, hb⟩
set_option maxHeartbeats 8000000 in
set_option maxRecDepth 100000 in
theorem rmerge_any (a b a2 b2 : ByteArray) (A B : Option Addr) (c d : Nat) (xs ys : List CellM) (w : World) (hx : kC.C w A xs.length xs) (hc : xs.length ≤ c) (hy : kC.C w B ys.length ys) (hd : ys.length ≤ d) (l1 : xs.length ≤ 1000) (l2 : ys.length ≤ 1000) :
    Calls Tryz.prog 23 #[.agg #[.string a, .string b, .slice A xs.length c], .agg #[.string a2, .string b2, .slice B ys.length d]] w fun e w' => RMPost a b a2 b2 xs ys w e w' := by
  have HX := zA.mk (And.intro hx (And.intro hy (And.intro hc hd)))
  obtain ⟨n, hn⟩ : ∃ n, xs.length = n := ⟨_, rfl⟩
  obtain ⟨m, hm⟩ : ∃ m, ys.length = m := ⟨_, rfl⟩
  rw [hn, hm] at HX
  rw [hn] at l1 ⊢
  rw [hm] at l2 ⊢
  have HN := zA.mk (And.intro hn hm)
  clear hx hy hc hd hn hm
  obtain ⟨g, hg⟩ : ∃ g, w.heap.size = g := ⟨_, rfl⟩
  have HG := zA.mk hg
  have HP0 : zA ((((w.alloc (.cells #[.string a, .string b, .slice A n c] 25)).alloc (.cells #[.string a2, .string b2, .slice B m d] 25)).alloc (.cells #[.string ⟨#[]⟩, .string ⟨#[]⟩, .slice none 0 0] 25)).heap[g]? = some (.cells #[.string a, .string b, .slice A n c] 25 (0, 0))) := ⟨by rw [← hg]; exact zAh (zAh (heap_alloc_new _ _) _) _⟩
  have HP1 : zA ((((w.alloc (.cells #[.string a, .string b, .slice A n c] 25)).alloc (.cells #[.string a2, .string b2, .slice B m d] 25)).alloc (.cells #[.string ⟨#[]⟩, .string ⟨#[]⟩, .slice none 0 0] 25)).heap[g + 1]? = some (.cells #[.string a2, .string b2, .slice B m d] 25 (0, 0))) := ⟨by rw [← hg]; exact zAh (Cp.blk_new2 _ _ _) _⟩
  have HD : zA ((((w.alloc (.cells #[.string a, .string b, .slice A n c] 25)).alloc (.cells #[.string a2, .string b2, .slice B m d] 25)).alloc (.cells #[.string ⟨#[]⟩, .string ⟨#[]⟩, .slice none 0 0] 25)).heap[g + 1 + 1]? = some (.cells #[.string ⟨#[]⟩, .string ⟨#[]⟩, .slice none 0 0] 25 (0, 0))) := ⟨by
    have h9 := heap_alloc_new ((w.alloc (.cells #[.string a, .string b, .slice A n c] 25)).alloc (.cells #[.string a2, .string b2, .slice B m d] 25)) (.cells #[.string ⟨#[]⟩, .string ⟨#[]⟩, .slice none 0 0] 25)
    rwa [World.size_alloc, World.size_alloc, hg] at h9⟩
  have HB : zA (Below w.heap.size w (((w.alloc (.cells #[.string a, .string b, .slice A n c] 25)).alloc (.cells #[.string a2, .string b2, .slice B m d] 25)).alloc (.cells #[.string ⟨#[]⟩, .string ⟨#[]⟩, .slice none 0 0] 25))) := ⟨zAa (zAa (zAa (Below.refl _ _) _) _) _⟩
  go_enter Tryz.func23, Tryz.ntmps23
  go_upto_region 1 with fail
  generalize ((w.alloc (.cells #[.string a, .string b, .slice A n c] 25)).alloc (.cells #[.string a2, .string b2, .slice B m d] 25)).alloc (.cells #[.string ⟨#[]⟩, .string ⟨#[]⟩, .slice none 0 0] 25) = w1 at HP0 HP1 HD HB ⊢
  have HGG : zA (w.heap.size ≤ g + 1 + 1) := ⟨by omega⟩
  clear hg
  have p0 := (zAb HP0.out 0).trans (rfl : _ = some (Value.string a))
  have p1 := (zAb HP0.out 1).trans (rfl : _ = some (Value.string b))
  have p2 := (zAb HP0.out 2).trans (rfl : _ = some (Value.slice A n c))
  have q0 := (zAb HP1.out 0).trans (rfl : _ = some (Value.string a2))
  have q1 := (zAb HP1.out 1).trans (rfl : _ = some (Value.string b2))
  have q2 := (zAb HP1.out 2).trans (rfl : _ = some (Value.slice B m d))
  have f0 := zAd HD.out 0
  have f1 := zAd HD.out 1
  have f2 := zAd HD.out 2
  have d0 := (zAb HD.out 0).trans (rfl : _ = some (Value.string ⟨#[]⟩))
  have d1 := (zAb HD.out 1).trans (rfl : _ = some (Value.string ⟨#[]⟩))
  have d2 := (zAb HD.out 2).trans (rfl : _ = some (Value.slice none 0 0))
  have hlp := zAi HP0.out
  have hlq := zAi HP1.out
  have hld := zAi HD.out
  rcases Bool.eq_false_or_eq_true b.toList.isEmpty with he | he
  · have HNO : zA (zDg b a2 xs ys = 1) := ⟨by unfold zDg; rw [if_pos (.inl (Cp.size_zero he))]⟩
    go_wp2_with fail
    have hset := zEc HD.out (.string ⟨#[]⟩) (.string ⟨#[]⟩) (.slice none 0 0)
    have e0 := (zAb hset 0).trans (rfl : _ = some (Value.string ⟨#[]⟩))
    have e1 := (zAb hset 1).trans (rfl : _ = some (Value.string ⟨#[]⟩))
    have e2 := (zAb hset 2).trans (rfl : _ = some (Value.slice none 0 0))
    refine bodyPost_ret (v := .tuple #[.agg #[.string ⟨#[]⟩, .string ⟨#[]⟩, .slice none 0 0], .int .i64 1]) (by simp [results, Tryz.results23, go_sem, e0, e1, e2]) rfl ?_
    exact rmPost_no HNO.out (by decide) (zDb HB.out (by have := HGG.out; omega) _ _ _)
  have HSZ : zA (b.size ≠ 0) := ⟨by have := Cp.size_pos he; omega⟩
  by_cases hab : b = a2
  case neg =>
    have HNO : zA (zDg b a2 xs ys = 1) := ⟨by unfold zDg; rw [if_pos (.inr hab)]⟩
    have s1 : (b.toList == a2.toList) = false := by rw [str_ne]; exact decide_eq_false hab
    clear hab
    go_wp2_with fail
    have hset := zEc HD.out (.string ⟨#[]⟩) (.string ⟨#[]⟩) (.slice none 0 0)
    have e0 := (zAb hset 0).trans (rfl : _ = some (Value.string ⟨#[]⟩))
    have e1 := (zAb hset 1).trans (rfl : _ = some (Value.string ⟨#[]⟩))
    have e2 := (zAb hset 2).trans (rfl : _ = some (Value.slice none 0 0))
    refine bodyPost_ret (v := .tuple #[.agg #[.string ⟨#[]⟩, .string ⟨#[]⟩, .slice none 0 0], .int .i64 1]) (by simp [results, Tryz.results23, go_sem, e0, e1, e2]) rfl ?_
    exact rmPost_no HNO.out (by decide) (zDb HB.out (by have := HGG.out; omega) _ _ _)
  subst hab
  have HMK : zA (zDg b b xs ys = if 32 < (xs ++ ys).length then 9 else 0) := ⟨by unfold zDg; rw [if_neg (by simp [HSZ.out])]⟩
  have s1 : (b.toList == b.toList) = true := by simp
  rcases Nat.lt_or_ge 32 (n + m) with hlen | hlen
  · have HNO : zA (zDg b b xs ys = 9) := ⟨by rw [HMK.out, List.length_append, HN.out.1, HN.out.2, if_pos hlen]⟩
    have z1 : decide ((32 : Int) < (n : Int) + (m : Int)) = true := Cp.dt (by omega)
    have z2 : decide (32 < n + m) = true := Cp.dt hlen
    have z3 : (32 : Int) < (n : Int) + (m : Int) := by omega
    clear hlen
    go_wp2_with fail
    have hset := zEc HD.out (.string ⟨#[]⟩) (.string ⟨#[]⟩) (.slice none 0 0)
    have e0 := (zAb hset 0).trans (rfl : _ = some (Value.string ⟨#[]⟩))
    have e1 := (zAb hset 1).trans (rfl : _ = some (Value.string ⟨#[]⟩))
    have e2 := (zAb hset 2).trans (rfl : _ = some (Value.slice none 0 0))
    refine bodyPost_ret (v := .tuple #[.agg #[.string ⟨#[]⟩, .string ⟨#[]⟩, .slice none 0 0], .int .i64 9]) (by simp [results, Tryz.results23, go_sem, e0, e1, e2]) rfl ?_
    exact rmPost_no HNO.out (by decide) (zDb HB.out (by have := HGG.out; omega) _ _ _)
  have HZ : zA (zDg b b xs ys = 0) := ⟨by rw [HMK.out, List.length_append, HN.out.1, HN.out.2, if_neg (by omega)]⟩
  have HLEN := zA.mk hlen
  have z1 : decide ((32 : Int) < (n : Int) + (m : Int)) = false := Cp.df (by omega)
  have z3 : ¬ (32 : Int) < (n : Int) + (m : Int) := by omega
  clear hlen
  go_upto_region 5 with fail
  obtain ⟨zx, ex, hx1, hx2⟩ := (CAt.of HX.out.1 HN.out.1.symm HX.out.2.2.1).ex
  obtain ⟨zy, ey, hy1, hy2⟩ := (CAt.of HX.out.2.1 HN.out.2.symm HX.out.2.2.2).ex
  have HXZ : zA ((zx ++ zy).map (·.2) = xs ++ ys ∧ ∀ z ∈ zx ++ zy, z.1.k = z.2.f0 ∧ z.1.g = z.2.f2 ∧ FF (fun W => BAt W z.1.h z.2.f1) (fun k => k < w.heap.size) w1) := ⟨by rw [List.map_append, ex, ey], fun z hz => by
    rcases List.mem_append.1 hz with hz | hz
    · exact ⟨(hx2 z hz).1, (hx2 z hz).2.1, (hx2 z hz).2.2.keep HB.out⟩
    · exact ⟨(hy2 z hz).1, (hy2 z hz).2.1, (hy2 z hz).2.2.keep HB.out⟩⟩
  have HHX := zA.mk (And.intro (hx1.keep HB.out).now (hy1.keep HB.out).now)
  have HLX : zA ((zx.map (·.1)).length = n ∧ (zy.map (·.1)).length = m) := ⟨by rw [List.length_map, ← HN.out.1, ← ex, List.length_map], by rw [List.length_map, ← HN.out.2, ← ey, List.length_map]⟩
  clear hx1 hx2 hy1 hy2 ex ey
  obtain ⟨hx, hhx⟩ : ∃ l, zx.map (·.1) = l := ⟨_, rfl⟩
  obtain ⟨hy, hhy⟩ : ∃ l, zy.map (·.1) = l := ⟨_, rfl⟩
  rw [hhx, hhy] at HHX HLX
  have HHZ := zA.mk (And.intro hhx hhy)
  clear hhx hhy
  have HNE : zA (g ≠ g + 1 + 1 ∧ g + 1 ≠ g + 1 + 1) := ⟨by omega, by omega⟩
  have HKEEP : zA (∀ X, Below w1.heap.size w1 X → X.cell? ⟨g, 0, none⟩ = some (.string a) ∧ X.cell? ⟨g + 1, 1, none⟩ = some (.string b2) ∧ X.cell? ⟨g, 2, none⟩ = some (.slice A n c) ∧ X.cell? ⟨g + 1, 2, none⟩ = some (.slice B m d)) := ⟨fun X hX => ⟨(zAb (zAe HP0.out hX) 0).trans rfl, (zAb (zAe HP1.out hX) 1).trans rfl, (zAb (zAe HP0.out hX) 2).trans rfl, (zAb (zAe HP1.out hX) 2).trans rfl⟩⟩
  go_region_held3 (fun X => X.cell? ⟨g, 0, none⟩ = some (.string a) ∧ X.cell? ⟨g + 1, 1, none⟩ = some (.string b2) ∧ X.cell? ⟨g, 2, none⟩ = some (.slice A n c) ∧ X.cell? ⟨g + 1, 2, none⟩ = some (.slice B m d))
    (first | (with_reducible exact HFAR.out _ _ _) | exact HKEEP.out _ (by with_reducible repeat (first | exact Below.refl _ _ | exact HB4.out | exact HB5.out | refine zAf ?_ | refine zAa ?_ _)))
    (first
      | (refine Kd.zBc kH (Rr := RH) (w0 := w1) w1.heap.size (by rfl) (.tmp 33) (.tmp 35) 22 49 zDe 88 rfl Tryz.underlying22 zEi rfl (by decide) (by omega) (.slice A4 n c4) ([] ++ hx) hy B m d (fun _ => True) (fun _ => False) rfl rfl HR4.out (C_rhb HHX.out.2 (by with_reducible repeat (first | exact Below.refl _ _ | exact HB4.out | exact HB5.out | refine zAf ?_ | refine zAa ?_ _))) (fun x cs h => h) (fun _ hk => hk.elim) (fun _ _ => trivial) (by with_reducible repeat (first | exact Below.refl _ _ | exact HB4.out | exact HB5.out | refine zAf ?_ | refine zAa ?_ _)) (by have h8 := HB4.out.size; simpa using h8) (by rw [List.nil_append, HLX.out.1]; omega) ?_; intro v5 W5 ho hb hg5 hat; have HR5 := zA.mk ho; have HB5 := zA.mk hb; clear ho hb hg5 hat; obtain ⟨A5, c5, e5⟩ := Kd.zAk HR5.out; rw [show ((([] : List Ch) ++ hx) ++ hy).length = n + m by rw [List.nil_append, List.length_append, HLX.out.1, HLX.out.2]] at e5; subst e5; have HD5 := zA.mk (zAe HD.out HB5.out); have HP05 := zA.mk (zAe HP0.out HB5.out); have HP15 := zA.mk (zAe HP1.out HB5.out); have k0 := (zAb HD5.out 0).trans (rfl : _ = some (Value.string ⟨#[]⟩)); have k1 := (zAb HD5.out 1).trans (rfl : _ = some (Value.string ⟨#[]⟩)); have k2 := (zAb HD5.out 2).trans (rfl : _ = some (Value.slice none 0 0)); have j0 := zAd HD5.out 0; have j1 := zAd HD5.out 1; have j2 := zAd HD5.out 2; have hl5 := zAi HD5.out; have HFAR : zA (∀ x y z, (((W5.setCell ⟨g + 1 + 1, 0, none⟩ x).setCell ⟨g + 1 + 1, 1, none⟩ y).setCell ⟨g + 1 + 1, 2, none⟩ z).cell? ⟨g, 0, none⟩ = some (.string a) ∧ (((W5.setCell ⟨g + 1 + 1, 0, none⟩ x).setCell ⟨g + 1 + 1, 1, none⟩ y).setCell ⟨g + 1 + 1, 2, none⟩ z).cell? ⟨g + 1, 1, none⟩ = some (.string b2) ∧ (((W5.setCell ⟨g + 1 + 1, 0, none⟩ x).setCell ⟨g + 1 + 1, 1, none⟩ y).setCell ⟨g + 1 + 1, 2, none⟩ z).cell? ⟨g, 2, none⟩ = some (.slice A n c) ∧ (((W5.setCell ⟨g + 1 + 1, 0, none⟩ x).setCell ⟨g + 1 + 1, 1, none⟩ y).setCell ⟨g + 1 + 1, 2, none⟩ z).cell? ⟨g + 1, 2, none⟩ = some (.slice B m d)) := ⟨fun x y z => ⟨(zAb (zCi (zCi (zCi HP05.out HNE.out.1 _) HNE.out.1 _) HNE.out.1 _) 0).trans rfl, (zAb (zCi (zCi (zCi HP15.out HNE.out.2 _) HNE.out.2 _) HNE.out.2 _) 1).trans rfl, (zAb (zCi (zCi (zCi HP05.out HNE.out.1 _) HNE.out.1 _) HNE.out.1 _) 2).trans rfl, (zAb (zCi (zCi (zCi HP15.out HNE.out.2 _) HNE.out.2 _) HNE.out.2 _) 2).trans rfl⟩⟩)
      | (refine Kd.zBc kH (Rr := RH) (w0 := w1) w1.heap.size (by rfl) (.tmp 30) (.tmp 32) 22 49 zDe 88 rfl Tryz.underlying22 zEi rfl (by decide) (by omega) (.slice (some ⟨w1.heap.size, 0, none⟩) 0 0) [] hx A n c (fun _ => True) (fun _ => False) rfl rfl (by first | exact own0H (Nat.le_refl _) | exact own0H (W := w1.drew) (Nat.le_refl _)) (C_rhb HHX.out.1 (by with_reducible repeat (first | exact Below.refl _ _ | exact HB4.out | exact HB5.out | refine zAf ?_ | refine zAa ?_ _))) (fun x cs h => h) (fun _ hk => hk.elim) (fun _ _ => trivial) (by with_reducible repeat (first | exact Below.refl _ _ | exact HB4.out | exact HB5.out | refine zAf ?_ | refine zAa ?_ _)) (by simp) (by simp; omega) ?_; intro v4 W4 ho hb hg4 hat; have HR4 := zA.mk ho; have HB4 := zA.mk hb; clear ho hb hg4 hat; obtain ⟨A4, c4, e4⟩ := Kd.zAk HR4.out; rw [List.nil_append, HLX.out.1] at e4; subst e4))
  all_goals (
    go_wp2_with fail
    have hset := zEc HD5.out (.string a) (.string b2) (.slice A5 (n + m) c5)
    have e0 := (zAb hset 0).trans (rfl : _ = some (Value.string a))
    have e1 := (zAb hset 1).trans (rfl : _ = some (Value.string b2))
    have e2 := (zAb hset 2).trans (rfl : _ = some (Value.slice A5 (n + m) c5))
    refine bodyPost_ret (v := .tuple #[.agg #[.string a, .string b2, .slice A5 (n + m) c5], .int .i64 0]) (by simp [results, Tryz.results23, go_sem, e0, e1, e2]) rfl ?_
    have hR : mergeR a b b b2 xs ys = (a, b2, xs ++ ys) := by unfold mergeR; rw [if_pos HZ.out]
    have hXL : xs.length + ys.length = n + m := by rw [HN.out.1, HN.out.2]
    have h6 : Kd.R kH 49 W5 w1.heap.size (fun _ => True) (.slice A5 (n + m) c5) ((zx ++ zy).map (·.1)) := by
      rw [List.map_append, HHZ.out.1, HHZ.out.2]
      exact HR5.out
    have h7 := CAt.own h6 HXZ.out.2 HB5.out (Nat.le_refl _) HXZ.out.1
    have hlo : ∀ k, (k < w.heap.size ∨ w1.heap.size ≤ k) → k ≠ g + 1 + 1 := fun k hk e => by
      have := HGG.out
      have := zAi HD.out
      omega
    have h8 : CAt (fun k => k < w.heap.size ∨ w1.heap.size ≤ k) (((W5.setCell ⟨g + 1 + 1, 0, none⟩ (.string a)).setCell ⟨g + 1 + 1, 1, none⟩ (.string b2)).setCell ⟨g + 1 + 1, 2, none⟩ (.slice A5 (n + m) c5)) A5 (n + m) c5 (xs ++ ys) := h7.step fun k hk _ => (Below.heap_setCell _ _ _ k (hlo k hk)).trans ((Below.heap_setCell _ _ _ k (hlo k hk)).trans (Below.heap_setCell _ _ _ k (hlo k hk)))
    refine ⟨A5, n + m, c5, ?_, ?_, h8.cap, ?_, ?_⟩
    · rw [hR, HZ.out]
    · rw [hR, List.length_append, hXL]
    · rw [hR]; exact h8.now
    · exact zDb (HB.out.trans (HB5.out.mono HB.out.size)) (by have := HGG.out; omega) _ _ _)
end Go.Proofs.YtpckachmleonlaaGreatDoor
end
section
set_option linter.unusedVariables false
set_option linter.unusedSimpArgs false
namespace Go.Proofs.YtpckachmleonlaaGreatDoor
open Go.RowKit Go.Proofs.YtpckachmleonlaaGreatDoorW.PrintWords
set_option maxHeartbeats 8000000 in
set_option maxRecDepth 100000 in
theorem splitMerges_law (a b a2 b2 : ByteArray) (A B : Option Addr) (c d : Nat) (l r : List CellM) (w : World) (hC : kC.C w A l.length l) (hc : l.length ≤ c) (hD : kC.C w B r.length r) (hd : r.length ≤ d) (hf : ∀ x ∈ l, Fit x.f0) (ht : ∀ x ∈ l, TimeOk x) (hf2 : ∀ x ∈ r, Fit x.f0) (ht2 : ∀ x ∈ r, TimeOk x) :
    Calls Tryz.prog 4 #[.string a, .string b, .string a2, .string b2, .slice A l.length c, .slice B r.length d] w fun e w' => e = .returned (.bool true) ∧ Below w.heap.size w w' := by
  have HT := zA.mk (And.intro ht ht2)
  have HMADE := zA.mk (made_any (fun j => j < w.heap.size) a b l A c w (fun j h => h) (CAt.of hC rfl hc) hf ht)
  have HMADE2 : zA (∀ X, Below w.heap.size w X → Calls Tryz.prog 15 #[.string a2, .string b2, .slice B r.length d] X fun e w' => MadePost (fun j => j < X.heap.size) a2 b2 r X e w') := ⟨fun X hX => made_any (fun j => j < X.heap.size) a2 b2 r B d X (fun j h => h) (CAt.of (Kd.zBa hD hX) rfl hd) hf2 ht2⟩
  obtain ⟨n, hn⟩ : ∃ n, l.length = n := ⟨_, rfl⟩
  obtain ⟨m, hm⟩ : ∃ m, r.length = m := ⟨_, rfl⟩
  rw [hn] at HMADE ⊢
  rw [hm] at HMADE2 ⊢
  clear hC hc hf ht hn hD hd hf2 ht2 hm
  have HAL : zA (∀ X, Below w.heap.size w X → Calls Tryz.prog 16 #[] X fun e w' => e = .returned (.bool true) ∧ Below w.heap.size w w') := ⟨fun X hX => (alive11 X).mono fun e w' h => ⟨h.1, hX.trans (h.2.mono hX.size)⟩⟩
  go_enter Tryz.func4, Tryz.ntmps4
  go_wp2_with fail
  refine HMADE.out.mono ?_
  rintro e w1 ⟨pt, a', b', A', n', c', rfl, hm1, hb1⟩
  obtain ⟨q, hq⟩ : ∃ q, madeB a b l = q := ⟨_, rfl⟩
  have HQ := zA.mk hq
  rw [hq] at hm1 ⊢
  have HM := zA.mk hm1
  have HB1 := zA.mk hb1
  clear hq hm1 hb1 HMADE
  have HBX : zA (Below w1.heap.size w1 (w1.alloc (.cells #[.string a', .string b', .slice A' n' c'] 25))) := ⟨zAa (Below.refl _ _) _⟩
  have HB2 : zA (Below w.heap.size w (w1.alloc (.cells #[.string a', .string b', .slice A' n' c'] 25))) := ⟨zAa HB1.out _⟩
  have HG2 : zA ((w1.alloc (.cells #[.string a', .string b', .slice A' n' c'] 25)).heap[w1.heap.size]? = some (.cells #[.string a', .string b', .slice A' n' c'] 25 (0, 0))) := ⟨heap_alloc_new _ _⟩
  go_wp2_with fail
  refine (HMADE2.out _ HB2.out).mono ?_
  rintro e w3 ⟨pt2, a2', b2', A2', n2', c2', rfl, hm2, hb3⟩
  obtain ⟨q2, hq2⟩ : ∃ q, madeB a2 b2 r = q := ⟨_, rfl⟩
  have HQ2 := zA.mk hq2
  rw [hq2] at hm2 ⊢
  have HM2 := zA.mk hm2
  have HBY : zA (Below w1.heap.size w1 w3) := ⟨HBX.out.trans (hb3.mono HBX.out.size)⟩
  have HG3 := zA.mk (zAe HG2.out hb3)
  have HB3 : zA (Below w.heap.size w w3) := ⟨HB1.out.trans (HBY.out.mono HB1.out.size)⟩
  clear hq2 hm2 hb3 HMADE2 HB2 HG2 HBX
  have HBZ : zA (Below w3.heap.size w3 (w3.alloc (.cells #[.string a2', .string b2', .slice A2' n2' c2'] 25))) := ⟨zAa (Below.refl _ _) _⟩
  have HB4 : zA (Below w.heap.size w (w3.alloc (.cells #[.string a2', .string b2', .slice A2' n2' c2'] 25))) := ⟨zAa HB3.out _⟩
  have HG4 : zA ((w3.alloc (.cells #[.string a2', .string b2', .slice A2' n2' c2'] 25)).heap[w3.heap.size]? = some (.cells #[.string a2', .string b2', .slice A2' n2' c2'] 25 (0, 0))) := ⟨heap_alloc_new _ _⟩
  have HG1 := zA.mk (zAe HG3.out HBZ.out)
  cases q
  case false =>
    go_wp2_with fail
    refine (HAL.out _ HB4.out).mono ?_
    rintro e w5 ⟨rfl, hb⟩
    have HB5 := zA.mk hb
    clear hb
    go_wp2_with fail
    go_ret
    exact ⟨rfl, HB5.out⟩
  cases q2
  case false =>
    go_wp2_with fail
    refine (HAL.out _ HB4.out).mono ?_
    rintro e w5 ⟨rfl, hb⟩
    have HB5 := zA.mk hb
    clear hb
    go_wp2_with fail
    go_ret
    exact ⟨rfl, HB5.out⟩
  have HTL := zA.mk (made_tab HQ.out HT.out.1)
  have HTL2 := zA.mk (made_tab HQ2.out HT.out.2)
  obtain ⟨p, rfl, hp1, htab, ea, eb, hcat⟩ := HM.out rfl
  subst ea eb
  obtain ⟨u, rfl, hu1, htab2, ea, eb, hcat2⟩ := HM2.out rfl
  subst ea eb
  have HTAB := zA.mk ((htab.keep HBY.out).keep HBZ.out)
  have HTAB2 := zA.mk (htab2.keep HBZ.out)
  have HCAT := zA.mk ((hcat.keep HBY.out).keep HBZ.out)
  have HCAT2 := zA.mk (hcat2.keep HBZ.out)
  have HLEN := zA.mk (And.intro HCAT.out.len HCAT2.out.len)
  clear hp1 htab hcat HM HQ hu1 htab2 hcat2 HM2 HQ2
  obtain ⟨cs, hcs⟩ : ∃ cs, zDi l = cs := ⟨_, rfl⟩
  rw [hcs] at HTL HTAB HCAT HLEN
  obtain ⟨ds, hds⟩ : ∃ cs, zDi r = cs := ⟨_, rfl⟩
  rw [hds] at HTL2 HTAB2 HCAT2 HLEN
  clear hcs hds
  have HMG := zA.mk (merge_tab _ _ _ p u a' b' a2' b2' cs ds HTAB.out HTAB2.out HTL.out HTL2.out)
  go_wp2_with fail
  refine HMG.out.mono ?_
  rintro e w5 ⟨po, rfl, hz, hnz, hb⟩
  have HZ := zA.mk (And.intro hz hnz)
  have HB5 : zA (Below w.heap.size w w5) := ⟨HB4.out.trans (hb.mono HB4.out.size)⟩
  have HGA := zA.mk (zAe HG1.out hb)
  have HGB := zA.mk (zAe HG4.out hb)
  have HT5 := zA.mk (HTAB.out.keep hb)
  have HU5 := zA.mk (HTAB2.out.keep hb)
  have HC5 := zA.mk (And.intro (Kd.zBa HCAT.out.now hb) (Kd.zBa HCAT2.out.now hb))
  have HCAP := zA.mk (And.intro HCAT.out.cap HCAT2.out.cap)
  have m0 := (zAb HGA.out 0).trans (rfl : _ = some (Value.string a'))
  have m1 := (zAb HGA.out 1).trans (rfl : _ = some (Value.string b'))
  have m2 := (zAb HGA.out 2).trans (rfl : _ = some (Value.slice A' n' c'))
  have n0 := (zAb HGB.out 0).trans (rfl : _ = some (Value.string a2'))
  have n1 := (zAb HGB.out 1).trans (rfl : _ = some (Value.string b2'))
  have n2 := (zAb HGB.out 2).trans (rfl : _ = some (Value.slice A2' n2' c2'))
  have hlg := zAi HGA.out
  have hlg2 := zAi HGB.out
  have hrm := rmerge_any a' b' a2' b2' A' A2' c' c2' cs ds w5 (by rw [← HLEN.out.1]; exact HC5.out.1) (by rw [← HLEN.out.1]; exact HCAP.out.1) (by rw [← HLEN.out.2]; exact HC5.out.2) (by rw [← HLEN.out.2]; exact HCAP.out.2) (by have := HTL.out.len; omega) (by have := HTL2.out.len; omega)
  rw [← HLEN.out.1, ← HLEN.out.2] at hrm
  have HRM := zA.mk hrm
  obtain ⟨kk, hkk⟩ : ∃ kk, zDg b' a2' cs ds = kk := ⟨_, rfl⟩
  have HKK := zA.mk hkk
  unfold RMPost at HRM
  rw [hkk] at HZ HRM ⊢
  clear hz hnz hb hrm HMG HG1 HG4 HTAB HTAB2 HCAT HCAT2 HB4 HBZ hkk
  go_wp2_with fail
  refine HRM.out.mono ?_
  rintro e w6 ⟨A6, n6, c6, rfl, e6, h6, hc6, hb⟩
  have HR6 := zA.mk (And.intro e6 (And.intro h6 hc6))
  have HB6 : zA (Below w.heap.size w w6) := ⟨HB5.out.trans (hb.mono HB5.out.size)⟩
  have HGA6 := zA.mk (zAe HGA.out hb)
  have HGB6 := zA.mk (zAe HGB.out hb)
  have HT6 := zA.mk (HT5.out.keep hb)
  have HU6 := zA.mk (HU5.out.keep hb)
  have HC6 := zA.mk (And.intro (Kd.zBa HC5.out.1 hb) (Kd.zBa HC5.out.2 hb))
  have HZ6 : zA ((kk = 0 → ∃ r ok, po = some ⟨r, 0, none⟩ ∧ TabAt ok w6 r a' b2' (cs ++ ds)) ∧ (kk ≠ 0 → po = none)) := ⟨fun h => by
    obtain ⟨r, ok, e3, h1⟩ := HZ.out.1 h
    exact ⟨r, ok, e3, h1.keep hb⟩, HZ.out.2⟩
  clear e6 h6 hc6 hb HRM HZ HGA HGB HT5 HU5 HC5 HB5 m0 m1 m2 n0 n1 n2 hlg hlg2
  have y1 : (kk == kk) = true := beq_self_eq_true kk
  by_cases h0 : kk = 0
  case neg =>
    have z2 : (kk == 0) = false := by simpa using h0
    obtain rfl := HZ6.out.2 h0
    clear h0
    go_wp2_with fail
    refine (HAL.out _ (zAa HB6.out _)).mono ?_
    rintro e w8 ⟨rfl, hb⟩
    have HB8 := zA.mk hb
    clear hb
    go_wp2_with fail
    go_ret
    exact ⟨rfl, HB8.out⟩
  subst h0
  obtain ⟨v, ok3, rfl, ht3⟩ := HZ6.out.1 rfl
  have hR : mergeR a' b' a2' b2' cs ds = (a', b2', cs ++ ds) := by unfold mergeR; rw [if_pos HKK.out]
  rw [hR] at HR6 ⊢
  simp only at HR6 ⊢
  have HTLC : zA (OkL (cs ++ ds) ∧ (cs ++ ds).length ≤ 32) := ⟨by
    have hk := HKK.out
    unfold zDg at hk
    split at hk
    · omega
    rename_i hne
    split at hk
    · omega
    rename_i hle
    have hbe : b' = a2' := Decidable.byContradiction fun h => hne (.inr h)
    subst hbe
    have h0 : b'.size ≠ 0 := fun h => hne (.inl h)
    have hcat := TabL.cat HTL.out HTL2.out h0
    rw [if_neg hle] at hcat
    refine ⟨?_, by omega⟩
    rw [← hcat.2]
    exact putAll_ok fun x hx => by
      rcases List.mem_append.1 hx with hx | hx
      · exact HTL.out.ok.ok x hx
      · exact HTL2.out.ok.ok x hx⟩
  have HBA : zA (Below w6.heap.size w6 (w6.alloc (.cells #[.string a', .string b2', .slice A6 n6 c6] 25))) := ⟨zAa (Below.refl _ _) _⟩
  have HG7 : zA ((w6.alloc (.cells #[.string a', .string b2', .slice A6 n6 c6] 25)).heap[w6.heap.size]? = some (.cells #[.string a', .string b2', .slice A6 n6 c6] 25 (0, 0))) := ⟨heap_alloc_new _ _⟩
  have HS1 : zA (∀ X, Below w6.heap.size w6 X → Calls Tryz.prog 21 #[.pointer (some ⟨v, 0, none⟩), .agg #[.string a', .string b2', .slice A6 n6 c6]] X fun e w' => e = .returned (.bool true) ∧ Below w6.heap.size w6 w') := ⟨fun X hX => by
    have h9 := same_true ok3 X v a' b2' (cs ++ ds) (ht3.keep hX) HTLC.out.1 (by have := HTLC.out.2; omega) A6 c6 (by rw [← HR6.out.1]; exact Kd.zBa HR6.out.2.2 hX)
    rw [← HR6.out.1] at h9
    exact h9.mono fun e w' h => ⟨h.1, hX.trans (h.2.mono hX.size)⟩⟩
  have HS2 : zA (∀ X, Below w6.heap.size w6 X → Calls Tryz.prog 21 #[.pointer (some ⟨p, 0, none⟩), .agg #[.string a', .string b', .slice A' n' c']] X fun e w' => e = .returned (.bool true) ∧ Below w6.heap.size w6 w') := ⟨fun X hX => by
    have h9 := same_true _ X p a' b' cs (HT6.out.keep hX) HTL.out.ok (by have := HTL.out.len; omega) A' c' (by rw [← HLEN.out.1]; exact Kd.zBa HC6.out.1 hX)
    rw [← HLEN.out.1] at h9
    exact h9.mono fun e w' h => ⟨h.1, hX.trans (h.2.mono hX.size)⟩⟩
  have HS3 : zA (∀ X, Below w6.heap.size w6 X → Calls Tryz.prog 21 #[.pointer (some ⟨u, 0, none⟩), .agg #[.string a2', .string b2', .slice A2' n2' c2']] X fun e w' => e = .returned (.bool true) ∧ Below w6.heap.size w6 w') := ⟨fun X hX => by
    have h9 := same_true _ X u a2' b2' ds (HU6.out.keep hX) HTL2.out.ok (by have := HTL2.out.len; omega) A2' c2' (by rw [← HLEN.out.2]; exact Kd.zBa HC6.out.2 hX)
    rw [← HLEN.out.2] at h9
    exact h9.mono fun e w' h => ⟨h.1, hX.trans (h.2.mono hX.size)⟩⟩
  clear ht3 hR HZ6 HKK
  go_wp2_with fail
  refine (HS1.out _ HBA.out).mono ?_
  rintro e w8 ⟨rfl, hb8⟩
  have HB8 := zA.mk hb8
  have HA8 := zA.mk (zAe HGA6.out hb8)
  have l0 := (zAb HA8.out 0).trans (rfl : _ = some (Value.string a'))
  have l1 := (zAb HA8.out 1).trans (rfl : _ = some (Value.string b'))
  have l2 := (zAb HA8.out 2).trans (rfl : _ = some (Value.slice A' n' c'))
  have hl2 := zAi HA8.out
  clear hb8 HS1 HG7
  go_wp2_with fail
  refine (HS2.out _ HB8.out).mono ?_
  rintro e w9 ⟨rfl, hb9⟩
  have HB9 := zA.mk hb9
  have HC9 := zA.mk (zAe HGB6.out hb9)
  have m0 := (zAb HC9.out 0).trans (rfl : _ = some (Value.string a2'))
  have m1 := (zAb HC9.out 1).trans (rfl : _ = some (Value.string b2'))
  have m2 := (zAb HC9.out 2).trans (rfl : _ = some (Value.slice A2' n2' c2'))
  have hl3 := zAi HC9.out
  clear hb9 HS2 l0 l1 l2 hl2 HA8
  go_wp2_with fail
  refine (HS3.out _ HB9.out).mono ?_
  rintro e w10 ⟨rfl, hb10⟩
  have HB10 : zA (Below w.heap.size w w10) := ⟨HB6.out.trans (hb10.mono HB6.out.size)⟩
  clear hb10 HS3 m0 m1 m2 hl3 HC9
  go_wp2_with fail
  refine (HAL.out _ HB10.out).mono ?_
  rintro e w11 ⟨rfl, hb⟩
  have HB11 := zA.mk hb
  clear hb
  go_wp2_with fail
  go_ret
  exact ⟨rfl, HB11.out⟩
end Go.Proofs.YtpckachmleonlaaGreatDoor
end
section
set_option linter.unusedVariables false
namespace Go.Proofs.YtpckachmleonlaaGreatDoor
open Go.RowKit Go.Proofs.YtpckachmleonlaaGreatDoorW.PrintWords
theorem splitMerges_card (a b a2 b2 : ByteArray) (A : Option Addr) (c : Nat) (l : List CellM) (B : Option Addr) (d : Nat) (r : List CellM) (W : World) (_ : a.size ≤ maxLen) (_ : b.size ≤ maxLen) (_ : a2.size ≤ maxLen) (_ : b2.size ≤ maxLen) (hr : kC.C W A l.length l) (hc : l.length ≤ c) (ok : ∀ x ∈ l, KeyOk x.f0) (hr2 : kC.C W B r.length r) (hd : r.length ≤ d) (ok2 : ∀ x ∈ r, KeyOk x.f0) :
    Calls Tryz.prog 4 #[.string a, .string b, .string a2, .string b2, .slice A l.length c, .slice B r.length d] W fun e W' => e = .returned (.bool true) ∧ Below W.heap.size W W' :=
  splitMerges_law a b a2 b2 A B c d l r W hr hc hr2 hd (fun x hx => (ok x hx).1) (fun x hx => (ok x hx).2) (fun x hx => (ok2 x hx).1) (fun x hx => (ok2 x hx).2)
end Go.Proofs.YtpckachmleonlaaGreatDoor
end
