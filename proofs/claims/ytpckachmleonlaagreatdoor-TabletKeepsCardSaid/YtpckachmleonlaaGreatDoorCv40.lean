/- Words and walks for Split and Tablet: texts of these sessions, and of the kit's print, cut down to what is used (X4 Y3). -/
import Derived.Test.YtpckachmleonlaaGreatDoorCv39
section
set_option linter.unusedVariables false
set_option linter.unusedSimpArgs false
namespace Go.Proofs.YtpckachmleonlaaGreatDoor
open Go.RowKit Go.Proofs.YtpckachmleonlaaGreatDoorW.PrintWords Go.Proofs.YtpckachmleonlaaGreatDoorW.PrintMore
def ResPost (ok : Nat → Prop) (p : Nat) (a b : ByteArray) (R : List CellM × Int × List CellM × Bool) (w : World) (e : Ending) (w' : World) : Prop :=
 ∃ A n c, e = .returned (.agg #[.int .i64 R.2.1, .slice A n c, .bool R.2.2.2]) ∧ CAt (fun j => w.heap.size ≤ j) w' A n c R.2.2.1 ∧ TabAt ok w' p a b R.1 ∧ But p w w'
theorem resPost_no {ok : Nat → Prop} {p : Nat} {a b : ByteArray} {R : List CellM × Int × List CellM × Bool} {cs : List CellM} {i : Int} {w w' : World} (h : R = (cs, i, [], false)) (ht : TabAt ok w' p a b cs) (hb : But p w w') : ResPost ok p a b R w (.returned (.agg #[.int .i64 i, .slice none 0 0, .bool false])) w' := by
 subst h
 exact ⟨none, 0, 0, rfl, CAt.nil _ _, ht, hb⟩
theorem but_set3 (w : World) (g : Nat) (x y z : Value) : But g w (((w.setCell ⟨g, 0, none⟩ x).setCell ⟨g, 1, none⟩ y).setCell ⟨g, 2, none⟩ z) := ⟨zCk (Below.refl _ _) (Nat.le_refl _) _ _ _, fun k hk _ => (Below.heap_setCell _ _ _ k hk).trans ((Below.heap_setCell _ _ _ k hk).trans (Below.heap_setCell _ _ _ k hk)), by simp [World.size_setCell]⟩
theorem leaf_kinds {o : OpM} (h : leafB o = true) (h7 : o.kind ≠ 7) (h8 : o.kind ≠ 8) : 1 ≤ o.kind ∧ o.kind ≤ 5 := by
 unfold leafB leafK at h
 simp only [Bool.and_eq_true] at h
 have h1 := h.1.1
 rcases (by omega : (1 ≤ o.kind ∧ o.kind ≤ 5) ∨ (o.kind < 1 ∨ 5 < o.kind)) with h2 | h2
 ·exact h2
 ·rw [if_neg (by omega), if_neg (by omega), if_neg (by omega), if_neg h8] at h1
  cases h1
theorem leaf_scan {o : OpM} (h : leafB o = true) (h8 : o.kind = 8) : o.k.f0.size ≤ 32 ∧ o.to_.size ≤ 32 := by
 unfold leafB leafK at h
 simp only [Bool.and_eq_true] at h
 have h1 := h.1.1
 rw [if_neg (by omega), if_neg (by omega), if_neg (by omega), if_pos h8, Bool.and_eq_true] at h1
 have h2 := of_decide_eq_true h1.1
 exact ⟨h2.2.2.2, of_decide_eq_true h1.2⟩
theorem leaf_get {o : OpM} (h : leafB o = true) (h7 : o.kind = 7) : o.k.f0.size ≤ 32 := by
 unfold leafB leafK at h
 simp only [Bool.and_eq_true] at h
 have h1 := h.1.1
 rw [if_pos (.inr h7), Bool.and_eq_true] at h1
 have h2 := of_decide_eq_true h1.2
 exact h2.2.2.1
theorem op_at {m : Nat} {w : World} {A : Option Addr} {n : Nat} {l : List OpM} (h : Kd.C (kO m) w A n l) (i : Nat) (hi : i < n) : ∃ ad s m' B1 d1 B2 d2 B3 d3, A = some ad ∧ l[i]? = some s ∧ w.cell? (ad.add (i * 10)) = some (.int .i64 s.kind) ∧ w.cell? ⟨(ad.add (i * 10)).block, (ad.add (i * 10)).off + 1, none⟩ = some (.string s.k.f0) ∧ w.cell? ⟨(ad.add (i * 10)).block, (ad.add (i * 10)).off + 2, none⟩ = some (.string s.k.f1) ∧ w.cell? ⟨(ad.add (i * 10)).block, (ad.add (i * 10)).off + 3, none⟩ = some (.string s.k.f2) ∧ w.cell? ⟨(ad.add (i * 10)).block, (ad.add (i * 10)).off + 4, none⟩ = some (.int .u64 s.k.f3) ∧ w.cell? ⟨(ad.add (i * 10)).block, (ad.add (i * 10)).off + 5, none⟩ = some (.string s.to_) ∧ w.cell? ⟨(ad.add (i * 10)).block, (ad.add (i * 10)).off + 6, none⟩ = some (.slice B1 s.value.length d1) ∧ w.cell? ⟨(ad.add (i * 10)).block, (ad.add (i * 10)).off + 7, none⟩ = some (.slice B2 s.want.length d2) ∧ w.cell? ⟨(ad.add (i * 10)).block, (ad.add (i * 10)).off + 8, none⟩ = some (.bool s.has) ∧ w.cell? ⟨(ad.add (i * 10)).block, (ad.add (i * 10)).off + 9, none⟩ = some (.slice B3 s.sub.length d3) ∧ OpAt m' w s B1 d1 B2 d2 B3 d3 := by
 obtain ⟨ad, m', B1, d1, B2, d2, B3, d3, e, _, p0, p1, p2, p3, p4, p5, p6, p7, p8, p9, hat⟩ := at_kO h i hi
 refine ⟨ad, l.getD i zOp, m', B1, d1, B2, d2, B3, d3, e, ?_, p0, p1, p2, p3, p4, p5, p6, p7, p8, p9, hat⟩
 have hl := h.1
 rw [List.getD_eq_getElem?_getD, List.getElem?_eq_getElem (by omega)]
 rfl
set_option maxHeartbeats 16000000 in
set_option maxRecDepth 100000 in
theorem apply_any (ok : Nat → Prop) (w : World) (p : Nat) (a b : ByteArray) (cs : List CellM) (h : TabAt ok w p a b cs) (hok : ∀ k, w.heap.size ≤ k → ok k) (htl : TabL a b cs) (o : OpM) (hto : TimesO o) (m : Nat) (A1 : Option Addr) (c1 : Nat) (A2 : Option Addr) (c2 : Nat) (A3 : Option Addr) (c3 : Nat) (hat : OpAt m w o A1 c1 A2 c2 A3 c3) :
  Calls Tryz.prog 28 #[.pointer (some ⟨p, 0, none⟩), opV o A1 c1 A2 c2 A3 c3] w fun e w' => ResPost ok p a b (zFg a b o cs) w e w' := by
 have HT := zAa.mk (And.intro h (And.intro hok (And.intro htl (And.intro hto hat))))
 have HLP := zAa.mk h.lt
 have HB1 : zAa (Below w.heap.size w ((w.alloc (.cells (opCs o A1 c1 A2 c2 A3 c3) 56)).alloc (.cells #[.int .i64 0, .slice none 0 0, .bool false] 59))) := ⟨zAb (zAb (Below.refl _ _) _) _⟩
 have HG1 : zAa (((w.alloc (.cells (opCs o A1 c1 A2 c2 A3 c3) 56)).alloc (.cells #[.int .i64 0, .slice none 0 0, .bool false] 59)).heap[w.heap.size]? = some (.cells (opCs o A1 c1 A2 c2 A3 c3) 56 (0, 0))) := ⟨zAi (heap_alloc_new _ _) _⟩
 have HD1 : zAa (((w.alloc (.cells (opCs o A1 c1 A2 c2 A3 c3) 56)).alloc (.cells #[.int .i64 0, .slice none 0 0, .bool false] 59)).heap[w.heap.size + 1]? = some (.cells #[.int .i64 0, .slice none 0 0, .bool false] 59 (0, 0))) := ⟨Cp.zFi _ _ _⟩
 have HS1 : zAa (w.heap.size + 2 ≤ ((w.alloc (.cells (opCs o A1 c1 A2 c2 A3 c3) 56)).alloc (.cells #[.int .i64 0, .slice none 0 0, .bool false] 59)).heap.size) := ⟨by simp⟩
 have HRT : zAa (∀ X, Below w.heap.size w X → Calls Tryz.prog 62 #[opV o A1 c1 A2 c2 A3 c3] X fun e w' => e = .returned (.int .i64 (if opB o then 0 else 6)) ∧ Below X.heap.size X w') := ⟨fun X hX => opR_any o m A1 c1 A2 c2 A3 c3 X (hat.keep hX)⟩
 have HOUT : zAa (∀ X, Below w.heap.size w X → Calls Tryz.prog 63 #[.pointer (some ⟨p, 0, none⟩), opV o A1 c1 A2 c2 A3 c3] X fun e w' => e = .returned (.bool (offM a b o)) ∧ Below X.heap.size X w') := ⟨fun X hX => outside_any ok X p a b cs (h.keep hX) o A1 c1 A2 c2 A3 c3⟩
 have HCS := zAa.mk (And.intro htl.ok htl.len)
 unfold opV at HRT HOUT ⊢
 clear h hok htl hto hat
 go_enter Tryz.func28, Tryz.ntmps28
 go_wp2_with fail
 refine (HRT.out _ HB1.out).mono ?_
 rintro e w2 ⟨rfl, hb⟩
 have HB2 : zAa (Below w.heap.size w w2) := ⟨HB1.out.trans (hb.mono HB1.out.size)⟩
 have HG2 := zAa.mk (zAf HG1.out hb)
 have HD2 := zAa.mk (zAf HD1.out hb)
 have HS2 : zAa (w.heap.size + 2 ≤ w2.heap.size) := ⟨Nat.le_trans HS1.out hb.size⟩
 obtain ⟨g, hg⟩ : ∃ g, w.heap.size + 1 = g := ⟨_, rfl⟩
 have HG : zAa (w.heap.size ≤ g ∧ w.heap.size + 2 = g + 1) := ⟨by omega, by omega⟩
 rw [hg] at HD2 ⊢
 rw [HG.out.2] at HS2
 obtain ⟨ob, hob⟩ : ∃ ob, opB o = ob := ⟨_, rfl⟩
 have HOB := zAa.mk hob
 rw [hob]
 clear hb hg hob HB1 HG1 HD1 HS1 HRT
 obtain ⟨q0, q1, q2, q3, q4, q5, q6, q7, q8, q9, hlg⟩ := opBlk (o := o) HG2.out
 have f0 := zAd HD2.out 0
 have f1 := zAd HD2.out 1
 have f2 := zAd HD2.out 2
 have d0 := (zAc HD2.out 0).trans (rfl : _ = some (Value.int .i64 0))
 have d1 := (zAc HD2.out 1).trans (rfl : _ = some (Value.slice none 0 0))
 have d2 := (zAc HD2.out 2).trans (rfl : _ = some (Value.bool false))
 have hld := zAj HD2.out
 cases ob
 case false =>
  have HN : zAa (zFg a b o cs = (cs, 6, [], false)) := ⟨by unfold zFg; rw [if_pos HOB.out]⟩
  simp only [Bool.false_eq_true, if_false]
  go_wp2_with fail
  have s3 := zFh HD2.out (.int .i64 6) (.slice none 0 0) (.bool false)
  have e0 := (zAc s3 0).trans (rfl : _ = some (Value.int .i64 6))
  have e1 := (zAc s3 1).trans (rfl : _ = some (Value.slice none 0 0))
  have e2 := (zAc s3 2).trans (rfl : _ = some (Value.bool false))
  refine bodyPost_ret (v := .agg #[.int .i64 6, .slice none 0 0, .bool false]) (by simp [results, Tryz.results28, go_sem, e0, e1, e2]) rfl ?_
  exact resPost_no HN.out (HT.out.1.keep (zCk HB2.out HG.out.1 _ _ _)) (But.of_below (zCk HB2.out HG.out.1 _ _ _) (Nat.le_of_lt HLP.out))
 simp only [if_true]
 go_wp2_with fail
 refine (HOUT.out _ HB2.out).mono ?_
 rintro e w3 ⟨rfl, hb⟩
 have HB3 : zAa (Below w.heap.size w w3) := ⟨HB2.out.trans (hb.mono HB2.out.size)⟩
 have HG3 := zAa.mk (zAf HG2.out hb)
 have HD3 := zAa.mk (zAf HD2.out hb)
 have HS3 : zAa (g + 1 ≤ w3.heap.size) := ⟨Nat.le_trans HS2.out hb.size⟩
 obtain ⟨of, hof⟩ : ∃ ob, offM a b o = ob := ⟨_, rfl⟩
 have HOF := zAa.mk hof
 rw [hof]
 clear hb hof HB2 HG2 HD2 HS2 HOUT q0 q1 q2 q3 q4 q5 q6 q7 q8 q9 hlg f0 f1 f2 d0 d1 d2 hld
 obtain ⟨q0, q1, q2, q3, q4, q5, q6, q7, q8, q9, hlg⟩ := opBlk (o := o) HG3.out
 have f0 := zAd HD3.out 0
 have f1 := zAd HD3.out 1
 have f2 := zAd HD3.out 2
 have d0 := (zAc HD3.out 0).trans (rfl : _ = some (Value.int .i64 0))
 have d1 := (zAc HD3.out 1).trans (rfl : _ = some (Value.slice none 0 0))
 have d2 := (zAc HD3.out 2).trans (rfl : _ = some (Value.bool false))
 have hld := zAj HD3.out
 cases of
 case true =>
  have HN : zAa (zFg a b o cs = (cs, 8, [], false)) := ⟨by unfold zFg; rw [if_neg (by rw [HOB.out]; simp), if_pos HOF.out]⟩
  go_wp2_with fail
  have s3 := zFh HD3.out (.int .i64 8) (.slice none 0 0) (.bool false)
  have e0 := (zAc s3 0).trans (rfl : _ = some (Value.int .i64 8))
  have e1 := (zAc s3 1).trans (rfl : _ = some (Value.slice none 0 0))
  have e2 := (zAc s3 2).trans (rfl : _ = some (Value.bool false))
  refine bodyPost_ret (v := .agg #[.int .i64 8, .slice none 0 0, .bool false]) (by simp [results, Tryz.results28, go_sem, e0, e1, e2]) rfl ?_
  exact resPost_no HN.out (HT.out.1.keep (zCk HB3.out HG.out.1 _ _ _)) (But.of_below (zCk HB3.out HG.out.1 _ _ _) (Nat.le_of_lt HLP.out))
 have HAP : zAa (zFg a b o cs = if o.kind = 7 then (match newC o.k cs with
  | none => (cs, 7, [], false)
  | some x => (cs, 0, [x], false))
 else if o.kind = 8 then (cs, 0, (scanL o.k.f0 o.to_ cs).take 16, decide (16 < (scanL o.k.f0 o.to_ cs).length))
 else if o.kind = 6 then (if (zFj o.sub cs).2 = 0 then ((zFj o.sub cs).1, 0, [], false) else (cs, (zFj o.sub cs).2, [], false))
 else ((zCg o cs).1, (zCg o cs).2, [], false)) := ⟨by unfold zFg; rw [if_neg (by rw [HOB.out]; simp), if_neg (by rw [HOF.out]; simp)]; rfl⟩
 by_cases h7 : o.kind = 7
 ·have HNEW := zAa.mk (newest_any ok w3 p a b cs (HT.out.1.keep HB3.out) HCS.out.1 (by have := HCS.out.2; omega) o.k (leaf_get (opB_leaf HOB.out (by omega)) h7))
  have HAP7 : zAa (zFg a b o cs = match newC o.k cs with
   | none => (cs, 7, [], false)
   | some x => (cs, 0, [x], false)) := ⟨by rw [HAP.out, if_pos h7]⟩
  rw [h7] at q0
  clear h7 HAP
  go_wp2_with fail
  refine HNEW.out.mono ?_
  rintro e w4 ⟨hb, he⟩
  have HB4 : zAa (Below w.heap.size w w4) := ⟨HB3.out.trans (hb.mono HB3.out.size)⟩
  have HD4 := zAa.mk (zAf HD3.out hb)
  have HS4 : zAa (g + 1 ≤ w4.heap.size) := ⟨Nat.le_trans HS3.out hb.size⟩
  obtain ⟨nc, hnc⟩ : ∃ nc, newC o.k cs = nc := ⟨_, rfl⟩
  rw [hnc] at he HAP7
  clear hb hnc HNEW HG3 q0 q1 q2 q3 q4 q5 q6 q7 q8 q9 hlg f0 f1 f2 d0 d1 d2 hld
  have f0 := zAd HD4.out 0
  have f1 := zAd HD4.out 1
  have f2 := zAd HD4.out 2
  have d0 := (zAc HD4.out 0).trans (rfl : _ = some (Value.int .i64 0))
  have d1 := (zAc HD4.out 1).trans (rfl : _ = some (Value.slice none 0 0))
  have d2 := (zAc HD4.out 2).trans (rfl : _ = some (Value.bool false))
  have hld := zAj HD4.out
  cases nc with
  | none =>
   simp only at he HAP7
   subst he
   go_wp2_with fail
   have s3 := zAi (zFh HD4.out (.int .i64 7) (.slice none 0 0) (.bool false)) (.cells #[.string ⟨#[]⟩, .string ⟨#[]⟩, .string ⟨#[]⟩, .int .u64 0, .slice none 0 0, .bool false] 49)
   have e0 := (zAc s3 0).trans (rfl : _ = some (Value.int .i64 7))
   have e1 := (zAc s3 1).trans (rfl : _ = some (Value.slice none 0 0))
   have e2 := (zAc s3 2).trans (rfl : _ = some (Value.bool false))
   refine bodyPost_ret (v := .agg #[.int .i64 7, .slice none 0 0, .bool false]) (by simp [results, Tryz.results28, go_sem, e0, e1, e2]) rfl ?_
   exact resPost_no HAP7.out (HT.out.1.keep (zAb (zCk HB4.out HG.out.1 _ _ _) _)) (But.of_below (zAb (zCk HB4.out HG.out.1 _ _ _) _) (Nat.le_of_lt HLP.out))
  | some x =>
   simp only at he HAP7
   obtain ⟨V, cv, rfl, hv⟩ := he
   have HV := zAa.mk hv
   unfold cellV
   obtain ⟨lx, hlx⟩ : ∃ lx, x.f1.length = lx := ⟨_, rfl⟩
   have HLX := zAa.mk hlx
   rw [hlx] at HV ⊢
   clear hv hlx
   go_wp2_with fail
   have hws : (((w4.setCell ⟨g, 0, none⟩ (.int .i64 0)).setCell ⟨g, 1, none⟩ (.slice (some ⟨w4.heap.size + 1, 0, none⟩) 1 1)).setCell ⟨g, 2, none⟩ (.bool false)).heap.size = w4.heap.size := by simp [World.size_setCell]
   have b3 := zCk HB4.out HG.out.1 (.int .i64 0) (.slice (some ⟨w4.heap.size + 1, 0, none⟩) 1 1) (.bool false)
   have s3 := zAi (zAi (zFh HD4.out (.int .i64 0) (.slice (some ⟨w4.heap.size + 1, 0, none⟩) 1 1) (.bool false)) (.cells #[.string x.f0.f0, .string x.f0.f1, .string x.f0.f2, .int .u64 x.f0.f3, .slice V lx cv, .bool x.f2] 49)) (.cells #[.string x.f0.f0, .string x.f0.f1, .string x.f0.f2, .int .u64 x.f0.f3, .slice V lx cv, .bool x.f2] 49)
   have hsame : Same_ (fun j => g + 1 ≤ j) w4 (((w4.setCell ⟨g, 0, none⟩ (.int .i64 0)).setCell ⟨g, 1, none⟩ (.slice (some ⟨w4.heap.size + 1, 0, none⟩) 1 1)).setCell ⟨g, 2, none⟩ (.bool false)) := fun k hk _ => by
    have hne : k ≠ g := by omega
    rw [Below.heap_setCell _ _ _ k hne, Below.heap_setCell _ _ _ k hne, Below.heap_setCell _ _ _ k hne]
   generalize ((w4.setCell ⟨g, 0, none⟩ (.int .i64 0)).setCell ⟨g, 1, none⟩ (.slice (some ⟨w4.heap.size + 1, 0, none⟩) 1 1)).setCell ⟨g, 2, none⟩ (.bool false) = W0 at hws b3 s3 hsame ⊢
   have e0 := (zAc s3 0).trans (rfl : _ = some (Value.int .i64 0))
   have e1 := (zAc s3 1).trans (rfl : _ = some (Value.slice (some ⟨w4.heap.size + 1, 0, none⟩) 1 1))
   have e2 := (zAc s3 2).trans (rfl : _ = some (Value.bool false))
   refine bodyPost_ret (v := .agg #[.int .i64 0, .slice (some ⟨w4.heap.size + 1, 0, none⟩) 1 1, .bool false]) (by simp [results, Tryz.results28, go_sem, e0, e1, e2]) rfl ?_
   have hbn : Below W0.heap.size W0 ((W0.alloc (.cells #[.string x.f0.f0, .string x.f0.f1, .string x.f0.f2, .int .u64 x.f0.f3, .slice V lx cv, .bool x.f2] 49)).alloc (.cells #[.string x.f0.f0, .string x.f0.f1, .string x.f0.f2, .int .u64 x.f0.f3, .slice V lx cv, .bool x.f2] 49)) := zAb (zAb (Below.refl _ _) _) _
   have hnew := Cp.zFi W0 (.cells #[.string x.f0.f0, .string x.f0.f1, .string x.f0.f2, .int .u64 x.f0.f3, .slice V lx cv, .bool x.f2] 49) (.cells #[.string x.f0.f0, .string x.f0.f1, .string x.f0.f2, .int .u64 x.f0.f3, .slice V lx cv, .bool x.f2] 49)
   have hvv := ((HV.out.mono (ok' := fun j => g + 1 ≤ j) fun k hk => Nat.le_trans HS3.out hk).step hsame).keep hbn
   rw [hws, ← HLX.out] at hnew
   rw [← HLX.out] at hvv hbn ⊢
   have hca := CAt_one hnew hvv (by have := HS4.out; omega)
   refine ⟨some ⟨w4.heap.size + 1, 0, none⟩, 1, 1, by rw [HAP7.out], by rw [HAP7.out]; exact hca.mono fun j hj => Nat.le_trans HG.out.1 (Nat.le_of_succ_le hj), ?_, ?_⟩
   ·rw [HAP7.out]
    exact HT.out.1.keep (b3.trans (hbn.mono b3.size))
   ·exact But.of_below (b3.trans (hbn.mono b3.size)) (Nat.le_of_lt HLP.out)
 have HPG : zAa (p ≠ g) := ⟨by have := HLP.out; have := HG.out.1; omega⟩
 have HTG : zAa (∀ X, Below w.heap.size w X → TabAt (fun k => ok k ∧ k ≠ g) X p a b cs) := ⟨fun X hX => (HT.out.1.lim.wide (ok' := fun k => ok k ∧ k ≠ g) (fun k hk => ⟨hk.1, by have := HG.out.1; omega⟩) (fun h => HT.out.1.okp h.1)).keep hX⟩
 have n7 : (o.kind == 7) = false := by simpa using h7
 by_cases h8 : o.kind = 8
 ·have HSCN := zAa.mk (scan_any ok w3 p a b cs (HT.out.1.keep HB3.out) HCS.out.1 (by have := HCS.out.2; omega) o (leaf_scan (opB_leaf HOB.out (by omega)) h8) A1 c1 A2 c2 A3 c3)
  have HAP8 : zAa (zFg a b o cs = (cs, 0, (scanL o.k.f0 o.to_ cs).take 16, decide (16 < (scanL o.k.f0 o.to_ cs).length))) := ⟨by rw [HAP.out, if_neg h7, if_pos h8]⟩
  unfold opV at HSCN
  obtain ⟨q, hq⟩ : ∃ q, decide (16 < (scanL o.k.f0 o.to_ cs).length) = q := ⟨_, rfl⟩
  rw [hq] at HSCN HAP8
  rw [h8] at q0 HSCN
  clear h7 h8 n7 HAP hq
  go_wp2_with fail
  refine HSCN.out.mono ?_
  rintro e w4 ⟨A, n, c, rfl, hca, hb⟩
  have HB4 : zAa (Below w.heap.size w w4) := ⟨HB3.out.trans (hb.mono HB3.out.size)⟩
  have HD4 := zAa.mk (zAf HD3.out hb)
  have HCA := zAa.mk hca
  clear hb hca HSCN HG3 q0 q1 q2 q3 q4 q5 q6 q7 q8 q9 hlg f0 f1 f2 d0 d1 d2 hld
  have f0 := zAd HD4.out 0
  have f1 := zAd HD4.out 1
  have f2 := zAd HD4.out 2
  have d0 := (zAc HD4.out 0).trans (rfl : _ = some (Value.int .i64 0))
  have d1 := (zAc HD4.out 1).trans (rfl : _ = some (Value.slice none 0 0))
  have d2 := (zAc HD4.out 2).trans (rfl : _ = some (Value.bool false))
  have hld := zAj HD4.out
  go_wp2_with fail
  have s3 := zFh HD4.out (.int .i64 0) (.slice A n c) (.bool q)
  have e0 := (zAc s3 0).trans (rfl : _ = some (Value.int .i64 0))
  have e1 := (zAc s3 1).trans (rfl : _ = some (Value.slice A n c))
  have e2 := (zAc s3 2).trans (rfl : _ = some (Value.bool q))
  refine bodyPost_ret (v := .agg #[.int .i64 0, .slice A n c, .bool q]) (by simp [results, Tryz.results28, go_sem, e0, e1, e2]) rfl ?_
  refine ⟨A, n, c, by rw [HAP8.out], ?_, by rw [HAP8.out]; exact HT.out.1.keep (zCk HB4.out HG.out.1 _ _ _), But.of_below (zCk HB4.out HG.out.1 _ _ _) (Nat.le_of_lt HLP.out)⟩
  rw [HAP8.out]
  exact (HCA.out.step fun k hk _ => by
   have hne : k ≠ g := by have := HS3.out; omega
   rw [Below.heap_setCell _ _ _ k hne, Below.heap_setCell _ _ _ k hne, Below.heap_setCell _ _ _ k hne]).mono fun j hj => Nat.le_trans HB3.out.size hj
 have n8 : (o.kind == 8) = false := by simpa using h8
 by_cases h6 : o.kind = 6
 case neg =>
  have n6 : (o.kind == 6) = false := by simpa using h6
  have HWR := zAa.mk (write_any (fun k => ok k ∧ k ≠ g) w3 p a b cs (HTG.out w3 HB3.out) (fun k hk => ⟨HT.out.2.1 k (Nat.le_trans HB3.out.size hk), by have := HS3.out; omega⟩) HCS.out.1 HCS.out.2 o (opB_leaf HOB.out h6) (leaf_kinds (opB_leaf HOB.out h6) h7 h8) HT.out.2.2.2.1.1 m A1 c1 A2 c2 A3 c3 (HT.out.2.2.2.2.keep HB3.out))
  have HAPW : zAa (zFg a b o cs = ((zCg o cs).1, (zCg o cs).2, [], false)) := ⟨by rw [HAP.out, if_neg h7, if_neg h8, if_neg h6]⟩
  unfold opV at HWR
  obtain ⟨kk, hkk⟩ : ∃ kk, (zCg o cs).2 = kk := ⟨_, rfl⟩
  unfold WritePost at HWR
  rw [hkk] at HWR HAPW
  clear h7 h8 h6 HAP hkk
  go_wp2_with fail
  refine HWR.out.mono ?_
  rintro e w4 ⟨rfl, ht, hb⟩
  have HT4 := zAa.mk ht
  have HB4 : zAa (But p w w4) := ⟨(But.of_below HB3.out (Nat.le_of_lt HLP.out)).trans hb⟩
  have HD4 := zAa.mk ((hb.same g (by have := HLP.out; have := HG.out.1; omega) hld).trans HD3.out)
  clear ht hb HWR HG3 q0 q1 q2 q3 q4 q5 q6 q7 q8 q9 hlg f0 f1 f2 d0 d1 d2 hld
  have f0 := zAd HD4.out 0
  have f1 := zAd HD4.out 1
  have f2 := zAd HD4.out 2
  have d0 := (zAc HD4.out 0).trans (rfl : _ = some (Value.int .i64 0))
  have d1 := (zAc HD4.out 1).trans (rfl : _ = some (Value.slice none 0 0))
  have d2 := (zAc HD4.out 2).trans (rfl : _ = some (Value.bool false))
  have hld := zAj HD4.out
  go_wp2_with fail
  have s3 := zFh HD4.out (.int .i64 kk) (.slice none 0 0) (.bool false)
  have e0 := (zAc s3 0).trans (rfl : _ = some (Value.int .i64 kk))
  have e1 := (zAc s3 1).trans (rfl : _ = some (Value.slice none 0 0))
  have e2 := (zAc s3 2).trans (rfl : _ = some (Value.bool false))
  refine bodyPost_ret (v := .agg #[.int .i64 kk, .slice none 0 0, .bool false]) (by simp [results, Tryz.results28, go_sem, e0, e1, e2]) rfl ?_
  have hbg := but_set3 w4 g (.int .i64 kk) (.slice none 0 0) (.bool false)
  have hsz := HG.out.1
  refine ⟨none, 0, 0, by rw [HAPW.out], by rw [HAPW.out]; exact CAt.nil _ _, ?_, ⟨HB4.out.below.trans (hbg.below.mono (by have := HLP.out; omega)), fun k hk hl => ?_, Nat.le_trans HB4.out.size hbg.size⟩⟩
  ·rw [HAPW.out]
   exact (HT4.out.but hbg (fun h => h.2 rfl) HPG.out).wide (fun k hk => hk.1) HT.out.1.okp
  ·exact (hbg.same k (by omega) (Nat.lt_of_lt_of_le hl HB4.out.size)).trans (HB4.out.same k hk hl)
 case pos =>
  obtain ⟨hsub, hn1, hn8, _, _⟩ := opB_batch HOB.out h6
  have HSUB := zAa.mk hsub
  have HINS := zAa.mk (offM_ins HOF.out h8)
  have HAPB : zAa (zFg a b o cs = if (zFj o.sub cs).2 = 0 then ((zFj o.sub cs).1, 0, [], false) else (cs, (zFj o.sub cs).2, [], false)) := ⟨by rw [HAP.out, if_neg h7, if_neg h8, if_pos h6]⟩
  have HCL := zAa.mk (clone_any _ w3 p a b cs (HTG.out w3 HB3.out))
  have HSC := zAa.mk (Kd.zBb HT.out.2.2.2.2.s HB3.out)
  have HTM : zAa (∀ s ∈ o.sub, TimeK s.k) := ⟨HT.out.2.2.2.1.2⟩
  rw [h6] at q0
  obtain ⟨l, hl⟩ : ∃ l, o.sub = l := ⟨_, rfl⟩
  obtain ⟨n, hn⟩ : ∃ n, l.length = n := ⟨_, rfl⟩
  have HN := zAa.mk hn
  have HNO : zAa (o.sub.length = n ∧ o.sub = l) := ⟨by rw [hl]; exact hn, hl⟩
  rw [hl] at HSUB HAPB HSC HTM hn1 hn8 q9
  rw [hn] at HSC hn1 hn8 q9
  clear hsub h6 h7 h8 HAP hl hn
  go_wp2_with fail
  refine HCL.out.mono ?_
  rintro e w4 ⟨rfl, htq, hb, hsz⟩
  have HB4 : zAa (Below w.heap.size w w4) := ⟨HB3.out.trans (hb.mono HB3.out.size)⟩
  have HG4 := zAa.mk (zAf HG3.out hb)
  have HD4 := zAa.mk (zAf HD3.out hb)
  have HSC4 := zAa.mk (Kd.zBb HSC.out hb)
  have HTQ := zAa.mk htq
  obtain ⟨u, hu⟩ : ∃ u, w3.heap.size = u := ⟨_, rfl⟩
  have HU : zAa (w.heap.size ≤ u ∧ g < u ∧ w4.heap.size = u + 1) := ⟨by have := HB3.out.size; omega, by have := HS3.out; omega, by omega⟩
  rw [hu] at HTQ ⊢
  clear hb htq hsz hu HCL HSC HG3 q0 q1 q2 q3 q4 q5 q6 q7 q8 q9 hlg f0 f1 f2 d0 d1 d2 hld
  have q9 := (zAc HG4.out 9).trans (rfl : _ = some (Value.slice A3 o.sub.length c3))
  rw [HNO.out.1] at q9
  have hlg := zAj HG4.out
  go_upto_region 18 with fail
  go_loopg [54] n (fun gg s54 wr => ∃ (k : Nat) (ds : List CellM), k ≤ n ∧ n - k ≤ gg ∧ s54 = .int .i64 k ∧ zAa (TabAt (fun k => (ok k ∧ k ≠ g) ∧ k ≠ u) wr u a b ds) ∧ zAa (TabL a b ds) ∧ zAa (zFj l cs = zFj (l.drop k) ds) ∧ zAa (But u w4 wr))
  case atStart => exact ⟨0, cs, Nat.zero_le _, by omega, rfl, HTQ, ⟨HT.out.2.2.1⟩, ⟨rfl⟩, ⟨But.refl _ _⟩⟩
  case round =>
   obtain ⟨k, ds, hk, hg, rfl, HTU, HTD, HBM, HBU⟩ := hrel
   have HBW : zAa (Below w.heap.size w wr) := ⟨HB4.out.trans (HBU.out.below.mono HU.out.1)⟩
   have HDR := zAa.mk ((HBU.out.same g (by have := HU.out.2.1; omega) (zAj HD4.out)).trans HD4.out)
   by_cases hlt : k < n
   ·have hltz : (k : Int) < (n : Int) := by omega
    obtain ⟨ad, s, m', B1, d1', B2, d2', B3, d3', rfl, hsk, p0, p1, p2, p3, p4, p5, p6, p7, p8, p9, hats⟩ := op_at (Kd.zBb HT.out.2.2.2.2.s HBW.out |> fun h => by rw [HNO.out.1] at h; exact h) k hlt
    rw [HNO.out.2] at hsk
    have HSK := zAa.mk hsk
    have hms := List.mem_of_getElem? hsk
    have hsb := HSUB.out s hms
    unfold subB at hsb
    simp only [Bool.and_eq_true, decide_eq_true_eq] at hsb
    have HLF : zAa (leafB s = true ∧ (1 ≤ s.kind ∧ s.kind ≤ 5) ∧ s.k.f0 = o.k.f0) := ⟨hsb.2, ⟨hsb.1.1.1, by omega⟩, hsb.1.2⟩
    have HBX : zAa (Below wr.heap.size wr (wr.alloc (.cells (opCs s B1 d1' B2 d2' B3 d3') 56))) := ⟨zAb (Below.refl _ _) _⟩
    have HWR := zAa.mk (write_any _ _ u a b ds (HTU.out.keep HBX.out) (fun k hk => by
     have h1 := HBX.out.size
     have h2 := HBU.out.size
     have h3 := HU.out
     have h4 := HB4.out.size
     exact ⟨⟨HT.out.2.1 k (by omega), by omega⟩, by omega⟩) HTD.out.ok HTD.out.len s HLF.out.1 HLF.out.2.1 (HTM.out s hms) m' B1 d1' B2 d2' B3 d3' (hats.keep HBX.out))
    have HTW : zAa (TabL a b (zCg s ds).1) := ⟨HTD.out.write HLF.out.1 (HTM.out s hms) (by rw [HLF.out.2.2]; exact HINS.out)⟩
    have HDROP : zAa (l.drop k = s :: l.drop (k + 1)) := ⟨by
     have h1 := (List.getElem?_eq_some_iff.1 HSK.out)
     rw [List.drop_eq_getElem_cons h1.1, h1.2]⟩
    unfold WritePost opV at HWR
    unfold opCs at HWR HBX
    obtain ⟨kk, hkk⟩ : ∃ kk, (zCg s ds).2 = kk := ⟨_, rfl⟩
    have HKK := zAa.mk hkk
    rw [hkk] at HWR
    clear hsk hms hsb hats hkk
    go_wp2_with fail
    refine HWR.out.mono ?_
    rintro e w5 ⟨rfl, ht, hb⟩
    have HT5 := zAa.mk ht
    have HB5 : zAa (But u w4 w5) := ⟨HBU.out.trans ((But.of_below HBX.out (Nat.le_of_lt HTU.out.lt)).trans hb)⟩
    clear ht hb HWR p0 p1 p2 p3 p4 p5 p6 p7 p8 p9
    by_cases h0 : kk = 0
    ·subst h0
     go_wp2_with fail
     go_roundg (n - (k + 1))
     case measure => omega
     case rel =>
      refine ⟨k + 1, _, by omega, by omega, by go_num, HT5, HTW, ⟨?_⟩, HB5⟩
      rw [HBM.out, HDROP.out]
      conv => lhs; unfold zFj
      rw [if_pos HKK.out]
    ·have z0 : (kk == 0) = false := by simpa using h0
     have z1 : (kk != 0) = true := by simpa using h0
     have HNN : zAa (zFg a b o cs = (cs, kk, [], false)) := ⟨by
      have e1 : zFj l cs = zCg s ds := by
       rw [HBM.out, HDROP.out]
       conv => lhs; unfold zFj
       rw [if_neg (by rw [HKK.out]; exact h0)]
      rw [HAPB.out, e1, HKK.out, if_neg h0]⟩
     have HD5 := zAa.mk ((HB5.out.same g (by have := HU.out.2.1; omega) (zAj HD4.out)).trans HD4.out)
     have HBW5 : zAa (Below w.heap.size w w5) := ⟨HB4.out.trans (HB5.out.below.mono HU.out.1)⟩
     have f0 := zAd HD5.out 0
     have f1 := zAd HD5.out 1
     have f2 := zAd HD5.out 2
     have d0 := (zAc HD5.out 0).trans (rfl : _ = some (Value.int .i64 0))
     have d1 := (zAc HD5.out 1).trans (rfl : _ = some (Value.slice none 0 0))
     have d2 := (zAc HD5.out 2).trans (rfl : _ = some (Value.bool false))
     have hld := zAj HD5.out
     clear h0
     go_wp2_with fail
     have s3 := zFh HD5.out (.int .i64 kk) (.slice none 0 0) (.bool false)
     have e0 := (zAc s3 0).trans (rfl : _ = some (Value.int .i64 kk))
     have e1 := (zAc s3 1).trans (rfl : _ = some (Value.slice none 0 0))
     have e2 := (zAc s3 2).trans (rfl : _ = some (Value.bool false))
     refine bodyPost_ret (v := .agg #[.int .i64 kk, .slice none 0 0, .bool false]) (by simp [results, Tryz.results28, go_sem, e0, e1, e2]) rfl ?_
     exact resPost_no HNN.out (HT.out.1.keep (zCk HBW5.out HG.out.1 _ _ _)) (But.of_below (zCk HBW5.out HG.out.1 _ _ _) (Nat.le_of_lt HLP.out))
   ·have hltz : ¬ (k : Int) < (n : Int) := by omega
    obtain rfl : k = n := by omega
    have HNN : zAa (zFg a b o cs = (ds, 0, [], false)) := ⟨by
     have e1 : zFj l cs = (ds, 0) := by
      rw [HBM.out, List.drop_of_length_le (by rw [HN.out]; exact Nat.le_refl _)]
      rfl
     rw [HAPB.out, e1, if_pos rfl]⟩
    obtain ⟨t2, hq1, hq2⟩ := HTU.out.ex
    obtain ⟨pt2, hpt2⟩ := zBc t2
    obtain ⟨t1, hp1, _⟩ := (HT.out.1.keep HBW.out).ex
    obtain ⟨pt1, hpt1⟩ := zBc t1
    rw [hpt2] at hq1
    rw [hpt1] at hp1
    have HPP := zAa.mk hp1
    have HQQ := zAa.mk (And.intro hq2 hpt2)
    have u2 := (zAc hq1 2).trans (rfl : _ = some (Value.pointer pt2))
    have g2 := (zAc hp1 2).trans (rfl : _ = some (Value.pointer pt1))
    have k2 := zAd hp1 2
    have hlu := zAj hq1
    have hlp := zAj hp1
    have HDF := zAa.mk (zDj (p := ⟨p, 2, none⟩) HDR.out (Ne.symm HPG.out) (.pointer pt2))
    have f0 := zAd HDR.out 0
    have f1 := zAd HDR.out 1
    have f2 := zAd HDR.out 2
    have d0 := (zAc HDR.out 0).trans (rfl : _ = some (Value.int .i64 0))
    have d1 := (zAc HDR.out 1).trans (rfl : _ = some (Value.slice none 0 0))
    have d2 := (zAc HDR.out 2).trans (rfl : _ = some (Value.bool false))
    have hld := zAj HDR.out
    have dd0 := (zAc HDF.out 0).trans (rfl : _ = some (Value.int .i64 0))
    have dd1 := (zAc HDF.out 1).trans (rfl : _ = some (Value.slice none 0 0))
    have dd2 := (zAc HDF.out 2).trans (rfl : _ = some (Value.bool false))
    have ff0 := zAd HDF.out 0
    have ff1 := zAd HDF.out 1
    have ff2 := zAd HDF.out 2
    clear hq1 hq2 hpt2 hp1 hpt1
    go_wp2_with fail
    have hs1 := (zBh HPP.out 2 (.pointer pt2)).trans rfl
    have s3 := zFh HDF.out (.int .i64 0) (.slice none 0 0) (.bool false)
    have e0 := (zAc s3 0).trans (rfl : _ = some (Value.int .i64 0))
    have e1 := (zAc s3 1).trans (rfl : _ = some (Value.slice none 0 0))
    have e2 := (zAc s3 2).trans (rfl : _ = some (Value.bool false))
    refine bodyPost_ret (v := .agg #[.int .i64 0, .slice none 0 0, .bool false]) (by simp [results, Tryz.results28, go_sem, e0, e1, e2]) rfl ?_
    have hsame : ∀ j, j ≠ p → j ≠ g → ((((wr.setCell ⟨p, 2, none⟩ (.pointer pt2)).setCell ⟨g, 0, none⟩ (.int .i64 0)).setCell ⟨g, 1, none⟩ (.slice none 0 0)).setCell ⟨g, 2, none⟩ (.bool false)).heap[j]? = wr.heap[j]? := fun j h1 h2 => by
     rw [Below.heap_setCell _ _ _ j h2, Below.heap_setCell _ _ _ j h2, Below.heap_setCell _ _ _ j h2, Below.heap_setCell _ _ _ j h1]
    have hsz := HG.out.1
    have hpl := HLP.out
    refine resPost_no HNN.out ⟨HT.out.1.okp, t2, ?_, ?_⟩ ⟨?_, fun j hj hjl => ?_, ?_⟩
    ·rw [HQQ.out.2]
     exact zDj (p := ⟨g, 2, none⟩) (zDj (p := ⟨g, 1, none⟩) (zDj (p := ⟨g, 0, none⟩) hs1 HPG.out _) HPG.out _) HPG.out _
    ·exact (HQQ.out.1.step fun j hj _ => hsame j (fun e => HT.out.1.okp (e ▸ hj.1.1)) hj.1.2).mono fun j hj => hj.1.1
    ·exact zCk ((HBW.out.mono (Nat.le_of_lt hpl)).setCell (Nat.le_refl _) _) (by omega) _ _ _
    ·rw [hsame j hj (by omega)]
     exact HBW.out.block j hjl
    ·simp only [World.size_setCell]
     exact HBW.out.size
end Go.Proofs.YtpckachmleonlaaGreatDoor
end
section
set_option linter.unusedVariables false
set_option linter.unusedSimpArgs false
namespace Go.Proofs.YtpckachmleonlaaGreatDoor
open Go.RowKit Go.Proofs.YtpckachmleonlaaGreatDoorW.PrintWords
structure Fit (k : KeyM) : Prop where
  a : k.f0.size ≤ 140737488355328
  b : k.f1.size ≤ 140737488355328
  c : k.f2.size ≤ 140737488355328
end Go.Proofs.YtpckachmleonlaaGreatDoor
end
