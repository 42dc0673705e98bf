/- Words and walks for Split and Tablet: texts of these sessions, and of the kit's print, cut down to what is used (X Y). -/
import Derived.Test.YtpckachmleonlaaGreatDoorCv14
section
set_option linter.unusedVariables false
set_option linter.unusedSimpArgs false
namespace Go.Proofs.YtpckachmleonlaaGreatDoor
open Go.RowKit Go.Proofs.YtpckachmleonlaaGreatDoorW.PrintWords
theorem ine {a b : Int} (h : a ≠ b) : (a == b) = false := by rw [beq_eq_false_iff_ne]; exact h
theorem splice_take {α : Type} (cur ys : List α) (a m n s : Nat) (h1 : ys.length = m) (h2 : a ≤ n) (h3 : n + m ≤ cur.length) (hs : s = n + m) :
  (splice (splice cur (a + m) ((cur.take n).drop a)) a ys).take s = cur.take a ++ ys ++ (cur.take n).drop a := by
 subst hs
 have e1 : ((cur.take n).drop a).length = n - a := by simp; omega
 apply List.ext_getElem?
 intro i
 unfold splice
 rw [List.getElem?_take]
 by_cases hi : i < n + m
 ·rw [if_pos hi]
  by_cases h4 : i < a
  ·rw [List.getElem?_append_left (by simp; omega), List.append_assoc, List.getElem?_append_left (by simp; omega)]
   simp [List.getElem?_take, h4, List.getElem?_append, show i < a + m by omega]
   omega
  ·by_cases h5 : i < a + m
   ·rw [List.getElem?_append_right (by simp; omega), List.getElem?_append_left (by simp; omega), List.append_assoc, List.getElem?_append_right (by simp; omega), List.getElem?_append_left (by simp; omega)]
    congr 1
    simp
    omega
   ·rw [List.getElem?_append_right (by simp; omega), List.getElem?_append_right (by simp; omega), List.getElem?_drop, List.getElem?_append_right (by simp; omega), List.getElem?_append_left (by simp; omega), List.getElem?_append_right (by simp; omega)]
    congr 1
    simp
    omega
 ·rw [if_neg hi, List.getElem?_eq_none (by simp; omega)]
theorem sz47 : (Tryz.prog.info? 47).map (·.size) = some 1 := by
 obtain ⟨i0, hi, h0, h1, h2⟩ := info_parts info47
 rw [hi]
 simp [h1]
theorem sizeOf47 (w : World) : (Go.sizeOf 47).run Tryz.prog w = .ok 1 w := by
 obtain ⟨i0, hi, h0, h1, h2⟩ := info_parts info47
 simp [sizeOf, typeInfo, hi, h1]
theorem add_off (g o j : Nat) : (⟨g, o, none⟩ : Addr).add j = ⟨g, o + j, none⟩ := by unfold Addr.add; split <;> simp_all
structure InsIn (w : World) (base g n cap vb : Nat) (cur ys : List Value) : Prop where
 hg : w.heap[g]? = some (.cells cur.toArray 47 (0, 0))
 hcur : cur.length = cap
 hn : n ≤ cap
 hcap : cap ≤ maxLen
 hv : w.heap[vb]? = some (.cells ys.toArray 47 (0, 0))
 hys : ys.length = 1
 hne : vb ≠ g
 h1 : ∀ u ∈ cur.take (n), u.oneCell' = true
 h1y : ∀ u ∈ ys, u.oneCell' = true
 hbg : base ≤ g
 hbase : base ≤ w.heap.size
 hsz : n ≤ 1000
set_option maxHeartbeats 2000000 in
set_option maxRecDepth 100000 in
theorem insert_end (w : World) (base g n cap vb : Nat) (cur ys : List Value) (h : InsIn w base g n cap vb cur ys) :
  Calls Tryz.prog 162 #[.slice (some ⟨g, 0, none⟩) n cap, .int .i64 n, .slice (some ⟨vb, 0, none⟩) 1 1] w fun e w' => ∃ v', e = .returned v' ∧ w'.ownsRow base 47 1 v' (n + 1) (cur.take (n) ++ ys) ∧ Below base w w' ∧ ∀ j, j < w.heap.size → j ≠ g → w'.heap[j]? = w.heap[j]? := by
 have H := zAa.mk h
 have hsz := h.hsz
 have hn := h.hn
 have hcap := h.hcap
 clear h
 unfold maxLen at hcap
 obtain ⟨i0, hi0, hz0, hz1, hz2⟩ := info_parts info47
 have hown : zAa (w.ownsRow base 47 1 (.slice (some ⟨g, 0, none⟩) n cap) n (cur.take (n))) := ⟨by
  refine ⟨by rw [List.length_take, H.out.hcur]; have := hn; omega, .inr ⟨g, cap, cur.toArray, rfl, H.out.hbg, H.out.hg, hn, H.out.hcap, by simpa using H.out.hcur, by simp⟩⟩⟩
 have hI := zAa.mk hi0
 have hZ0 := zAa.mk hz0
 have hZ1 := zAa.mk hz1
 have hZ2 := zAa.mk hz2
 clear hi0 hz0 hz1 hz2
 go_enter Tryz.func162, Tryz.ntmps162
 go_wp2_with (at_builtin; refine wpList_append_own_at w rfl (.tmp 23) (.tmp 24) 104 rfl base 47 i0 _ 1 24 Tryz.underlying104 hI.out hZ0.out hZ1.out hZ2.out rfl (by omega) (.slice (some ⟨g, 0, none⟩) n cap) n (cur.take (n)) rfl hown.out ⟨vb, 0, none⟩ 1 1 ys rfl (by rw [H.out.hys]) (fun j u hu => by rw [add_off, Nat.zero_add, zAc H.out.hv]; simpa using hu) H.out.h1y (by unfold maxLen; omega) (by omega) H.out.hbase ?_; intro v1 w1 ho hg1 _ _; have HO := zAa.mk ho; have HG := zAa.mk hg1; clear ho hg1)
 all_goals
  go_ret
  exact ⟨_, rfl, HO.out, (Below.refl _ _).grown HG.out H.out.hbase (fun k hk => by
   have e : g = k := by injection hk
   have := H.out.hbg
   omega), fun j hj hne => HG.out.block j hj (fun e => hne (by injection e))⟩
theorem overlaps_no {w : World} {base g n cap vb : Nat} {cur ys : List Value} (h : InsIn w base g n cap vb cur ys) (hpos : 0 < cap) (off lb cb : Nat) :
  (callFunc 171 #[.slice (some ⟨vb, 0, none⟩) 1 1, .slice (some ⟨g, off, none⟩) lb cb]).run Tryz.prog w = .ok (.value (.bool false)) w := by
 rw [run_callFunc_extern Tryz.func171 (by kernel_rfl) (by kernel_rfl) (by kernel_rfl) (e := Extern.SlicesOverlaps.overlaps #[104, 104] #[4]) (by kernel_rfl),
  Lib.run_overlaps_apart w 104 4 47 Tryz.underlying104 1 sizeOf47 ⟨vb, 0, none⟩ ⟨g, off, none⟩ 1 1 lb cb h.hne 47 47 ys.toArray.size cur.toArray.size (by simp [World.shape?, h.hv]) (by simp [World.shape?, h.hg]) (by have := h.hcur; simpa using (by omega : cur.length ≠ 0))
   (zAd h.hv 0) (by have := zAd h.hv ys.toArray.size; exact this)]
 rfl
set_option maxHeartbeats 4000000 in
set_option maxRecDepth 100000 in
theorem insert_room (w : World) (base g n cap vb k : Nat) (cur ys : List Value) (h : InsIn w base g n cap vb cur ys) (hk : k < n) (hroom : n + 1 ≤ cap) :
  Calls Tryz.prog 162 #[.slice (some ⟨g, 0, none⟩) n cap, .int .i64 k, .slice (some ⟨vb, 0, none⟩) 1 1] w fun e w' => ∃ v', e = .returned v' ∧ w'.ownsRow base 47 1 v' (n + 1) (cur.take (k) ++ ys ++ (cur.take (n)).drop (k)) ∧ Below base w w' ∧ ∀ j, j < w.heap.size → j ≠ g → w'.heap[j]? = w.heap[j]? := by
 have H := zAa.mk h
 have hsz := h.hsz
 have hn := h.hn
 have hcap := h.hcap
 clear h
 unfold maxLen at hcap
 have hov := fun off lb cb => overlaps_no H.out (by omega) off lb cb
 have e1 : ((k : Int) == (n : Int)) = false := ine (by omega)
 have e2 : decide ((cap : Int) < (n : Int) + 1) = false := df (by omega)
 have hw1 : IntKind.i64.wrap ((k : Int) + 1) = (k : Int) + 1 := by rw [IntKind.wrap_i64]; omega
 have hb1 : (0 : Int) ≤ (k : Int) + 1 := by omega
 have htn : ((k : Int) + 1).toNat = k + 1 := by omega
 have hb2 : ¬ (cap = k + 1) := by omega
 have hb3 : (k : Int) ≤ (n : Int) := by omega
 have hb3' : (k : Int) + 1 ≤ (n : Int) + 1 := by omega
 have hb3'' : (k : Int) ≤ (n : Int) + 1 := by omega
 have hb4 : ¬ (cap = k) := by omega
 go_enter Tryz.func162, Tryz.ntmps162
 go_wp2_with (simp only [hov])
 go_still_tail 8, (by kernel_rfl)
 change wpList _ _ _ _ _ w.drew
 have hcn := H.out.hcur
 have hys := H.out.hys
 have hm : Nat.min (n + 1 - k) (n - k) = n - k := Nat.min_eq_right (by omega)
 have hm2 : Nat.min 1 (n + 1 - k) = 1 := Nat.min_eq_left (by omega)
 have HY := zAa.mk hys
 have HC := zAa.mk hcn
 have HM := zAa.mk hm
 have HM2 := zAa.mk hm2
 clear hcn hys hm hm2 hw1 htn hov
 refine wpList_copy_run _ rfl (.tmp 73) (.tmp 76) 104 104 rfl _ _ rfl rfl (zBi w.drew 104 104 _ 47 1 Tryz.underlying104 sz47 g ((k + 1)) (n - k) _ ⟨g, k, none⟩ (n + 1 - k) _ ((cur.take (n)).drop (k)) cur 47 H.out.hg ?hn ?hsrc ?hfit ?h1) ?_
 case hn => rw [HM.out, List.length_drop, List.length_take, HC.out]; have := hn; omega
 case hsrc =>
  intro j v hj
  rw [add_off, show w.drew.cell? ⟨g, k + j, none⟩ = cur.toArray[k + j]? from zAc H.out.hg _]
  rw [List.getElem?_drop, List.getElem?_take] at hj
  split at hj
  ·simpa using hj
  ·cases hj
 case hfit => rw [List.length_drop, List.length_take, HC.out]; omega
 case h1 => exact fun u hu => H.out.h1 u (List.mem_of_mem_drop hu)
 obtain ⟨W1, hW1⟩ : ∃ W1, W1 = w.drew.setCells g ((k + 1)) ((cur.take (n)).drop (k)) := ⟨_, rfl⟩
 rw [← hW1]
 have HW := zAa.mk hW1
 clear hW1
 have hL : ((cur.take (n)).drop (k)).length = n - k := by rw [List.length_drop, List.length_take, HC.out]; have := hn; omega
 have hL2 : (k + 1) + ((cur.take (n)).drop (k)).length ≤ cur.length := by rw [hL, HC.out]; omega
 have HG1 : zAa (W1.heap[g]? = some (.cells (splice cur ((k + 1)) ((cur.take (n)).drop (k))).toArray 47 (0, 0))) := ⟨by rw [HW.out]; exact zCc (w := w.drew) H.out.hg hL2⟩
 have HV1 : zAa (W1.heap[vb]? = some (.cells ys.toArray 47 (0, 0))) := ⟨by rw [HW.out, setCells_far _ _ _ H.out.hne]; exact H.out.hv⟩
 have hsl : (splice cur ((k + 1)) ((cur.take (n)).drop (k))).length = cap := by rw [length_splice _ _ _ hL2, HC.out]
 have HC2 : zAa (∀ ty dc, (Builtin.copy_ #[104, 104] ty #[.slice (some ⟨g, k, none⟩) (n + 1 - k) dc, .slice (some ⟨vb, 0, none⟩) 1 1]).run Tryz.prog W1 = .ok (goInt (Nat.min 1 (n + 1 - k))) (W1.setCells g (k) ys)) := ⟨fun ty dc =>
  zBi W1 104 104 ty 47 1 Tryz.underlying104 sz47 g (k) (n + 1 - k) dc ⟨vb, 0, none⟩ 1 1 ys (splice cur ((k + 1)) ((cur.take (n)).drop (k))) 47 HG1.out (by rw [HM2.out, HY.out])
   (fun j v hj => by rw [add_off, Nat.zero_add, zAc HV1.out]; simpa using hj) (by rw [hsl, HY.out]; omega) H.out.h1y⟩
 have HSL := zAa.mk hsl
 have HL2 := zAa.mk hL2
 clear hL hsl hL2
 go_wp2_with (with_reducible refine wpList_copy_run W1 rfl (.tmp 80) (.tmp 81) 104 104 rfl _ _ rfl rfl (HC2.out _ _) ?_)
 go_ret
 have hb := zAa.mk (zBk (cs := ys) (off := k) (show Below base w W1 by rw [HW.out]; exact zBk (w := w.drew) (Below.refl base w).drew H.out.hbg) H.out.hbg)
 have hr := zCc (off := k) (cs := ys) HG1.out (by rw [HSL.out, HY.out]; omega)
 have h3 : (splice (splice cur ((k + 1)) ((cur.take (n)).drop (k))) (k) ys).length = cap := by rw [length_splice _ _ _ (by rw [HSL.out, HY.out]; omega), HSL.out]
 have h4 : (splice (splice cur ((k + 1)) ((cur.take (n)).drop (k))) (k) ys).take ((n + 1)) = cur.take (k) ++ ys ++ (cur.take (n)).drop (k) := by
  exact splice_take cur ys (k) 1 (n) _ HY.out (by omega) (by rw [HC.out]; omega) (by omega)
 refine ⟨_, rfl, ⟨?_, .inr ⟨g, cap, _, rfl, H.out.hbg, hr, hroom, H.out.hcap, by simpa using h3, by simpa using h4⟩⟩, hb.out, fun j hj hne => (setCells_far _ _ _ hne).trans (by rw [HW.out]; exact setCells_far (w := w.drew) _ _ _ hne)⟩
 rw [← h4, List.length_take, h3]
 omega
theorem zeroCells_length (z : Value) (n s : Nat) (hz : z.cells.size = s) : (Builtin.zeroCells z.cells n).toList.length = n * s := by
 rw [Array.length_toList, size_zeroCells, hz]
set_option maxHeartbeats 4000000 in
set_option maxRecDepth 100000 in
theorem insert_grow (w : World) (base g n cap vb k : Nat) (cur ys : List Value) (h : InsIn w base g n cap vb cur ys) (hk : k < n) (hroom : cap < n + 1) :
  Calls Tryz.prog 162 #[.slice (some ⟨g, 0, none⟩) n cap, .int .i64 k, .slice (some ⟨vb, 0, none⟩) 1 1] w fun e w' => ∃ v', e = .returned v' ∧ w'.ownsRow base 47 1 v' (n + 1) (cur.take (k) ++ ys ++ (cur.take (n)).drop (k)) ∧ Below base w w' ∧ ∀ j, j < w.heap.size → j ≠ g → w'.heap[j]? = w.heap[j]? := by
 have H := zAa.mk h
 have hsz := h.hsz
 have hn := h.hn
 obtain rfl : cap = n := by omega
 clear h
 have hcn := H.out.hcur
 have hgl : g < w.heap.size := zAj H.out.hg
 have hvl : vb < w.heap.size := zAj H.out.hv
 obtain ⟨i0, hi0, hz0, hz1, hz2⟩ := info_parts info47
 have hold : (Builtin.firstCells i0.size k (.slice (some ⟨g, 0, none⟩) k cap)).run Tryz.prog w.drew = .ok (cur.take (k)).toArray w.drew := by
  rw [hz1]
  exact run_firstCells_some w.drew 1 k ⟨g, 0, none⟩ k cap (cur.take (k)) (by rw [List.length_take, hcn]; omega) (fun j v hj => by
   rw [add_off, Nat.zero_add, show w.drew.cell? ⟨g, j, none⟩ = cur.toArray[j]? from zAc H.out.hg _]
   rw [List.getElem?_take] at hj
   split at hj
   ·simpa using hj
   ·cases hj)
 have hik : k + (cap + 1 - k) = cap + 1 := by omega
 have hrz := fun ty => Lib.run_append_grow_zeros w 104 3 ty 47 i0 _ .i64 .i64 Tryz.underlying104 Tryz.underlying3 hi0 hz0 (some ⟨g, 0, none⟩) k cap (cur.take (k)) hold (cap + 1 - k) (by omega) (by omega) (by omega) (by omega) (by rw [hz2]; omega) (by rw [hz2, hik]; exact growslice_fits (by omega) (by omega))
 rw [hik] at hrz
 obtain ⟨C, hC⟩ : ∃ C, C = grownCap w (cap + 1) cap 47 := ⟨_, rfl⟩
 obtain ⟨R, hR⟩ : ∃ R : List Value, R = cur.take (k) ++ (Builtin.zeroCells (Value.slice none 0 0).cells (cap + 1 - k)).toList ++ (Builtin.zeroCells (Value.slice none 0 0).cells (C - (cap + 1))).toList := ⟨_, rfl⟩
 have hC1 : cap + 1 ≤ C := by rw [hC]; exact grownCap_ge w (cap + 1) cap 47
 have hC2 : C ≤ maxLen := by rw [hC]; exact grownCap_le_maxLen w (cap + 1) cap 47 (by unfold maxLen; omega)
 have hRl : R.length = C := by
  rw [hR, List.length_append, List.length_append, zeroCells_length _ _ 1 rfl, zeroCells_length _ _ 1 rfl, List.length_take, hcn]
  omega
 have hRt : R.take (k) = cur.take (k) := by
  rw [hR, List.append_assoc, List.take_left' (by rw [List.length_take, hcn]; omega)]
 have hRA : (cur.take (k)).toArray ++ Builtin.zeroCells (Value.slice none 0 0).cells (cap + 1 - k) ++ Builtin.zeroCells (Value.slice none 0 0).cells (C - (cap + 1)) = R.toArray := by
  rw [hR]
  apply Array.ext'
  simp
 rw [← hC, hRA] at hrz
 have hkk : ((cap : Int) + 1 - (k : Int)) = ((cap + 1 - k : Nat) : Int) := by omega
 have hrz' : ∀ ty, (Builtin.append_ #[104, 3] ty #[.slice (some ⟨g, 0, none⟩) k cap, .int .i64 ((cap : Int) + 1 - (k : Int))]).run Tryz.prog w = .ok (.slice (some ⟨w.heap.size, 0, none⟩) (cap + 1) C) (w.drew.alloc (.cells R.toArray 47)) := fun ty => by rw [hkk]; exact hrz ty
 have HRZ := zAa.mk hrz'
 have HC := zAa.mk hC
 have HR := zAa.mk hR
 have HRL := zAa.mk hRl
 have HRT := zAa.mk hRt
 have HCN := zAa.mk hcn
 have HC2 := zAa.mk hC2
 clear hrz hrz' hold hC hR hRA hRl hRt hkk hik hi0 hz0 hz1 hz2 hcn
 obtain ⟨W0, hW0⟩ : ∃ W0, W0 = w.drew.alloc (.cells R.toArray 47) := ⟨_, rfl⟩
 have HW0 := zAa.mk hW0
 have HG0 : zAa (W0.heap[w.heap.size]? = some (.cells R.toArray 47 (0, 0))) := ⟨by rw [hW0]; exact heap_alloc_new w.drew _⟩
 have HB0 : zAa (Below w.heap.size w W0) := ⟨by rw [hW0]; exact (Below.refl w.heap.size w).drew.alloc (Nat.le_refl _) _⟩
 rw [← hW0] at HRZ
 clear hW0
 have HV0 : zAa (W0.heap[vb]? = some (.cells ys.toArray 47 (0, 0))) := ⟨(HB0.out.block vb hvl).trans H.out.hv⟩
 have hm2 : Nat.min 1 (cap + 1 - k) = 1 := Nat.min_eq_left (by omega)
 have HM2 := zAa.mk hm2
 clear hm2
 have HCA : zAa (∀ ty dc, (Builtin.copy_ #[104, 104] ty #[.slice (some ⟨w.heap.size, k, none⟩) (cap + 1 - k) dc, .slice (some ⟨vb, 0, none⟩) 1 1]).run Tryz.prog W0 = .ok (goInt (Nat.min 1 (cap + 1 - k))) (W0.setCells w.heap.size (k) ys)) := ⟨fun ty dc =>
  zBi W0 104 104 ty 47 1 Tryz.underlying104 sz47 w.heap.size (k) (cap + 1 - k) dc ⟨vb, 0, none⟩ 1 1 ys R 47 HG0.out (by rw [HM2.out, H.out.hys])
   (fun j v hj => by rw [add_off, Nat.zero_add, zAc HV0.out]; simpa using hj) (by rw [HRL.out, H.out.hys]; omega) H.out.h1y⟩
 obtain ⟨W1, hW1⟩ : ∃ W1, W1 = W0.setCells w.heap.size (k) ys := ⟨_, rfl⟩
 have HW1 := zAa.mk hW1
 have HG1 : zAa (W1.heap[w.heap.size]? = some (.cells (splice R (k) ys).toArray 47 (0, 0))) := ⟨by rw [hW1]; exact zCc HG0.out (by rw [HRL.out, H.out.hys]; omega)⟩
 have HB1 : zAa (Below w.heap.size w W1) := ⟨by rw [hW1]; exact zBk HB0.out (Nat.le_refl _)⟩
 rw [← hW1] at HCA
 clear hW1
 have e1 : ((k : Int) == (cap : Int)) = false := ine (by omega)
 have e2 : decide ((cap : Int) < (cap : Int) + 1) = true := dt (by omega)
 have hw1 : IntKind.i64.wrap ((k : Int) + 1) = (k : Int) + 1 := by rw [IntKind.wrap_i64]; omega
 have hb1 : (0 : Int) ≤ (k : Int) + 1 := by omega
 have htn : ((k : Int) + 1).toNat = k + 1 := by omega
 have hb2 : ¬ (C = k + 1) := by omega
 have hb3 : (k : Int) ≤ (cap : Int) := by omega
 have hb3' : (k : Int) + 1 ≤ (cap : Int) + 1 := by omega
 have hb3'' : (k : Int) ≤ (cap : Int) + 1 := by omega
 have hb4 : ¬ (cap = k) := by omega
 have hb5 : ¬ (C = k) := by omega
 go_enter Tryz.func162, Tryz.ntmps162
 go_wp2_with (first | (at_builtin; refine Lib.wpList_append_run w rfl (.tmp 34) (.tmp 39) 104 3 rfl _ _ rfl rfl _ _ (HRZ.out _) ?_) | (with_reducible refine wpList_copy_run W0 rfl (.tmp 43) (.tmp 44) 104 104 rfl _ _ rfl rfl (HCA.out _ _) ?_))
 go_still_tail 8, (by kernel_rfl)
 change wpList _ _ _ _ _ W1.drew
 have hm : Nat.min (cap - k) (cap - k) = cap - k := Nat.min_self _
 have HM := zAa.mk hm
 have hL : ((cur.take (cap)).drop (k)).length = cap - k := by rw [List.length_drop, List.length_take, HCN.out]; omega
 have hsp1 : (splice R (k) ys).length = C := by rw [length_splice _ _ _ (by rw [HRL.out, H.out.hys]; omega), HRL.out]
 have HGg : zAa (W1.heap[g]? = some (.cells cur.toArray 47 (0, 0))) := ⟨(HB1.out.block g hgl).trans H.out.hg⟩
 refine wpList_copy_run _ rfl (.tmp 50) (.tmp 53) 104 104 rfl _ _ rfl rfl (zBi W1.drew 104 104 _ 47 1 Tryz.underlying104 sz47 w.heap.size ((k + 1)) (cap - k) _ ⟨g, k, none⟩ (cap - k) _ ((cur.take (cap)).drop (k)) (splice R (k) ys) 47 HG1.out ?hn ?hsrc ?hfit ?h1) ?_
 case hn => rw [HM.out, hL]; omega
 case hsrc =>
  intro j v hj
  rw [add_off, show W1.drew.cell? ⟨g, k + j, none⟩ = cur.toArray[k + j]? from zAc HGg.out _]
  rw [List.getElem?_drop, List.getElem?_take] at hj
  split at hj
  ·simpa using hj
  ·cases hj
 case hfit => rw [hL, hsp1]; omega
 case h1 => exact fun u hu => H.out.h1 u (List.mem_of_mem_drop hu)
 clear hw1 htn
 go_wp2_with fail
 go_ret
 have hys := H.out.hys
 have hfit : (k + 1) + ((cur.take (cap)).drop (k)).length ≤ (splice R (k) ys).length := by rw [hL, hsp1]; omega
 have hr := zCc (w := W1.drew) (off := (k + 1)) (cs := (cur.take (cap)).drop (k)) HG1.out hfit
 have hb := zBk (w := W1.drew) (off := (k + 1)) (cs := (cur.take (cap)).drop (k)) HB1.out.drew (Nat.le_refl _)
 have h3 : (splice (splice R (k) ys) ((k + 1)) ((cur.take (cap)).drop (k))).length = C := by rw [length_splice _ _ _ hfit, hsp1]
 have h4 : (splice (splice R (k) ys) ((k + 1)) ((cur.take (cap)).drop (k))).take ((cap + 1)) = cur.take (k) ++ ys ++ (cur.take (cap)).drop (k) := by
  have e1 : (splice R (k) ys).take ((k + 1)) = cur.take (k) ++ ys := by
   unfold splice
   rw [← List.append_assoc, List.take_left' (by rw [List.length_append, List.length_take, HRL.out, hys]; omega), HRT.out]
  unfold splice at e1 ⊢
  rw [e1, ← List.append_assoc, List.take_left' (by rw [List.length_append, List.length_append, List.length_take, hL, hys, HCN.out]; omega)]
 refine ⟨_, rfl, ⟨?_, .inr ⟨w.heap.size, C, _, rfl, H.out.hbase, hr, hC1, HC2.out, by simpa using h3, by simpa using h4⟩⟩, hb.mono H.out.hbase, fun j hj _ => hb.block j hj⟩
 rw [← h4, List.length_take, h3]
 omega
theorem insert_any (w : World) (base g n cap vb k : Nat) (cur ys : List Value) (h : InsIn w base g n cap vb cur ys) (hk : k ≤ n) :
  Calls Tryz.prog 162 #[.slice (some ⟨g, 0, none⟩) n cap, .int .i64 k, .slice (some ⟨vb, 0, none⟩) 1 1] w fun e w' => ∃ v', e = .returned v' ∧ w'.ownsRow base 47 1 v' (n + 1) (cur.take (k) ++ ys ++ (cur.take (n)).drop (k)) ∧ Below base w w' ∧ ∀ j, j < w.heap.size → j ≠ g → w'.heap[j]? = w.heap[j]? := by
 rcases Nat.lt_or_ge k n with h1 | h1
 ·rcases Nat.lt_or_ge cap (n + 1) with h2 | h2
  ·exact insert_grow w base g n cap vb k cur ys h h1 h2
  ·exact insert_room w base g n cap vb k cur ys h h1 h2
 ·obtain rfl : k = n := by omega
  rw [List.drop_eq_nil_of_le (by rw [List.length_take]; omega), List.append_nil]
  exact insert_end w base g k cap vb cur ys h
theorem encs_map {α : Type} (enc : α → Value) (xs : List α) : encs enc xs = xs.map enc := by
 apply List.ext_getElem?
 intro i
 simp [encs]
theorem insertS_any (w : World) (base : Nat) (A : Option Addr) (n c k β : Nat) (xs : List Hd) (y : Hd) (h : Kd.R kS 47 w base (fun _ => True) (.slice A n c) xs) (hn : xs.length = n) (hpos : 0 < n) (hb : base ≤ w.heap.size) (hv : w.heap[β]? = some (.cells #[y.v] 47 (0, 0))) (hne : some β ≠ (Value.slice A n c).ownBlock) (hk : k ≤ n) (hl : n ≤ 1000) :
  Calls Tryz.prog 162 #[.slice A n c, .int .i64 k, .slice (some ⟨β, 0, none⟩) 1 1] w fun e w' => ∃ A' c', e = .returned (.slice A' (n + 1) c') ∧ Kd.R kS 47 w' base (fun _ => True) (.slice A' (n + 1) c') (xs.take k ++ y :: xs.drop k) ∧ Below base w w' ∧ ∀ j, j < w.heap.size → some j ≠ (Value.slice A n c).ownBlock → w'.heap[j]? = w.heap[j]? := by
 have ho := Kd.own_of_R h
 rw [encs_map, hn] at ho
 rcases ho.2 with ⟨h0, _⟩ | ⟨g, cap, cur, hve, h1, h2, h3, h4, h5, h6⟩
 ·injection h0 with _ h0 _
  omega
 ·injection hve with ha _ hc
  subst ha hc
  have hob : (Value.slice (some ⟨g, 0, none⟩) n c).ownBlock = some g := rfl
  have hin : InsIn w base g n c β cur.toList [y.v] := ⟨by simpa using h2, by simpa using h5, h3, h4, by simpa using hv, rfl, fun e => hne (by rw [hob, e]), fun u hu => by
   rw [show n = n * 1 from (Nat.mul_one n).symm, h6] at hu
   obtain ⟨x, _, rfl⟩ := List.mem_map.1 hu
   rfl, fun u hu => by rw [List.mem_singleton.1 hu]; rfl, h1, hb, hl⟩
  refine (insert_any w base g n c β k cur.toList [y.v] hin hk).mono ?_
  rintro e w' ⟨v', rfl, hw, hbw, hsm⟩
  have e6 : cur.toList.take n = xs.map Hd.v := by rw [show n = n * 1 from (Nat.mul_one n).symm]; exact h6
  have e7 : cur.toList.take k ++ [y.v] ++ (cur.toList.take n).drop k = (xs.take k ++ y :: xs.drop k).map Hd.v := by
   rw [e6, show cur.toList.take k = (cur.toList.take n).take k by rw [List.take_take, Nat.min_eq_left hk], e6]
   simp [List.map_take, List.map_drop]
  rw [e7] at hw
  have hR : Kd.R kS 47 w' base (fun _ => True) v' (xs.take k ++ y :: xs.drop k) := Kd.R_of_own (by rw [encs_map]; have e8 : (xs.take k ++ y :: xs.drop k).length = n + 1 := (by simp; omega); rw [e8]; exact hw) (fun _ _ => trivial)
  obtain ⟨A', c', e9⟩ := Kd.zAk hR
  have e8 : (xs.take k ++ y :: xs.drop k).length = n + 1 := by simp; omega
  rw [e8] at e9
  subst e9
  exact ⟨A', c', rfl, hR, hbw, fun j hj hjn => hsm j hj (fun e => hjn (by rw [hob, e]))⟩
end Go.Proofs.YtpckachmleonlaaGreatDoor
end
section
set_option linter.unusedVariables false
set_option linter.unusedSimpArgs false
namespace Go.Proofs.YtpckachmleonlaaGreatDoor
open Go.RowKit Go.Proofs.YtpckachmleonlaaGreatDoorW.PrintWords
structure OwnAt (w : World) (base g n cap : Nat) (cur : List Value) : Prop where
  hg : w.heap[g]? = some (.cells cur.toArray 47 (0, 0))
  hcur : cur.length = cap
  hn : n ≤ cap
  hcap : cap ≤ maxLen
  hbg : base ≤ g
theorem own_some {w : World} {base g n c : Nat} {xs : List Value} (h : w.ownsRow base 47 1 (.slice (some ⟨g, 0, none⟩) n c) n xs) : ∃ cur, OwnAt w base g n c cur ∧ cur.take (n) = xs := by
  rcases h.2 with ⟨h0, _⟩ | ⟨g', cap, cur, hv, h1, h2, h3, h4, h5, h6⟩
  · cases h0
  · injection hv with ha _ hc
    injection ha with ha
    injection ha with hg
    subst hg; subst hc
    exact ⟨cur.toList, ⟨by simpa using h2, by simpa using h5, h3, h4, h1⟩, by simpa using h6⟩
theorem R_mk' {w : World} {base n : Nat} {v : Value} {xs : List Hd} (h : n = xs.length) (ho : w.ownsRow base 47 1 v n (encs Hd.v xs)) : Kd.R kS 47 w base (fun _ => True) v xs := by
  subst h
  exact Kd.R_of_own ho (fun _ _ => trivial)
def zero1 : List Value := [.slice none 0 0]
theorem run_clear1 (w : World) (ty : TypeId) (g off c : Nat) (cur : List Value) (hg : w.heap[g]? = some (.cells cur.toArray 47 (0, 0))) (hfit : off + 1 ≤ cur.length) :
    (Builtin.clear_ #[104] ty #[.slice (some ⟨g, off, none⟩) 1 c]).run Tryz.prog w = .ok (.tuple #[]) (w.setCells g off zero1) := by
  obtain ⟨i0, hi, hz, _, _⟩ := info_parts info47
  have h3 : (Builtin.zeroCells (Value.slice none 0 0).cells 1).toList = zero1 := by
    unfold Builtin.zeroCells
    rw [Array.toList_map, Array.toList_range]
    rfl
  have hst := run_storeCells_cells (P := Tryz.prog) g off zero1 0 w (fun j hj => by
      rw [cell_of_row w g _ _ 47 (0, 0) hg]
      have : j < 1 := hj
      simp; omega) (fun j _ => zAd hg _) (by intro u hu; simp only [zero1, List.mem_cons, List.not_mem_nil, or_false] at hu; rcases hu with rfl | rfl | rfl <;> rfl)
  simp only [Nat.add_zero] at hst
  simp [Builtin.clear_, run_underlying Tryz.underlying104, zeroValue, typeInfo, hi, hz, h3, hst]
section
variable {P : Program}
theorem wpList_clear_run (w : World) {ops : Array Oper} {rest : List Oper} {o : Oper} {a : Act} {Q : Exit → Act → World → Prop} (hgd : o.guard = none) (s : Operand) (t : TypeId)
    (ho : o.op = .call { callee := .builtin .clear, args := #[s], argTypes := #[t] }) (u : Value) (hs : a.eval s = u) {v' : Value} {w' : World}
    (hr : (Builtin.clear_ #[t] o.type #[u]).run P w = .ok v' w') (h : wpList P ops Q rest (a.put o.dst v') w') : wpList P ops Q (o :: rest) a w := by
  refine wpList_plain hgd fun _ hK => ?_
  unfold Oper.wp execOp
  simp only [ho, resolve, invoke, builtin, Sem.run_bind, Sem.run_pure, Result.andThen_ok, List.map_toArray, List.map_cons, List.map_nil, hs, hr]
  exact hK _ _ h
end
set_option maxHeartbeats 4000000 in
set_option maxRecDepth 100000 in
theorem delete_any (w : World) (base g n c k : Nat) (K : Int) (hK : K = (k : Int) + 1) (xs : List Hd) (h : Kd.R kS 47 w base (fun _ => True) (.slice (some ⟨g, 0, none⟩) n c) xs) (hk : k < n) (hn : n ≤ 1000) (hb : base ≤ w.heap.size) :
    Calls Tryz.prog 167 #[.slice (some ⟨g, 0, none⟩) n c, .int .i64 k, .int .i64 K] w fun e w' => ∃ v, e = .returned v ∧ Kd.R kS 47 w' base (fun _ => True) v (xs.eraseIdx k) ∧ Below base w w' := by
  have HO := zAa.mk h
  obtain ⟨hlen, hnc, _⟩ := Kd.zEe h
  have HL := zAa.mk hlen
  clear h hlen
  obtain ⟨m, rfl⟩ : ∃ m, n = m + 1 := ⟨n - 1, by omega⟩
  have f5 : (k : Int) ≤ (m : Int) := by omega
  have hw1 : ((k : Int) + 1).toNat = k + 1 := by omega
  have e1 : ((k : Int) == (k : Int) + 1) = false := by simp; omega
  have q0 : (k : Int) + 1 ≤ (m : Int) + 1 := by omega
  have q1 : (0 : Int) ≤ (k : Int) + 1 := by omega
  have q2 : (k : Int) ≤ (c : Int) := by omega
  have q3 : (k : Int) ≤ (m : Int) + 1 := by omega
  have q4 : (k : Int) + 1 ≤ (c : Int) := by omega
  subst hK
  have f0 : (m : Int) ≤ (m : Int) + 1 := by omega
  have f1 : (m : Int) + 1 ≤ (c : Int) := by omega
  have f2 : ¬ c - m = 0 := by omega
  have f3 : (m : Int) ≤ (c : Int) := by omega
  have f4 : m + 1 - m = 1 := by omega
  by_cases hck : c = k + 1
  · obtain rfl : m = k := by omega
    subst hck
    clear f5 q2 q3
    go_enter Tryz.func167, Tryz.ntmps167
    go_wp2_with fail
    go_region_held3 (fun w' => True) (trivial)
      ((refine Kd.R_delete_step kS (w0 := w) base (by rfl) (.tmp 22) (.tmp 25) 104 47 rfl Tryz.underlying104 sz47 (g := g) (n := m + 1) (c := (m + 1)) (k := m) (xs := xs) (ok := fun _ => True) rfl rfl ?aA (by omega) (Kd.zGd HO.out) hk (zAh (Below.refl _ _)) hb ?_; (case aA => rw [if_pos rfl]); intro w1 ho hb1 hg1))
    rw [Nat.add_sub_cancel] at ho ⊢
    have HO1 := zAa.mk ho
    have HB1 := zAa.mk hb1
    obtain ⟨hl1, _, _⟩ := Kd.zEe ho
    have HL1 := zAa.mk hl1
    obtain ⟨cur, how, htk⟩ := own_some (by have := Kd.own_of_R ho; rwa [← hl1] at this)
    have hcl := how.hcur
    have HW := zAa.mk how
    have HT := zAa.mk htk
    clear ho hb1 hg1 hl1 how htk
    go_wp2_with (with_reducible refine wpList_clear_run w1 rfl (.tmp 31) 104 rfl _ rfl (run_clear1 w1 _ g (m) _ cur HW.out.hg (by omega)) ?_)
    go_ret
    refine ⟨_, rfl, R_mk' HL1.out ⟨?_, .inr ⟨g, _, _, rfl, HW.out.hbg, zCc HW.out.hg (by rw [hcl]; change _ + 1 ≤ _; omega), HW.out.hn, HW.out.hcap, ?_, ?_⟩⟩, zBk HB1.out HW.out.hbg⟩
    · rw [encs_length, ← HL1.out, Nat.mul_one]
    · rw [List.size_toArray, length_splice _ _ _ (by rw [hcl]; change _ + 1 ≤ _; omega), hcl, Nat.mul_one]
    · rw [List.toList_toArray, ← HT.out]
      unfold splice
      rw [Nat.mul_one, List.take_left' (by rw [List.length_take, hcl]; omega)]
  · skip
    go_enter Tryz.func167, Tryz.ntmps167
    go_wp2_with fail
    go_region_held3 (fun w' => True) (trivial)
      ((refine Kd.R_delete_step kS (w0 := w) base (by rfl) (.tmp 22) (.tmp 25) 104 47 rfl Tryz.underlying104 sz47 (g := g) (n := m + 1) (c := c) (k := k) (xs := xs) (ok := fun _ => True) rfl rfl ?aA (by omega) (Kd.zGd HO.out) hk (zAh (Below.refl _ _)) hb ?_; (case aA => rw [if_neg hck, Option.map_some, show (k + 1) * Kd.sz kS = k + 1 from Nat.mul_one _, add_off, Nat.zero_add]); intro w1 ho hb1 hg1))
    rw [Nat.add_sub_cancel] at ho ⊢
    have HO1 := zAa.mk ho
    have HB1 := zAa.mk hb1
    obtain ⟨hl1, _, _⟩ := Kd.zEe ho
    have HL1 := zAa.mk hl1
    obtain ⟨cur, how, htk⟩ := own_some (by have := Kd.own_of_R ho; rwa [← hl1] at this)
    have hcl := how.hcur
    have HW := zAa.mk how
    have HT := zAa.mk htk
    clear ho hb1 hg1 hl1 how htk
    go_wp2_with (with_reducible refine wpList_clear_run w1 rfl (.tmp 31) 104 rfl _ rfl (run_clear1 w1 _ g (m) _ cur HW.out.hg (by omega)) ?_)
    go_ret
    refine ⟨_, rfl, R_mk' HL1.out ⟨?_, .inr ⟨g, _, _, rfl, HW.out.hbg, zCc HW.out.hg (by rw [hcl]; change _ + 1 ≤ _; omega), HW.out.hn, HW.out.hcap, ?_, ?_⟩⟩, zBk HB1.out HW.out.hbg⟩
    · rw [encs_length, ← HL1.out, Nat.mul_one]
    · rw [List.size_toArray, length_splice _ _ _ (by rw [hcl]; change _ + 1 ≤ _; omega), hcl, Nat.mul_one]
    · rw [List.toList_toArray, ← HT.out]
      unfold splice
      rw [Nat.mul_one, List.take_left' (by rw [List.length_take, hcl]; omega)]
theorem deleteS_any (w : World) (base : Nat) (A : Option Addr) (n c k : Nat) (K : Int) (hK : K = (k : Int) + 1) (xs : List Hd) (h : Kd.R kS 47 w base (fun _ => True) (.slice A n c) xs) (hk : k < n) (hn : n ≤ 1000) (hb : base ≤ w.heap.size) :
    Calls Tryz.prog 167 #[.slice A n c, .int .i64 k, .int .i64 K] w fun e w' => ∃ A' c', e = .returned (.slice A' (n - 1) c') ∧ Kd.R kS 47 w' base (fun _ => True) (.slice A' (n - 1) c') (xs.eraseIdx k) ∧ Below base w w' := by
  have hl : n = xs.length := (Kd.zEe h).1
  obtain ⟨g, c', e1, _, _⟩ := (Kd.own_of_R h).form (by omega)
  injection e1 with e2 _ e3
  subst e2
  refine (delete_any w base g n c k K hK xs h hk hn hb).mono ?_
  rintro e w' ⟨v, rfl, hr, hbw⟩
  obtain ⟨A', c2, e4⟩ := Kd.zAk hr
  rw [List.length_eraseIdx_of_lt (by omega), ← hl] at e4
  subst e4
  exact ⟨A', c2, rfl, hr, hbw⟩
end Go.Proofs.YtpckachmleonlaaGreatDoor
end
