/- Words and walks for Split and Tablet: texts of these sessions, and of the kit's print, cut down to what is used (V X Y Z). -/
import Derived.Test.YtpckachmleonlaaGreatDoorCu12
section
set_option linter.unusedVariables false
set_option linter.unusedSimpArgs false
namespace Go.Proofs.YtpckachmleonlaaGreatDoor
open Go.RowKit Go.Proofs.YtpckachmleonlaaGreatDoorW.PrintWords
theorem rowsN {α : Type} {d : Kd α} {e t g : Nat} {w : World} {vs : List (Option Addr × Nat)} {xss : List (List α)} {fz : Nat × Nat} {C : Array Value} (h : w.heap[g]? = some (.cells C t fz)) (hC : C.toList = (vs.zip xss).map fun y => .slice y.1.1 y.2.length y.1.2) (hl : vs.length = xss.length) (hn : xss.length ≤ 1000)
    (hx : ∀ y ∈ vs.zip xss, y.2.length ≤ y.1.2 ∧ d.C w y.1.1 y.2.length y.2) : Kd.C (Kd.slice e d) w (some ⟨g, 0, none⟩) xss.length xss := by
  refine ⟨rfl, by omega, fun _ => ⟨_, rfl, fun j p hj => ?_⟩⟩
  have hlt : j < xss.length := (List.getElem?_eq_some_iff.1 hj).1
  have hz : (vs.zip xss)[j]? = some (vs[j]'(by omega), p) := by
    rw [List.getElem?_zip_eq_some]
    exact ⟨List.getElem?_eq_getElem _, hj⟩
  obtain ⟨h1, h2⟩ := hx _ (List.mem_of_getElem? hz)
  refine ⟨[.slice (vs[j]'(by omega)).1 p.length (vs[j]'(by omega)).2], rfl, ⟨_, _, rfl, h1, h2⟩, fun i u hu => ?_⟩
  have hi0 : i = 0 := by
    have := (List.getElem?_eq_some_iff.1 hu).1
    simp at this
    omega
  subst hi0
  rw [Addr.add_mid, cell_of_row w g _ _ t fz h, ← Array.getElem?_toList, hC, List.getElem?_map]
  simp only [Kd.slice, Nat.mul_one, Nat.add_zero, Nat.zero_add]
  rw [hz]
  simpa using hu
theorem hN1 (W : World) (o : Obj) : (W.alloc o).heap[W.heap.size]? = some o := heap_alloc_new W o
theorem hN2 (W : World) {C : Array Value} {t : Nat} (o2 : Obj) : ((W.alloc (.cells C t)).alloc o2).heap[W.heap.size]? = some (.cells C t (0, 0)) := zAh (heap_alloc_new W _) _
theorem hN3 (W : World) (o1 o2 : Obj) : ((W.alloc o1).alloc o2).heap[W.heap.size + 1]? = some o2 := by
  have h := heap_alloc_new (W.alloc o1) o2
  rwa [World.size_alloc] at h
theorem blk_b {w W : World} {g t : Nat} {C : Array Value} (hb : Below w.heap.size w W) (h : w.heap[g]? = some (.cells C t (0, 0))) : W.heap[g]? = some (.cells C t (0, 0)) := zAe h hb
theorem RAt_FF {w : World} {base : Nat} {ok ok' : Nat → Prop} {A : Option Addr} {n c : Nat} {ys : List (Hd × List Int)} (h : Kd.R kS 47 w base ok' (.slice A n c) (ys.map (·.1))) (hb : ∀ y ∈ ys, FF (fun W => BAt W y.1 y.2) ok w) (hok : ∀ k, base ≤ k → ok k) : FF (fun W => RAt W A c ys) ok w := fun W hW => by
  obtain ⟨h1, h2, h3⟩ := (R_FF h) W (fun k hk hl => hW k (hok k hk) hl)
  rw [List.length_map] at h2
  subst h2
  exact ⟨h1, h3, fun y hy => hb y hy W hW⟩
end Go.Proofs.YtpckachmleonlaaGreatDoor
end
section
set_option linter.unusedVariables false
set_option linter.unusedSimpArgs false
namespace Go.Proofs.YtpckachmleonlaaGreatDoor
open Go.RowKit Go.Proofs.YtpckachmleonlaaGreatDoorW.PrintWords
theorem ine {a b : Int} (h : a ≠ b) : (a == b) = false := by rw [beq_eq_false_iff_ne]; exact h
theorem splice_take {α : Type} (cur ys : List α) (a m n s : Nat) (h1 : ys.length = m) (h2 : a ≤ n) (h3 : n + m ≤ cur.length) (hs : s = n + m) :
  (splice (splice cur (a + m) ((cur.take n).drop a)) a ys).take s = cur.take a ++ ys ++ (cur.take n).drop a := by
 subst hs
 have e1 : ((cur.take n).drop a).length = n - a := by simp; omega
 apply List.ext_getElem?
 intro i
 unfold splice
 rw [List.getElem?_take]
 by_cases hi : i < n + m
 ·rw [if_pos hi]
  by_cases h4 : i < a
  ·rw [List.getElem?_append_left (by simp; omega), List.append_assoc, List.getElem?_append_left (by simp; omega)]
   simp [List.getElem?_take, h4, List.getElem?_append, show i < a + m by omega]
   omega
  ·by_cases h5 : i < a + m
   ·rw [List.getElem?_append_right (by simp; omega), List.getElem?_append_left (by simp; omega), List.append_assoc, List.getElem?_append_right (by simp; omega), List.getElem?_append_left (by simp; omega)]
    congr 1
    simp
    omega
   ·rw [List.getElem?_append_right (by simp; omega), List.getElem?_append_right (by simp; omega), List.getElem?_drop, List.getElem?_append_right (by simp; omega), List.getElem?_append_left (by simp; omega), List.getElem?_append_right (by simp; omega)]
    congr 1
    simp
    omega
 ·rw [if_neg hi, List.getElem?_eq_none (by simp; omega)]
theorem sz47 : (Tryz.prog.info? 47).map (·.size) = some 1 := by
 obtain ⟨i0, hi, h0, h1, h2⟩ := info_parts info47
 rw [hi]
 simp [h1]
theorem sizeOf47 (w : World) : (Go.sizeOf 47).run Tryz.prog w = .ok 1 w := by
 obtain ⟨i0, hi, h0, h1, h2⟩ := info_parts info47
 simp [sizeOf, typeInfo, hi, h1]
theorem add_off (g o j : Nat) : (⟨g, o, none⟩ : Addr).add j = ⟨g, o + j, none⟩ := by unfold Addr.add; split <;> simp_all
structure InsIn (w : World) (base g n cap vb : Nat) (cur ys : List Value) : Prop where
 hg : w.heap[g]? = some (.cells cur.toArray 47 (0, 0))
 hcur : cur.length = cap
 hn : n ≤ cap
 hcap : cap ≤ maxLen
 hv : w.heap[vb]? = some (.cells ys.toArray 47 (0, 0))
 hys : ys.length = 1
 hne : vb ≠ g
 h1 : ∀ u ∈ cur.take (n), u.oneCell' = true
 h1y : ∀ u ∈ ys, u.oneCell' = true
 hbg : base ≤ g
 hbase : base ≤ w.heap.size
 hsz : n ≤ 1000
set_option maxHeartbeats 2000000 in
set_option maxRecDepth 100000 in
theorem insert_end (w : World) (base g n cap vb : Nat) (cur ys : List Value) (h : InsIn w base g n cap vb cur ys) :
  Calls Tryz.prog 162 #[.slice (some ⟨g, 0, none⟩) n cap, .int .i64 n, .slice (some ⟨vb, 0, none⟩) 1 1] w fun e w' => ∃ v', e = .returned v' ∧ w'.ownsRow base 47 1 v' (n + 1) (cur.take (n) ++ ys) ∧ Below base w w' ∧ ∀ j, j < w.heap.size → j ≠ g → w'.heap[j]? = w.heap[j]? := by
 have H := zA.mk h
 have hsz := h.hsz
 have hn := h.hn
 have hcap := h.hcap
 clear h
 unfold maxLen at hcap
 obtain ⟨i0, hi0, hz0, hz1, hz2⟩ := info_parts info47
 have hown : zA (w.ownsRow base 47 1 (.slice (some ⟨g, 0, none⟩) n cap) n (cur.take (n))) := ⟨by
  refine ⟨by rw [List.length_take, H.out.hcur]; have := hn; omega, .inr ⟨g, cap, cur.toArray, rfl, H.out.hbg, H.out.hg, hn, H.out.hcap, by simpa using H.out.hcur, by simp⟩⟩⟩
 have hI := zA.mk hi0
 have hZ0 := zA.mk hz0
 have hZ1 := zA.mk hz1
 have hZ2 := zA.mk hz2
 clear hi0 hz0 hz1 hz2
 go_enter Tryz.func162, Tryz.ntmps162
 go_wp2_with (at_builtin; refine wpList_append_own_at w rfl (.tmp 23) (.tmp 24) 104 rfl base 47 i0 _ 1 24 Tryz.underlying104 hI.out hZ0.out hZ1.out hZ2.out rfl (by omega) (.slice (some ⟨g, 0, none⟩) n cap) n (cur.take (n)) rfl hown.out ⟨vb, 0, none⟩ 1 1 ys rfl (by rw [H.out.hys]) (fun j u hu => by rw [add_off, Nat.zero_add, zAb H.out.hv]; simpa using hu) H.out.h1y (by unfold maxLen; omega) (by omega) H.out.hbase ?_; intro v1 w1 ho hg1 _ _; have HO := zA.mk ho; have HG := zA.mk hg1; clear ho hg1)
 all_goals
  go_ret
  exact ⟨_, rfl, HO.out, (Below.refl _ _).grown HG.out H.out.hbase (fun k hk => by
   have e : g = k := by injection hk
   have := H.out.hbg
   omega), fun j hj hne => HG.out.block j hj (fun e => hne (by injection e))⟩
theorem overlaps_no {w : World} {base g n cap vb : Nat} {cur ys : List Value} (h : InsIn w base g n cap vb cur ys) (hpos : 0 < cap) (off lb cb : Nat) :
  (callFunc 171 #[.slice (some ⟨vb, 0, none⟩) 1 1, .slice (some ⟨g, off, none⟩) lb cb]).run Tryz.prog w = .ok (.value (.bool false)) w := by
 rw [run_callFunc_extern Tryz.func171 (by kernel_rfl) (by kernel_rfl) (by kernel_rfl) (e := Extern.SlicesOverlaps.overlaps #[104, 104] #[4]) (by kernel_rfl),
  Lib.run_overlaps_apart w 104 4 47 Tryz.underlying104 1 sizeOf47 ⟨vb, 0, none⟩ ⟨g, off, none⟩ 1 1 lb cb h.hne 47 47 ys.toArray.size cur.toArray.size (by simp [World.shape?, h.hv]) (by simp [World.shape?, h.hg]) (by have := h.hcur; simpa using (by omega : cur.length ≠ 0))
   (zAd h.hv 0) (by have := zAd h.hv ys.toArray.size; exact this)]
 rfl
set_option maxHeartbeats 4000000 in
set_option maxRecDepth 100000 in
theorem insert_room (w : World) (base g n cap vb k : Nat) (cur ys : List Value) (h : InsIn w base g n cap vb cur ys) (hk : k < n) (hroom : n + 1 ≤ cap) :
  Calls Tryz.prog 162 #[.slice (some ⟨g, 0, none⟩) n cap, .int .i64 k, .slice (some ⟨vb, 0, none⟩) 1 1] w fun e w' => ∃ v', e = .returned v' ∧ w'.ownsRow base 47 1 v' (n + 1) (cur.take (k) ++ ys ++ (cur.take (n)).drop (k)) ∧ Below base w w' ∧ ∀ j, j < w.heap.size → j ≠ g → w'.heap[j]? = w.heap[j]? := by
 have H := zA.mk h
 have hsz := h.hsz
 have hn := h.hn
 have hcap := h.hcap
 clear h
 unfold maxLen at hcap
 have hov := fun off lb cb => overlaps_no H.out (by omega) off lb cb
 have e1 : ((k : Int) == (n : Int)) = false := ine (by omega)
 have e2 : decide ((cap : Int) < (n : Int) + 1) = false := df (by omega)
 have hw1 : IntKind.i64.wrap ((k : Int) + 1) = (k : Int) + 1 := by rw [IntKind.wrap_i64]; omega
 have hb1 : (0 : Int) ≤ (k : Int) + 1 := by omega
 have htn : ((k : Int) + 1).toNat = k + 1 := by omega
 have hb2 : ¬ (cap = k + 1) := by omega
 have hb3 : (k : Int) ≤ (n : Int) := by omega
 have hb3' : (k : Int) + 1 ≤ (n : Int) + 1 := by omega
 have hb3'' : (k : Int) ≤ (n : Int) + 1 := by omega
 have hb4 : ¬ (cap = k) := by omega
 go_enter Tryz.func162, Tryz.ntmps162
 go_wp2_with (simp only [hov])
 go_still_tail 8, (by kernel_rfl)
 change wpList _ _ _ _ _ w.drew
 have hcn := H.out.hcur
 have hys := H.out.hys
 have hm : Nat.min (n + 1 - k) (n - k) = n - k := Nat.min_eq_right (by omega)
 have hm2 : Nat.min 1 (n + 1 - k) = 1 := Nat.min_eq_left (by omega)
 have HY := zA.mk hys
 have HC := zA.mk hcn
 have HM := zA.mk hm
 have HM2 := zA.mk hm2
 clear hcn hys hm hm2 hw1 htn hov
 refine wpList_copy_run _ rfl (.tmp 73) (.tmp 76) 104 104 rfl _ _ rfl rfl (zC w.drew 104 104 _ 47 1 Tryz.underlying104 sz47 g ((k + 1)) (n - k) _ ⟨g, k, none⟩ (n + 1 - k) _ ((cur.take (n)).drop (k)) cur 47 H.out.hg ?hn ?hsrc ?hfit ?h1) ?_
 case hn => rw [HM.out, List.length_drop, List.length_take, HC.out]; have := hn; omega
 case hsrc =>
  intro j v hj
  rw [add_off, show w.drew.cell? ⟨g, k + j, none⟩ = cur.toArray[k + j]? from zAb H.out.hg _]
  rw [List.getElem?_drop, List.getElem?_take] at hj
  split at hj
  ·simpa using hj
  ·cases hj
 case hfit => rw [List.length_drop, List.length_take, HC.out]; omega
 case h1 => exact fun u hu => H.out.h1 u (List.mem_of_mem_drop hu)
 obtain ⟨W1, hW1⟩ : ∃ W1, W1 = w.drew.setCells g ((k + 1)) ((cur.take (n)).drop (k)) := ⟨_, rfl⟩
 rw [← hW1]
 have HW := zA.mk hW1
 clear hW1
 have hL : ((cur.take (n)).drop (k)).length = n - k := by rw [List.length_drop, List.length_take, HC.out]; have := hn; omega
 have hL2 : (k + 1) + ((cur.take (n)).drop (k)).length ≤ cur.length := by rw [hL, HC.out]; omega
 have HG1 : zA (W1.heap[g]? = some (.cells (splice cur ((k + 1)) ((cur.take (n)).drop (k))).toArray 47 (0, 0))) := ⟨by rw [HW.out]; exact zCk (w := w.drew) H.out.hg hL2⟩
 have HV1 : zA (W1.heap[vb]? = some (.cells ys.toArray 47 (0, 0))) := ⟨by rw [HW.out, setCells_far _ _ _ H.out.hne]; exact H.out.hv⟩
 have hsl : (splice cur ((k + 1)) ((cur.take (n)).drop (k))).length = cap := by rw [length_splice _ _ _ hL2, HC.out]
 have HC2 : zA (∀ ty dc, (Builtin.copy_ #[104, 104] ty #[.slice (some ⟨g, k, none⟩) (n + 1 - k) dc, .slice (some ⟨vb, 0, none⟩) 1 1]).run Tryz.prog W1 = .ok (goInt (Nat.min 1 (n + 1 - k))) (W1.setCells g (k) ys)) := ⟨fun ty dc =>
  zC W1 104 104 ty 47 1 Tryz.underlying104 sz47 g (k) (n + 1 - k) dc ⟨vb, 0, none⟩ 1 1 ys (splice cur ((k + 1)) ((cur.take (n)).drop (k))) 47 HG1.out (by rw [HM2.out, HY.out])
   (fun j v hj => by rw [add_off, Nat.zero_add, zAb HV1.out]; simpa using hj) (by rw [hsl, HY.out]; omega) H.out.h1y⟩
 have HSL := zA.mk hsl
 have HL2 := zA.mk hL2
 clear hL hsl hL2
 go_wp2_with (with_reducible refine wpList_copy_run W1 rfl (.tmp 80) (.tmp 81) 104 104 rfl _ _ rfl rfl (HC2.out _ _) ?_)
 go_ret
 have hb := zA.mk (zCd (cs := ys) (off := k) (show Below base w W1 by rw [HW.out]; exact zCd (w := w.drew) (Below.refl base w).drew H.out.hbg) H.out.hbg)
 have hr := zCk (off := k) (cs := ys) HG1.out (by rw [HSL.out, HY.out]; omega)
 have h3 : (splice (splice cur ((k + 1)) ((cur.take (n)).drop (k))) (k) ys).length = cap := by rw [length_splice _ _ _ (by rw [HSL.out, HY.out]; omega), HSL.out]
 have h4 : (splice (splice cur ((k + 1)) ((cur.take (n)).drop (k))) (k) ys).take ((n + 1)) = cur.take (k) ++ ys ++ (cur.take (n)).drop (k) := by
  exact splice_take cur ys (k) 1 (n) _ HY.out (by omega) (by rw [HC.out]; omega) (by omega)
 refine ⟨_, rfl, ⟨?_, .inr ⟨g, cap, _, rfl, H.out.hbg, hr, hroom, H.out.hcap, by simpa using h3, by simpa using h4⟩⟩, hb.out, fun j hj hne => (setCells_far _ _ _ hne).trans (by rw [HW.out]; exact setCells_far (w := w.drew) _ _ _ hne)⟩
 rw [← h4, List.length_take, h3]
 omega
theorem zeroCells_length (z : Value) (n s : Nat) (hz : z.cells.size = s) : (Builtin.zeroCells z.cells n).toList.length = n * s := by
 rw [Array.length_toList, size_zeroCells, hz]
set_option maxHeartbeats 4000000 in
set_option maxRecDepth 100000 in
theorem insert_grow (w : World) (base g n cap vb k : Nat) (cur ys : List Value) (h : InsIn w base g n cap vb cur ys) (hk : k < n) (hroom : cap < n + 1) :
  Calls Tryz.prog 162 #[.slice (some ⟨g, 0, none⟩) n cap, .int .i64 k, .slice (some ⟨vb, 0, none⟩) 1 1] w fun e w' => ∃ v', e = .returned v' ∧ w'.ownsRow base 47 1 v' (n + 1) (cur.take (k) ++ ys ++ (cur.take (n)).drop (k)) ∧ Below base w w' ∧ ∀ j, j < w.heap.size → j ≠ g → w'.heap[j]? = w.heap[j]? := by
 have H := zA.mk h
 have hsz := h.hsz
 have hn := h.hn
 obtain rfl : cap = n := by omega
 clear h
 have hcn := H.out.hcur
 have hgl : g < w.heap.size := zAi H.out.hg
 have hvl : vb < w.heap.size := zAi H.out.hv
 obtain ⟨i0, hi0, hz0, hz1, hz2⟩ := info_parts info47
 have hold : (Builtin.firstCells i0.size k (.slice (some ⟨g, 0, none⟩) k cap)).run Tryz.prog w.drew = .ok (cur.take (k)).toArray w.drew := by
  rw [hz1]
  exact run_firstCells_some w.drew 1 k ⟨g, 0, none⟩ k cap (cur.take (k)) (by rw [List.length_take, hcn]; omega) (fun j v hj => by
   rw [add_off, Nat.zero_add, show w.drew.cell? ⟨g, j, none⟩ = cur.toArray[j]? from zAb H.out.hg _]
   rw [List.getElem?_take] at hj
   split at hj
   ·simpa using hj
   ·cases hj)
 have hik : k + (cap + 1 - k) = cap + 1 := by omega
 have hrz := fun ty => Lib.run_append_grow_zeros w 104 3 ty 47 i0 _ .i64 .i64 Tryz.underlying104 Tryz.underlying3 hi0 hz0 (some ⟨g, 0, none⟩) k cap (cur.take (k)) hold (cap + 1 - k) (by omega) (by omega) (by omega) (by omega) (by rw [hz2]; omega) (by rw [hz2, hik]; exact growslice_fits (by omega) (by omega))
 rw [hik] at hrz
 obtain ⟨C, hC⟩ : ∃ C, C = grownCap w (cap + 1) cap 47 := ⟨_, rfl⟩
 obtain ⟨R, hR⟩ : ∃ R : List Value, R = cur.take (k) ++ (Builtin.zeroCells (Value.slice none 0 0).cells (cap + 1 - k)).toList ++ (Builtin.zeroCells (Value.slice none 0 0).cells (C - (cap + 1))).toList := ⟨_, rfl⟩
 have hC1 : cap + 1 ≤ C := by rw [hC]; exact grownCap_ge w (cap + 1) cap 47
 have hC2 : C ≤ maxLen := by rw [hC]; exact grownCap_le_maxLen w (cap + 1) cap 47 (by unfold maxLen; omega)
 have hRl : R.length = C := by
  rw [hR, List.length_append, List.length_append, zeroCells_length _ _ 1 rfl, zeroCells_length _ _ 1 rfl, List.length_take, hcn]
  omega
 have hRt : R.take (k) = cur.take (k) := by
  rw [hR, List.append_assoc, List.take_left' (by rw [List.length_take, hcn]; omega)]
 have hRA : (cur.take (k)).toArray ++ Builtin.zeroCells (Value.slice none 0 0).cells (cap + 1 - k) ++ Builtin.zeroCells (Value.slice none 0 0).cells (C - (cap + 1)) = R.toArray := by
  rw [hR]
  apply Array.ext'
  simp
 rw [← hC, hRA] at hrz
 have hkk : ((cap : Int) + 1 - (k : Int)) = ((cap + 1 - k : Nat) : Int) := by omega
 have hrz' : ∀ ty, (Builtin.append_ #[104, 3] ty #[.slice (some ⟨g, 0, none⟩) k cap, .int .i64 ((cap : Int) + 1 - (k : Int))]).run Tryz.prog w = .ok (.slice (some ⟨w.heap.size, 0, none⟩) (cap + 1) C) (w.drew.alloc (.cells R.toArray 47)) := fun ty => by rw [hkk]; exact hrz ty
 have HRZ := zA.mk hrz'
 have HC := zA.mk hC
 have HR := zA.mk hR
 have HRL := zA.mk hRl
 have HRT := zA.mk hRt
 have HCN := zA.mk hcn
 have HC2 := zA.mk hC2
 clear hrz hrz' hold hC hR hRA hRl hRt hkk hik hi0 hz0 hz1 hz2 hcn
 obtain ⟨W0, hW0⟩ : ∃ W0, W0 = w.drew.alloc (.cells R.toArray 47) := ⟨_, rfl⟩
 have HW0 := zA.mk hW0
 have HG0 : zA (W0.heap[w.heap.size]? = some (.cells R.toArray 47 (0, 0))) := ⟨by rw [hW0]; exact heap_alloc_new w.drew _⟩
 have HB0 : zA (Below w.heap.size w W0) := ⟨by rw [hW0]; exact (Below.refl w.heap.size w).drew.alloc (Nat.le_refl _) _⟩
 rw [← hW0] at HRZ
 clear hW0
 have HV0 : zA (W0.heap[vb]? = some (.cells ys.toArray 47 (0, 0))) := ⟨(HB0.out.block vb hvl).trans H.out.hv⟩
 have hm2 : Nat.min 1 (cap + 1 - k) = 1 := Nat.min_eq_left (by omega)
 have HM2 := zA.mk hm2
 clear hm2
 have HCA : zA (∀ ty dc, (Builtin.copy_ #[104, 104] ty #[.slice (some ⟨w.heap.size, k, none⟩) (cap + 1 - k) dc, .slice (some ⟨vb, 0, none⟩) 1 1]).run Tryz.prog W0 = .ok (goInt (Nat.min 1 (cap + 1 - k))) (W0.setCells w.heap.size (k) ys)) := ⟨fun ty dc =>
  zC W0 104 104 ty 47 1 Tryz.underlying104 sz47 w.heap.size (k) (cap + 1 - k) dc ⟨vb, 0, none⟩ 1 1 ys R 47 HG0.out (by rw [HM2.out, H.out.hys])
   (fun j v hj => by rw [add_off, Nat.zero_add, zAb HV0.out]; simpa using hj) (by rw [HRL.out, H.out.hys]; omega) H.out.h1y⟩
 obtain ⟨W1, hW1⟩ : ∃ W1, W1 = W0.setCells w.heap.size (k) ys := ⟨_, rfl⟩
 have HW1 := zA.mk hW1
 have HG1 : zA (W1.heap[w.heap.size]? = some (.cells (splice R (k) ys).toArray 47 (0, 0))) := ⟨by rw [hW1]; exact zCk HG0.out (by rw [HRL.out, H.out.hys]; omega)⟩
 have HB1 : zA (Below w.heap.size w W1) := ⟨by rw [hW1]; exact zCd HB0.out (Nat.le_refl _)⟩
 rw [← hW1] at HCA
 clear hW1
 have e1 : ((k : Int) == (cap : Int)) = false := ine (by omega)
 have e2 : decide ((cap : Int) < (cap : Int) + 1) = true := dt (by omega)
 have hw1 : IntKind.i64.wrap ((k : Int) + 1) = (k : Int) + 1 := by rw [IntKind.wrap_i64]; omega
 have hb1 : (0 : Int) ≤ (k : Int) + 1 := by omega
 have htn : ((k : Int) + 1).toNat = k + 1 := by omega
 have hb2 : ¬ (C = k + 1) := by omega
 have hb3 : (k : Int) ≤ (cap : Int) := by omega
 have hb3' : (k : Int) + 1 ≤ (cap : Int) + 1 := by omega
 have hb3'' : (k : Int) ≤ (cap : Int) + 1 := by omega
 have hb4 : ¬ (cap = k) := by omega
 have hb5 : ¬ (C = k) := by omega
 go_enter Tryz.func162, Tryz.ntmps162
 go_wp2_with (first | (at_builtin; refine Lib.wpList_append_run w rfl (.tmp 34) (.tmp 39) 104 3 rfl _ _ rfl rfl _ _ (HRZ.out _) ?_) | (with_reducible refine wpList_copy_run W0 rfl (.tmp 43) (.tmp 44) 104 104 rfl _ _ rfl rfl (HCA.out _ _) ?_))
 go_still_tail 8, (by kernel_rfl)
 change wpList _ _ _ _ _ W1.drew
 have hm : Nat.min (cap - k) (cap - k) = cap - k := Nat.min_self _
 have HM := zA.mk hm
 have hL : ((cur.take (cap)).drop (k)).length = cap - k := by rw [List.length_drop, List.length_take, HCN.out]; omega
 have hsp1 : (splice R (k) ys).length = C := by rw [length_splice _ _ _ (by rw [HRL.out, H.out.hys]; omega), HRL.out]
 have HGg : zA (W1.heap[g]? = some (.cells cur.toArray 47 (0, 0))) := ⟨(HB1.out.block g hgl).trans H.out.hg⟩
 refine wpList_copy_run _ rfl (.tmp 50) (.tmp 53) 104 104 rfl _ _ rfl rfl (zC W1.drew 104 104 _ 47 1 Tryz.underlying104 sz47 w.heap.size ((k + 1)) (cap - k) _ ⟨g, k, none⟩ (cap - k) _ ((cur.take (cap)).drop (k)) (splice R (k) ys) 47 HG1.out ?hn ?hsrc ?hfit ?h1) ?_
 case hn => rw [HM.out, hL]; omega
 case hsrc =>
  intro j v hj
  rw [add_off, show W1.drew.cell? ⟨g, k + j, none⟩ = cur.toArray[k + j]? from zAb HGg.out _]
  rw [List.getElem?_drop, List.getElem?_take] at hj
  split at hj
  ·simpa using hj
  ·cases hj
 case hfit => rw [hL, hsp1]; omega
 case h1 => exact fun u hu => H.out.h1 u (List.mem_of_mem_drop hu)
 clear hw1 htn
 go_wp2_with fail
 go_ret
 have hys := H.out.hys
 have hfit : (k + 1) + ((cur.take (cap)).drop (k)).length ≤ (splice R (k) ys).length := by rw [hL, hsp1]; omega
 have hr := zCk (w := W1.drew) (off := (k + 1)) (cs := (cur.take (cap)).drop (k)) HG1.out hfit
 have hb := zCd (w := W1.drew) (off := (k + 1)) (cs := (cur.take (cap)).drop (k)) HB1.out.drew (Nat.le_refl _)
 have h3 : (splice (splice R (k) ys) ((k + 1)) ((cur.take (cap)).drop (k))).length = C := by rw [length_splice _ _ _ hfit, hsp1]
 have h4 : (splice (splice R (k) ys) ((k + 1)) ((cur.take (cap)).drop (k))).take ((cap + 1)) = cur.take (k) ++ ys ++ (cur.take (cap)).drop (k) := by
  have e1 : (splice R (k) ys).take ((k + 1)) = cur.take (k) ++ ys := by
   unfold splice
   rw [← List.append_assoc, List.take_left' (by rw [List.length_append, List.length_take, HRL.out, hys]; omega), HRT.out]
  unfold splice at e1 ⊢
  rw [e1, ← List.append_assoc, List.take_left' (by rw [List.length_append, List.length_append, List.length_take, hL, hys, HCN.out]; omega)]
 refine ⟨_, rfl, ⟨?_, .inr ⟨w.heap.size, C, _, rfl, H.out.hbase, hr, hC1, HC2.out, by simpa using h3, by simpa using h4⟩⟩, hb.mono H.out.hbase, fun j hj _ => hb.block j hj⟩
 rw [← h4, List.length_take, h3]
 omega
theorem insert_any (w : World) (base g n cap vb k : Nat) (cur ys : List Value) (h : InsIn w base g n cap vb cur ys) (hk : k ≤ n) :
  Calls Tryz.prog 162 #[.slice (some ⟨g, 0, none⟩) n cap, .int .i64 k, .slice (some ⟨vb, 0, none⟩) 1 1] w fun e w' => ∃ v', e = .returned v' ∧ w'.ownsRow base 47 1 v' (n + 1) (cur.take (k) ++ ys ++ (cur.take (n)).drop (k)) ∧ Below base w w' ∧ ∀ j, j < w.heap.size → j ≠ g → w'.heap[j]? = w.heap[j]? := by
 rcases Nat.lt_or_ge k n with h1 | h1
 ·rcases Nat.lt_or_ge cap (n + 1) with h2 | h2
  ·exact insert_grow w base g n cap vb k cur ys h h1 h2
  ·exact insert_room w base g n cap vb k cur ys h h1 h2
 ·obtain rfl : k = n := by omega
  rw [List.drop_eq_nil_of_le (by rw [List.length_take]; omega), List.append_nil]
  exact insert_end w base g k cap vb cur ys h
theorem encs_map {α : Type} (enc : α → Value) (xs : List α) : encs enc xs = xs.map enc := by
 apply List.ext_getElem?
 intro i
 simp [encs]
theorem insertS_any (w : World) (base : Nat) (A : Option Addr) (n c k β : Nat) (xs : List Hd) (y : Hd) (h : Kd.R kS 47 w base (fun _ => True) (.slice A n c) xs) (hn : xs.length = n) (hpos : 0 < n) (hb : base ≤ w.heap.size) (hv : w.heap[β]? = some (.cells #[y.v] 47 (0, 0))) (hne : some β ≠ (Value.slice A n c).ownBlock) (hk : k ≤ n) (hl : n ≤ 1000) :
  Calls Tryz.prog 162 #[.slice A n c, .int .i64 k, .slice (some ⟨β, 0, none⟩) 1 1] w fun e w' => ∃ A' c', e = .returned (.slice A' (n + 1) c') ∧ Kd.R kS 47 w' base (fun _ => True) (.slice A' (n + 1) c') (xs.take k ++ y :: xs.drop k) ∧ Below base w w' ∧ ∀ j, j < w.heap.size → some j ≠ (Value.slice A n c).ownBlock → w'.heap[j]? = w.heap[j]? := by
 have ho := Kd.own_of_R h
 rw [encs_map, hn] at ho
 rcases ho.2 with ⟨h0, _⟩ | ⟨g, cap, cur, hve, h1, h2, h3, h4, h5, h6⟩
 ·injection h0 with _ h0 _
  omega
 ·injection hve with ha _ hc
  subst ha hc
  have hob : (Value.slice (some ⟨g, 0, none⟩) n c).ownBlock = some g := rfl
  have hin : InsIn w base g n c β cur.toList [y.v] := ⟨by simpa using h2, by simpa using h5, h3, h4, by simpa using hv, rfl, fun e => hne (by rw [hob, e]), fun u hu => by
   rw [show n = n * 1 from (Nat.mul_one n).symm, h6] at hu
   obtain ⟨x, _, rfl⟩ := List.mem_map.1 hu
   rfl, fun u hu => by rw [List.mem_singleton.1 hu]; rfl, h1, hb, hl⟩
  refine (insert_any w base g n c β k cur.toList [y.v] hin hk).mono ?_
  rintro e w' ⟨v', rfl, hw, hbw, hsm⟩
  have e6 : cur.toList.take n = xs.map Hd.v := by rw [show n = n * 1 from (Nat.mul_one n).symm]; exact h6
  have e7 : cur.toList.take k ++ [y.v] ++ (cur.toList.take n).drop k = (xs.take k ++ y :: xs.drop k).map Hd.v := by
   rw [e6, show cur.toList.take k = (cur.toList.take n).take k by rw [List.take_take, Nat.min_eq_left hk], e6]
   simp [List.map_take, List.map_drop]
  rw [e7] at hw
  have hR : Kd.R kS 47 w' base (fun _ => True) v' (xs.take k ++ y :: xs.drop k) := Kd.R_of_own (by rw [encs_map]; have e8 : (xs.take k ++ y :: xs.drop k).length = n + 1 := (by simp; omega); rw [e8]; exact hw) (fun _ _ => trivial)
  obtain ⟨A', c', e9⟩ := Kd.zAk hR
  have e8 : (xs.take k ++ y :: xs.drop k).length = n + 1 := by simp; omega
  rw [e8] at e9
  subst e9
  exact ⟨A', c', rfl, hR, hbw, fun j hj hjn => hsm j hj (fun e => hjn (by rw [hob, e]))⟩
end Go.Proofs.YtpckachmleonlaaGreatDoor
end
section
set_option linter.unusedVariables false
set_option linter.unusedSimpArgs false
namespace Go.Proofs.YtpckachmleonlaaGreatDoor
open Go.RowKit Go.Proofs.YtpckachmleonlaaGreatDoorW.PrintWords
section
variable {P : Program}
theorem wpList_clear_run (w : World) {ops : Array Oper} {rest : List Oper} {o : Oper} {a : Act} {Q : Exit → Act → World → Prop} (hgd : o.guard = none) (s : Operand) (t : TypeId)
    (ho : o.op = .call { callee := .builtin .clear, args := #[s], argTypes := #[t] }) (u : Value) (hs : a.eval s = u) {v' : Value} {w' : World}
    (hr : (Builtin.clear_ #[t] o.type #[u]).run P w = .ok v' w') (h : wpList P ops Q rest (a.put o.dst v') w') : wpList P ops Q (o :: rest) a w := by
  refine wpList_plain hgd fun _ hK => ?_
  unfold Oper.wp execOp
  simp only [ho, resolve, invoke, builtin, Sem.run_bind, Sem.run_pure, Result.andThen_ok, List.map_toArray, List.map_cons, List.map_nil, hs, hr]
  exact hK _ _ h
end
end Go.Proofs.YtpckachmleonlaaGreatDoor
end
section
set_option linter.unusedVariables false
set_option linter.unusedSimpArgs false
namespace Go.Proofs.YtpckachmleonlaaGreatDoor
open Go.RowKit Go.Proofs.YtpckachmleonlaaGreatDoorW.PrintWords
theorem inter_app (m y : List It) : ∀ (C : List (List It)) (Q : List It), inter ((m ++ y) :: C) Q = m ++ inter (y :: C) Q
  | _, [] => by simp [inter]
  | C, q :: Q => by simp [inter]
def PutL (l : List It) (key val : List Int) (l' : List It) : Prop := ∃ la mid lb, l = la ++ mid ++ lb ∧ zFh la key ∧ Above key lb ∧ (mid = [] ∨ ∃ v0, mid = [(key, v0)]) ∧ l' = la ++ (key, val) :: lb
section
variable {n : Nat} {P Q : List Jt} {q j : Jt} {A C : List Kid} {z : Kid} {key val : List Int} {la mid lb : List It} {a b o : Option Nat}
theorem two_lens (hl : LvOk n ((A ++ z :: C).map (·.2)) ((P ++ Q).map Jt.it)) (hA : A.length = P.length) : C.length = Q.length := by
  have := hl.len
  simp at this
  omega
theorem put_top (hj : j.it = (key, val)) (h : zBg key = n) (ha : ∀ x ∈ la, zBg x.1 < n) (hb : ∀ x ∈ lb, zBg x.1 < n) : partL [j] [(a, la), (b, lb)] = la ++ (key, val) :: lb ∧ LvOk n ([(a, la), (b, lb)].map (fun z : Kid => z.2)) ([j].map Jt.it) := by
  refine ⟨by simp [partL, inter, hj], by simp, fun i hi => ?_, fun s hs x hx => ?_⟩
  · simp only [List.map_cons, List.map_nil, List.mem_singleton] at hi
    subst hi
    rw [hj]
    exact h
  · simp only [List.map_cons, List.map_nil, List.mem_cons, List.not_mem_nil, or_false] at hs
    rcases hs with rfl | rfl
    · exact ha x hx
    · exact hb x hx
theorem put_is (hl : LvOk n ((A ++ z :: C).map (·.2)) ((P ++ q :: Q).map Jt.it)) (hA : A.length = P.length) (hs : Sorted (partL (P ++ q :: Q) (A ++ z :: C))) (hq : q.1.2 = key) (hj : j.it = (key, val)) (hP : zFh (P.map Jt.it) key) (hQ : Above key (Q.map Jt.it)) :
    PutL (partL (P ++ q :: Q) (A ++ z :: C)) key val (partL (P ++ j :: Q) (A ++ z :: C)) ∧ LvOk n ((A ++ z :: C).map (·.2)) ((P ++ j :: Q).map Jt.it) := by
  have hC := two_lens hl hA
  match C, hC with
  | y :: C, hC =>
    have e1 : partL (P ++ q :: Q) (A ++ z :: y :: C) = inter (A.map (·.2) ++ [z.2]) (P.map Jt.it) ++ q.it :: inter (y.2 :: C.map (·.2)) (Q.map Jt.it) := by
      simp only [partL, List.map_append, List.map_cons]
      exact inter_key (by simp [hA])
    have e2 : partL (P ++ j :: Q) (A ++ z :: y :: C) = inter (A.map (·.2) ++ [z.2]) (P.map Jt.it) ++ j.it :: inter (y.2 :: C.map (·.2)) (Q.map Jt.it) := by
      simp only [partL, List.map_append, List.map_cons]
      exact inter_key (by simp [hA])
    have hqi : q.it = (key, q.2.2) := by rw [← hq]; rfl
    have hs2 := hs
    rw [e1] at hs2
    obtain ⟨s1, s2, s3⟩ := Sorted.app hs2
    refine ⟨⟨inter (A.map (·.2) ++ [z.2]) (P.map Jt.it), [q.it], inter (y.2 :: C.map (·.2)) (Q.map Jt.it), by rw [e1]; simp, fun x hx => ?_, fun x hx => ?_, .inr ⟨q.2.2, by rw [hqi]⟩, by rw [e2, hj]⟩, ?_⟩
    · have := s3 x hx q.it (by simp)
      rw [hqi] at this
      exact this
    · have := (List.pairwise_cons.1 s2).1 x hx
      rw [hqi] at this
      exact this
    · refine ⟨by have := hl.len; simp at this ⊢; omega, fun i hi => ?_, hl.below⟩
      have hq2 := hl.keys q.it (by simp)
      rw [List.map_append, List.map_cons] at hi
      rcases List.mem_append.1 hi with hi | hi
      · exact hl.keys i (by rw [List.map_append]; exact List.mem_append_left _ hi)
      · rcases List.mem_cons.1 hi with rfl | hi
        · rw [hj]
          rw [hqi] at hq2
          exact hq2
        · exact hl.keys i (by rw [List.map_append, List.map_cons]; exact List.mem_append_right _ (List.mem_cons_of_mem _ hi))
theorem put_here (hl : LvOk n ((A ++ z :: C).map (·.2)) ((P ++ Q).map Jt.it)) (hA : A.length = P.length) (hs : Sorted (partL (P ++ Q) (A ++ z :: C))) (hj : j.it = (key, val)) (h : zBg key = n) (hP : zFh (P.map Jt.it) key) (hQ : Above key (Q.map Jt.it)) (hz : z.2 = la ++ lb) (hla : zFh la key) (hlb : Above key lb) :
    PutL (partL (P ++ Q) (A ++ z :: C)) key val (partL (P ++ j :: Q) (A ++ (a, la) :: (b, lb) :: C)) ∧ LvOk n ((A ++ (a, la) :: (b, lb) :: C).map (·.2)) ((P ++ j :: Q).map Jt.it) := by
  obtain ⟨hE, l1, l2, b1, b2⟩ := split_law (a := a) (b := b) hl hA hs hP hQ hz hla hlb
  have hC := two_lens hl hA
  refine ⟨⟨partL P (A ++ [(a, la)]), [], partL Q ((b, lb) :: C), by rw [hE, List.append_nil], b1, b2, .inl rfl, ?_⟩, ?_, fun i hi => ?_, fun s hs x hx => ?_⟩
  · have := inter_key (x := la) (y := lb) (k := (key, val)) (A := A.map (·.2)) (P := P.map Jt.it) (B := C.map (·.2)) (Q := Q.map Jt.it) (by simp [hA])
    simpa [partL, hj] using this
  · simp [hA, hC]; omega
  · rw [List.map_append, List.map_cons] at hi
    rcases List.mem_append.1 hi with hi | hi
    · exact hl.keys i (by rw [List.map_append]; exact List.mem_append_left _ hi)
    · rcases List.mem_cons.1 hi with rfl | hi
      · rw [hj]
        exact h
      · exact hl.keys i (by rw [List.map_append]; exact List.mem_append_right _ hi)
  · rw [List.map_append, List.map_cons, List.map_cons] at hs
    rcases List.mem_append.1 hs with hs | hs
    · exact hl.below s (by rw [List.map_append]; exact List.mem_append_left _ hs) x hx
    · rcases List.mem_cons.1 hs with rfl | hs
      · exact hl.below z.2 (by simp) x (by rw [hz]; exact List.mem_append_left _ hx)
      · rcases List.mem_cons.1 hs with rfl | hs
        · exact hl.below z.2 (by simp) x (by rw [hz]; exact List.mem_append_right _ hx)
        · exact hl.below s (by rw [List.map_append, List.map_cons]; exact List.mem_append_right _ (List.mem_cons_of_mem _ hs)) x hx
theorem put_down (hl : LvOk n ((A ++ z :: C).map (·.2)) ((P ++ Q).map Jt.it)) (hA : A.length = P.length) (hs : Sorted (partL (P ++ Q) (A ++ z :: C))) (h : zBg key < n) (hP : zFh (P.map Jt.it) key) (hQ : Above key (Q.map Jt.it)) {l' : List It} (hz : PutL z.2 key val l') :
    PutL (partL (P ++ Q) (A ++ z :: C)) key val (partL (P ++ Q) (A ++ (o, l') :: C)) ∧ LvOk n ((A ++ (o, l') :: C).map (·.2)) ((P ++ Q).map Jt.it) := by
  obtain ⟨la, mid, lb, e, hla, hlb, hmid, rfl⟩ := hz
  have hC := two_lens hl hA
  have e1 : partL (P ++ Q) (A ++ z :: C) = inter (A.map (·.2) ++ [la]) (P.map Jt.it) ++ (mid ++ inter (lb :: C.map (·.2)) (Q.map Jt.it)) := by
    rw [← inter_app]
    simp only [partL, List.map_append, List.map_cons, e, List.append_assoc]
    exact inter_cut (by simp [hA])
  have e2 : partL (P ++ Q) (A ++ (o, la ++ (key, val) :: lb) :: C) = inter (A.map (·.2) ++ [la]) (P.map Jt.it) ++ (key, val) :: inter (lb :: C.map (·.2)) (Q.map Jt.it) := by
    have := inter_app [(key, val)] lb (C.map (·.2)) (Q.map Jt.it)
    simp only [List.singleton_append] at this
    rw [← this]
    simp only [partL, List.map_append, List.map_cons]
    exact inter_cut (by simp [hA])
  have hs2 := hs
  rw [e1] at hs2
  obtain ⟨s1, s2, s3⟩ := Sorted.app hs2
  obtain ⟨_, s4, _⟩ := Sorted.app s2
  refine ⟨⟨_, mid, _, by rw [e1, List.append_assoc], inter_below (by simp [hA]) s1 hP hla, inter_above (by simp [hC]) s4 hQ hlb, hmid, e2⟩, ?_, hl.keys, fun s hs x hx => ?_⟩
  · have := hl.len
    simp at this ⊢
    omega
  · rw [List.map_append, List.map_cons] at hs
    rcases List.mem_append.1 hs with hs | hs
    · exact hl.below s (by rw [List.map_append]; exact List.mem_append_left _ hs) x hx
    · rcases List.mem_cons.1 hs with rfl | hs
      · rcases List.mem_append.1 hx with hx | hx
        · exact hl.below z.2 (by simp) x (by rw [e]; simp [hx])
        · rcases List.mem_cons.1 hx with rfl | hx
          · exact h
          · exact hl.below z.2 (by simp) x (by rw [e]; simp [hx])
      · exact hl.below s (by rw [List.map_append, List.map_cons]; exact List.mem_append_right _ (List.mem_cons_of_mem _ hs)) x hx
end
end Go.Proofs.YtpckachmleonlaaGreatDoor
end
