/- slices.Insert of one part into a row of the call's own: the row with it at its place. -/
import Derived.Test.YtoemddjolfblbaaL
/- slices.Insert, one value into a row of the call's own. -/
set_option linter.unusedVariables false
set_option linter.unusedSimpArgs false
namespace Go.Proofs.Ytoemddjolfblbaa
open Go.RowKit Go.Proofs.YtoemddjolfblbaaW.PrintWords

theorem sz27 : (Try.prog.info? 27).map (·.size) = some 3 := by
  obtain ⟨i0, hi, h0, h1, h2⟩ := info_parts info27
  rw [hi]
  simp [h1]
theorem sizeOf27 (w : World) : (Go.sizeOf 27).run Try.prog w = .ok 3 w := by
  obtain ⟨i0, hi, h0, h1, h2⟩ := info_parts info27
  simp [sizeOf, typeInfo, hi, h1]
theorem add_off (g o j : Nat) : (⟨g, o, none⟩ : Addr).add j = ⟨g, o + j, none⟩ := by unfold Addr.add; split <;> simp_all

/-- What an insertion asks and leaves, in cells. -/
structure InsIn (w : World) (base g n cap vb : Nat) (cur ys : List Value) : Prop where
  hg : w.heap[g]? = some (.cells cur.toArray 27 (0, 0))
  hcur : cur.length = cap * 3
  hn : n ≤ cap
  hcap : cap ≤ maxLen
  hv : w.heap[vb]? = some (.cells ys.toArray 27 (0, 0))
  hys : ys.length = 3
  hne : vb ≠ g
  h1 : ∀ u ∈ cur.take (n * 3), u.oneCell' = true
  h1y : ∀ u ∈ ys, u.oneCell' = true
  hbg : base ≤ g
  hbase : base ≤ w.heap.size
  hsz : n ≤ 1000

set_option maxHeartbeats 2000000 in
set_option maxRecDepth 100000 in
/-- At the end. -/
theorem insert_end (w : World) (base g n cap vb : Nat) (cur ys : List Value) (h : InsIn w base g n cap vb cur ys) :
    Calls Try.prog 27 #[.slice (some ⟨g, 0, none⟩) n cap, .int .i64 n, .slice (some ⟨vb, 0, none⟩) 1 1] w fun e w' => ∃ v', e = .returned v' ∧ w'.ownsRow base 27 3 v' (n + 1) (cur.take (n * 3) ++ ys) ∧ Below base w w' := by
  have H := Aside0.mk h
  have hsz := h.hsz
  have hn := h.hn
  have hcap := h.hcap
  clear h
  unfold maxLen at hcap
  obtain ⟨i0, hi0, hz0, hz1, hz2⟩ := info_parts info27
  have hown : Aside0 (w.ownsRow base 27 3 (.slice (some ⟨g, 0, none⟩) n cap) n (cur.take (n * 3))) := ⟨by
    refine ⟨by rw [List.length_take, H.out.hcur]; have := Nat.mul_le_mul_right 3 hn; omega, .inr ⟨g, cap, cur.toArray, rfl, H.out.hbg, H.out.hg, hn, H.out.hcap, by simpa using H.out.hcur, by simp⟩⟩⟩
  have hI := Aside0.mk hi0
  have hZ0 := Aside0.mk hz0
  have hZ1 := Aside0.mk hz1
  have hZ2 := Aside0.mk hz2
  clear hi0 hz0 hz1 hz2
  go_enter Try.func27, Try.ntmps27
  go_wp2_with (at_builtin; refine wpList_append_own_at w rfl (.tmp 23) (.tmp 24) 30 rfl base 27 i0 _ 3 40 Try.underlying30 hI.out hZ0.out hZ1.out hZ2.out rfl (by omega) (.slice (some ⟨g, 0, none⟩) n cap) n (cur.take (n * 3)) rfl hown.out ⟨vb, 0, none⟩ 1 1 ys rfl (by rw [H.out.hys]) (fun j u hu => by rw [add_off, Nat.zero_add, blk_cell H.out.hv]; simpa using hu) H.out.h1y (by unfold maxLen; omega) (by omega) H.out.hbase ?_; intro v1 w1 ho hg1 _ _; have HO := Aside0.mk ho; have HG := Aside0.mk hg1; clear ho hg1)
  all_goals
    go_ret
    exact ⟨_, rfl, HO.out, (Below.refl _ _).grown HG.out H.out.hbase (fun k hk => by
      have e : g = k := by injection hk
      have := H.out.hbg
      omega)⟩

/-- The law on 'overlaps': two blocks. -/
theorem overlaps_no {w : World} {base g n cap vb : Nat} {cur ys : List Value} (h : InsIn w base g n cap vb cur ys) (hpos : 0 < cap) (off lb cb : Nat) :
    (callFunc 34 #[.slice (some ⟨vb, 0, none⟩) 1 1, .slice (some ⟨g, off, none⟩) lb cb]).run Try.prog w = .ok (.value (.bool false)) w := by
  rw [run_callFunc_extern Try.func34 (by kernel_rfl) (by kernel_rfl) (by kernel_rfl) (e := Extern.SlicesOverlaps.overlaps #[30, 30] #[4]) (by kernel_rfl),
    Lib.run_overlaps_apart w 30 4 27 Try.underlying30 3 sizeOf27 ⟨vb, 0, none⟩ ⟨g, off, none⟩ 1 1 lb cb h.hne 27 27 ys.toArray.size cur.toArray.size (by simp [World.shape?, h.hv]) (by simp [World.shape?, h.hg]) (by have := h.hcur; simpa using (by omega : cur.length ≠ 0))
      (blk_frozen h.hv 0) (by have := blk_frozen h.hv ys.toArray.size; exact this)]
  rfl

set_option maxHeartbeats 4000000 in
set_option maxRecDepth 100000 in
/-- In place. -/
theorem insert_room (w : World) (base g n cap vb k : Nat) (cur ys : List Value) (h : InsIn w base g n cap vb cur ys) (hk : k < n) (hroom : n + 1 ≤ cap) :
    Calls Try.prog 27 #[.slice (some ⟨g, 0, none⟩) n cap, .int .i64 k, .slice (some ⟨vb, 0, none⟩) 1 1] w fun e w' => ∃ v', e = .returned v' ∧ w'.ownsRow base 27 3 v' (n + 1) (cur.take (k * 3) ++ ys ++ (cur.take (n * 3)).drop (k * 3)) ∧ Below base w w' := by
  have H := Aside0.mk h
  have hsz := h.hsz
  have hn := h.hn
  have hcap := h.hcap
  clear h
  unfold maxLen at hcap
  have hov := fun off lb cb => overlaps_no H.out (by omega) off lb cb
  have e1 : ((k : Int) == (n : Int)) = false := ine (by omega)
  have e2 : decide ((cap : Int) < (n : Int) + 1) = false := df (by omega)
  have hw1 : IntKind.i64.wrap ((k : Int) + 1) = (k : Int) + 1 := by rw [IntKind.wrap_i64]; omega
  have hb1 : (0 : Int) ≤ (k : Int) + 1 := by omega
  have htn : ((k : Int) + 1).toNat = k + 1 := by omega
  have hb2 : ¬ (cap = k + 1) := by omega
  have hb3 : (k : Int) ≤ (n : Int) := by omega
  have hb3' : (k : Int) + 1 ≤ (n : Int) + 1 := by omega
  have hb3'' : (k : Int) ≤ (n : Int) + 1 := by omega
  have hb4 : ¬ (cap = k) := by omega
  go_enter Try.func27, Try.ntmps27
  go_wp2_with (simp only [hov])
  go_still_tail 8, (by kernel_rfl)
  change wpList _ _ _ _ _ w.drew
  have hcn := H.out.hcur
  have hys := H.out.hys
  have hm : Nat.min (n + 1 - k) (n - k) = n - k := Nat.min_eq_right (by omega)
  have hm2 : Nat.min 1 (n + 1 - k) = 1 := Nat.min_eq_left (by omega)
  have HY := Aside0.mk hys
  have HC := Aside0.mk hcn
  have HM := Aside0.mk hm
  have HM2 := Aside0.mk hm2
  clear hcn hys hm hm2 hw1 htn hov
  refine wpList_copy_run _ rfl (.tmp 73) (.tmp 76) 30 30 rfl _ _ rfl rfl (run_copy_sized w.drew 30 30 _ 27 3 Try.underlying30 sz27 g ((k + 1) * 3) (n - k) _ ⟨g, k * 3, none⟩ (n + 1 - k) _ ((cur.take (n * 3)).drop (k * 3)) cur 27 H.out.hg ?hn ?hsrc ?hfit ?h1) ?_
  case hn => rw [HM.out, List.length_drop, List.length_take, HC.out]; have := Nat.mul_le_mul_right 3 hn; omega
  case hsrc =>
    intro j v hj
    rw [add_off, show w.drew.cell? ⟨g, k * 3 + j, none⟩ = cur.toArray[k * 3 + j]? from blk_cell H.out.hg _]
    rw [List.getElem?_drop, List.getElem?_take] at hj
    split at hj
    · simpa using hj
    · cases hj
  case hfit => rw [List.length_drop, List.length_take, HC.out]; omega
  case h1 => exact fun u hu => H.out.h1 u (List.mem_of_mem_drop hu)
  obtain ⟨W1, hW1⟩ : ∃ W1, W1 = w.drew.setCells g ((k + 1) * 3) ((cur.take (n * 3)).drop (k * 3)) := ⟨_, rfl⟩
  rw [← hW1]
  have HW := Aside0.mk hW1
  clear hW1
  have hL : ((cur.take (n * 3)).drop (k * 3)).length = n * 3 - k * 3 := by rw [List.length_drop, List.length_take, HC.out]; have := Nat.mul_le_mul_right 3 hn; omega
  have hL2 : (k + 1) * 3 + ((cur.take (n * 3)).drop (k * 3)).length ≤ cur.length := by rw [hL, HC.out]; omega
  have HG1 : Aside0 (W1.heap[g]? = some (.cells (splice cur ((k + 1) * 3) ((cur.take (n * 3)).drop (k * 3))).toArray 27 (0, 0))) := ⟨by rw [HW.out]; exact setCells_blk (w := w.drew) H.out.hg hL2⟩
  have HV1 : Aside0 (W1.heap[vb]? = some (.cells ys.toArray 27 (0, 0))) := ⟨by rw [HW.out, setCells_far _ _ _ H.out.hne]; exact H.out.hv⟩
  have hsl : (splice cur ((k + 1) * 3) ((cur.take (n * 3)).drop (k * 3))).length = cap * 3 := by rw [length_splice _ _ _ hL2, HC.out]
  have HC2 : Aside0 (∀ ty dc, (Builtin.copy_ #[30, 30] ty #[.slice (some ⟨g, k * 3, none⟩) (n + 1 - k) dc, .slice (some ⟨vb, 0, none⟩) 1 1]).run Try.prog W1 = .ok (goInt (Nat.min 1 (n + 1 - k))) (W1.setCells g (k * 3) ys)) := ⟨fun ty dc =>
    run_copy_sized W1 30 30 ty 27 3 Try.underlying30 sz27 g (k * 3) (n + 1 - k) dc ⟨vb, 0, none⟩ 1 1 ys (splice cur ((k + 1) * 3) ((cur.take (n * 3)).drop (k * 3))) 27 HG1.out (by rw [HM2.out, HY.out])
      (fun j v hj => by rw [add_off, Nat.zero_add, blk_cell HV1.out]; simpa using hj) (by rw [hsl, HY.out]; omega) H.out.h1y⟩
  have HSL := Aside0.mk hsl
  have HL2 := Aside0.mk hL2
  clear hL hsl hL2
  go_wp2_with (with_reducible refine wpList_copy_run W1 rfl (.tmp 80) (.tmp 81) 30 30 rfl _ _ rfl rfl (HC2.out _ _) ?_)
  go_ret
  have hb := Aside0.mk (setCells_below (cs := ys) (off := k * 3) (show Below base w W1 by rw [HW.out]; exact setCells_below (w := w.drew) (Below.refl base w).drew H.out.hbg) H.out.hbg)
  have hr := setCells_blk (off := k * 3) (cs := ys) HG1.out (by rw [HSL.out, HY.out]; omega)
  have h3 : (splice (splice cur ((k + 1) * 3) ((cur.take (n * 3)).drop (k * 3))) (k * 3) ys).length = cap * 3 := by rw [length_splice _ _ _ (by rw [HSL.out, HY.out]; omega), HSL.out]
  have h4 : (splice (splice cur ((k + 1) * 3) ((cur.take (n * 3)).drop (k * 3))) (k * 3) ys).take ((n + 1) * 3) = cur.take (k * 3) ++ ys ++ (cur.take (n * 3)).drop (k * 3) := by
    rw [show (k + 1) * 3 = k * 3 + 3 by omega]
    exact splice_take cur ys (k * 3) 3 (n * 3) _ HY.out (by omega) (by rw [HC.out]; omega) (by omega)
  refine ⟨_, rfl, ⟨?_, .inr ⟨g, cap, _, rfl, H.out.hbg, hr, hroom, H.out.hcap, by simpa using h3, by simpa using h4⟩⟩, hb.out⟩
  rw [← h4, List.length_take, h3]
  omega

theorem zeroCells_length (z : Value) (n s : Nat) (hz : z.cells.size = s) : (Builtin.zeroCells z.cells n).toList.length = n * s := by
  rw [Array.length_toList, size_zeroCells, hz]

set_option maxHeartbeats 4000000 in
set_option maxRecDepth 100000 in
/-- No room: a new row. -/
theorem insert_grow (w : World) (base g n cap vb k : Nat) (cur ys : List Value) (h : InsIn w base g n cap vb cur ys) (hk : k < n) (hroom : cap < n + 1) :
    Calls Try.prog 27 #[.slice (some ⟨g, 0, none⟩) n cap, .int .i64 k, .slice (some ⟨vb, 0, none⟩) 1 1] w fun e w' => ∃ v', e = .returned v' ∧ w'.ownsRow base 27 3 v' (n + 1) (cur.take (k * 3) ++ ys ++ (cur.take (n * 3)).drop (k * 3)) ∧ Below base w w' := by
  have H := Aside0.mk h
  have hsz := h.hsz
  have hn := h.hn
  obtain rfl : cap = n := by omega
  clear h
  have hcn := H.out.hcur
  have hgl : g < w.heap.size := blk_lt H.out.hg
  have hvl : vb < w.heap.size := blk_lt H.out.hv
  obtain ⟨i0, hi0, hz0, hz1, hz2⟩ := info_parts info27
  have hold : (Builtin.firstCells i0.size k (.slice (some ⟨g, 0, none⟩) k cap)).run Try.prog w.drew = .ok (cur.take (k * 3)).toArray w.drew := by
    rw [hz1]
    exact run_firstCells_some w.drew 3 k ⟨g, 0, none⟩ k cap (cur.take (k * 3)) (by rw [List.length_take, hcn]; omega) (fun j v hj => by
      rw [add_off, Nat.zero_add, show w.drew.cell? ⟨g, j, none⟩ = cur.toArray[j]? from blk_cell H.out.hg _]
      rw [List.getElem?_take] at hj
      split at hj
      · simpa using hj
      · cases hj)
  have hik : k + (cap + 1 - k) = cap + 1 := by omega
  have hrz := fun ty => Lib.run_append_grow_zeros w 30 3 ty 27 i0 _ .i64 .i64 Try.underlying30 Try.underlying3 hi0 hz0 (some ⟨g, 0, none⟩) k cap (cur.take (k * 3)) hold (cap + 1 - k) (by omega) (by omega) (by omega) (by omega) (by rw [hz2]; omega) (by rw [hz2, hik]; exact growslice_fits (by omega) (by omega))
  rw [hik] at hrz
  obtain ⟨C, hC⟩ : ∃ C, C = grownCap w (cap + 1) cap 27 := ⟨_, rfl⟩
  obtain ⟨R, hR⟩ : ∃ R : List Value, R = cur.take (k * 3) ++ (Builtin.zeroCells (Value.agg #[.string ⟨#[]⟩, .string ⟨#[]⟩, .int .u64 0]).cells (cap + 1 - k)).toList ++ (Builtin.zeroCells (Value.agg #[.string ⟨#[]⟩, .string ⟨#[]⟩, .int .u64 0]).cells (C - (cap + 1))).toList := ⟨_, rfl⟩
  have hC1 : cap + 1 ≤ C := by rw [hC]; exact grownCap_ge w (cap + 1) cap 27
  have hC2 : C ≤ maxLen := by rw [hC]; exact grownCap_le_maxLen w (cap + 1) cap 27 (by unfold maxLen; omega)
  have hRl : R.length = C * 3 := by
    rw [hR, List.length_append, List.length_append, zeroCells_length _ _ 3 rfl, zeroCells_length _ _ 3 rfl, List.length_take, hcn]
    omega
  have hRt : R.take (k * 3) = cur.take (k * 3) := by
    rw [hR, List.append_assoc, List.take_left' (by rw [List.length_take, hcn]; omega)]
  have hRA : (cur.take (k * 3)).toArray ++ Builtin.zeroCells (Value.agg #[.string ⟨#[]⟩, .string ⟨#[]⟩, .int .u64 0]).cells (cap + 1 - k) ++ Builtin.zeroCells (Value.agg #[.string ⟨#[]⟩, .string ⟨#[]⟩, .int .u64 0]).cells (C - (cap + 1)) = R.toArray := by
    rw [hR]
    apply Array.ext'
    simp
  rw [← hC, hRA] at hrz
  have hkk : ((cap : Int) + 1 - (k : Int)) = ((cap + 1 - k : Nat) : Int) := by omega
  have hrz' : ∀ ty, (Builtin.append_ #[30, 3] ty #[.slice (some ⟨g, 0, none⟩) k cap, .int .i64 ((cap : Int) + 1 - (k : Int))]).run Try.prog w = .ok (.slice (some ⟨w.heap.size, 0, none⟩) (cap + 1) C) (w.drew.alloc (.cells R.toArray 27)) := fun ty => by rw [hkk]; exact hrz ty
  have HRZ := Aside0.mk hrz'
  have HC := Aside0.mk hC
  have HR := Aside0.mk hR
  have HRL := Aside0.mk hRl
  have HRT := Aside0.mk hRt
  have HCN := Aside0.mk hcn
  have HC2 := Aside0.mk hC2
  clear hrz hrz' hold hC hR hRA hRl hRt hkk hik hi0 hz0 hz1 hz2 hcn
  obtain ⟨W0, hW0⟩ : ∃ W0, W0 = w.drew.alloc (.cells R.toArray 27) := ⟨_, rfl⟩
  have HW0 := Aside0.mk hW0
  have HG0 : Aside0 (W0.heap[w.heap.size]? = some (.cells R.toArray 27 (0, 0))) := ⟨by rw [hW0]; exact heap_alloc_new w.drew _⟩
  have HB0 : Aside0 (Below w.heap.size w W0) := ⟨by rw [hW0]; exact (Below.refl w.heap.size w).drew.alloc (Nat.le_refl _) _⟩
  rw [← hW0] at HRZ
  clear hW0
  have HV0 : Aside0 (W0.heap[vb]? = some (.cells ys.toArray 27 (0, 0))) := ⟨(HB0.out.block vb hvl).trans H.out.hv⟩
  have hm2 : Nat.min 1 (cap + 1 - k) = 1 := Nat.min_eq_left (by omega)
  have HM2 := Aside0.mk hm2
  clear hm2
  have HCA : Aside0 (∀ ty dc, (Builtin.copy_ #[30, 30] ty #[.slice (some ⟨w.heap.size, k * 3, none⟩) (cap + 1 - k) dc, .slice (some ⟨vb, 0, none⟩) 1 1]).run Try.prog W0 = .ok (goInt (Nat.min 1 (cap + 1 - k))) (W0.setCells w.heap.size (k * 3) ys)) := ⟨fun ty dc =>
    run_copy_sized W0 30 30 ty 27 3 Try.underlying30 sz27 w.heap.size (k * 3) (cap + 1 - k) dc ⟨vb, 0, none⟩ 1 1 ys R 27 HG0.out (by rw [HM2.out, H.out.hys])
      (fun j v hj => by rw [add_off, Nat.zero_add, blk_cell HV0.out]; simpa using hj) (by rw [HRL.out, H.out.hys]; omega) H.out.h1y⟩
  obtain ⟨W1, hW1⟩ : ∃ W1, W1 = W0.setCells w.heap.size (k * 3) ys := ⟨_, rfl⟩
  have HW1 := Aside0.mk hW1
  have HG1 : Aside0 (W1.heap[w.heap.size]? = some (.cells (splice R (k * 3) ys).toArray 27 (0, 0))) := ⟨by rw [hW1]; exact setCells_blk HG0.out (by rw [HRL.out, H.out.hys]; omega)⟩
  have HB1 : Aside0 (Below w.heap.size w W1) := ⟨by rw [hW1]; exact setCells_below HB0.out (Nat.le_refl _)⟩
  rw [← hW1] at HCA
  clear hW1
  have e1 : ((k : Int) == (cap : Int)) = false := ine (by omega)
  have e2 : decide ((cap : Int) < (cap : Int) + 1) = true := dt (by omega)
  have hw1 : IntKind.i64.wrap ((k : Int) + 1) = (k : Int) + 1 := by rw [IntKind.wrap_i64]; omega
  have hb1 : (0 : Int) ≤ (k : Int) + 1 := by omega
  have htn : ((k : Int) + 1).toNat = k + 1 := by omega
  have hb2 : ¬ (C = k + 1) := by omega
  have hb3 : (k : Int) ≤ (cap : Int) := by omega
  have hb3' : (k : Int) + 1 ≤ (cap : Int) + 1 := by omega
  have hb3'' : (k : Int) ≤ (cap : Int) + 1 := by omega
  have hb4 : ¬ (cap = k) := by omega
  have hb5 : ¬ (C = k) := by omega
  go_enter Try.func27, Try.ntmps27
  go_wp2_with (first | (at_builtin; refine Lib.wpList_append_run w rfl (.tmp 34) (.tmp 39) 30 3 rfl _ _ rfl rfl _ _ (HRZ.out _) ?_) | (with_reducible refine wpList_copy_run W0 rfl (.tmp 43) (.tmp 44) 30 30 rfl _ _ rfl rfl (HCA.out _ _) ?_))
  go_still_tail 8, (by kernel_rfl)
  change wpList _ _ _ _ _ W1.drew
  have hm : Nat.min (cap - k) (cap - k) = cap - k := Nat.min_self _
  have HM := Aside0.mk hm
  have hL : ((cur.take (cap * 3)).drop (k * 3)).length = cap * 3 - k * 3 := by rw [List.length_drop, List.length_take, HCN.out]; omega
  have hsp1 : (splice R (k * 3) ys).length = C * 3 := by rw [length_splice _ _ _ (by rw [HRL.out, H.out.hys]; omega), HRL.out]
  have HGg : Aside0 (W1.heap[g]? = some (.cells cur.toArray 27 (0, 0))) := ⟨(HB1.out.block g hgl).trans H.out.hg⟩
  refine wpList_copy_run _ rfl (.tmp 50) (.tmp 53) 30 30 rfl _ _ rfl rfl (run_copy_sized W1.drew 30 30 _ 27 3 Try.underlying30 sz27 w.heap.size ((k + 1) * 3) (cap - k) _ ⟨g, k * 3, none⟩ (cap - k) _ ((cur.take (cap * 3)).drop (k * 3)) (splice R (k * 3) ys) 27 HG1.out ?hn ?hsrc ?hfit ?h1) ?_
  case hn => rw [HM.out, hL]; omega
  case hsrc =>
    intro j v hj
    rw [add_off, show W1.drew.cell? ⟨g, k * 3 + j, none⟩ = cur.toArray[k * 3 + j]? from blk_cell HGg.out _]
    rw [List.getElem?_drop, List.getElem?_take] at hj
    split at hj
    · simpa using hj
    · cases hj
  case hfit => rw [hL, hsp1]; omega
  case h1 => exact fun u hu => H.out.h1 u (List.mem_of_mem_drop hu)
  clear hw1 htn
  go_wp2_with fail
  go_ret
  have hys := H.out.hys
  have hfit : (k + 1) * 3 + ((cur.take (cap * 3)).drop (k * 3)).length ≤ (splice R (k * 3) ys).length := by rw [hL, hsp1]; omega
  have hr := setCells_blk (w := W1.drew) (off := (k + 1) * 3) (cs := (cur.take (cap * 3)).drop (k * 3)) HG1.out hfit
  have hb := setCells_below (w := W1.drew) (off := (k + 1) * 3) (cs := (cur.take (cap * 3)).drop (k * 3)) HB1.out.drew (Nat.le_refl _)
  have h3 : (splice (splice R (k * 3) ys) ((k + 1) * 3) ((cur.take (cap * 3)).drop (k * 3))).length = C * 3 := by rw [length_splice _ _ _ hfit, hsp1]
  have h4 : (splice (splice R (k * 3) ys) ((k + 1) * 3) ((cur.take (cap * 3)).drop (k * 3))).take ((cap + 1) * 3) = cur.take (k * 3) ++ ys ++ (cur.take (cap * 3)).drop (k * 3) := by
    have e1 : (splice R (k * 3) ys).take ((k + 1) * 3) = cur.take (k * 3) ++ ys := by
      unfold splice
      rw [← List.append_assoc, List.take_left' (by rw [List.length_append, List.length_take, HRL.out, hys]; omega), HRT.out]
    unfold splice at e1 ⊢
    rw [e1, ← List.append_assoc, List.take_left' (by rw [List.length_append, List.length_append, List.length_take, hL, hys, HCN.out]; omega)]
  refine ⟨_, rfl, ⟨?_, .inr ⟨w.heap.size, C, _, rfl, H.out.hbase, hr, hC1, HC2.out, by simpa using h3, by simpa using h4⟩⟩, hb.mono H.out.hbase⟩
  rw [← h4, List.length_take, h3]
  omega

/-- slices.Insert(s, k, x), s a row of the call's own. -/
theorem insert_any (w : World) (base g n cap vb k : Nat) (cur ys : List Value) (h : InsIn w base g n cap vb cur ys) (hk : k ≤ n) :
    Calls Try.prog 27 #[.slice (some ⟨g, 0, none⟩) n cap, .int .i64 k, .slice (some ⟨vb, 0, none⟩) 1 1] w fun e w' => ∃ v', e = .returned v' ∧ w'.ownsRow base 27 3 v' (n + 1) (cur.take (k * 3) ++ ys ++ (cur.take (n * 3)).drop (k * 3)) ∧ Below base w w' := by
  rcases Nat.lt_or_ge k n with h1 | h1
  · rcases Nat.lt_or_ge cap (n + 1) with h2 | h2
    · exact insert_grow w base g n cap vb k cur ys h h1 h2
    · exact insert_room w base g n cap vb k cur ys h h1 h2
  · obtain rfl : k = n := by omega
    rw [List.drop_eq_nil_of_le (by rw [List.length_take]; omega), List.append_nil]
    exact insert_end w base g k cap vb cur ys h
end Go.Proofs.Ytoemddjolfblbaa
