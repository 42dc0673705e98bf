/- Words and walks for Split and Tablet: texts of these sessions, and of the kit's print, cut down to what is used (B C). -/
import Derived.Test.YtpckachmleonlaaGreatDoorCv4
import Derived.Test.YtpckachmleonlaaGreatDoorCv5
import Derived.Great.BuildSlice
import Derived.Great.Walk
section
set_option linter.unusedVariables false
set_option linter.unusedSimpArgs false
namespace Go.Proofs.YtpckachmleonlaaGreatDoor
open Go.RowKit Go.Proofs.YtpckachmleonlaaGreatDoorW.PrintWords
theorem below_setRow {B : Nat} {a w : World} (h : Below B a w) {g : Nat} (hg : B ≤ g) (cs : Array Value) : Below B a (w.setRow g cs) := by
  have hs := h.size
  exact ⟨h.os, h.tape, h.output, by rw [setRow_size]; exact h.size, fun b hb => (setRow_other w g b cs (by omega)).trans (h.block b hb)⟩
def kW : List Int := [1116352408, 1899447441, 3049323471, 3921009573, 961987163, 1508970993, 2453635748, 2870763221, 3624381080, 310598401, 607225278, 1426881987, 1925078388, 2162078206, 2614888103, 3248222580, 3835390401, 4022224774, 264347078, 604807628, 770255983, 1249150122, 1555081692, 1996064986, 2554220882, 2821834349, 2952996808, 3210313671, 3336571891, 3584528711, 113926993, 338241895, 666307205, 773529912, 1294757372, 1396182291, 1695183700, 1986661051, 2177026350, 2456956037, 2730485921, 2820302411, 3259730800, 3345764771, 3516065817, 3600352804, 4094571909, 275423344, 430227734, 506948616, 659060556, 883997877, 958139571, 1322822218, 1537002063, 1747873779, 1955562222, 2024104815, 2227730452, 2361852424, 2428436474, 2756734187, 3204031479, 3329325298]
def kA : Array Value := (kW.map (Value.int .u32)).toArray
def z64 : Array Value := (List.replicate 64 (Value.int .u32 0)).toArray
set_option maxHeartbeats 1000000 in
set_option maxRecDepth 100000 in
theorem round_any (t : Nat) (ht : t < 64) (w : World) :
    Calls Tryz.prog 151 #[.int .i64 t] w fun e w' => e = .returned (.int .u32 (kW.getD t 0)) ∧ Below w.heap.size w w' := by
  go_enter Tryz.func151, Tryz.ntmps151
  go_upto_region 1 with fail
  apply wp_region_lit
  refine wpList_buildFlatArrTo rfl 190 157 64 _ rfl .u32 kW (some 4) rfl (by as_aux_lemma => kernel_rfl) (by as_aux_lemma => kernel_rfl) (by as_aux_lemma => kernel_rfl) (by as_aux_lemma => kernel_rfl) ?_
  have hs4 : ∀ (x : Act) v, (x.tmps.size = 8) → (x.put (some 4) v).eval (.tmp 4) = v := fun x v h => Act.eval_put_same x 4 v (by omega)
  refine Great.wpList_allocTo rfl (some 3) rfl (.pointer (some ⟨w.heap.size, 0, none⟩)) (.cells z64 190) (by as_aux_lemma => kernel_rfl) ?_
  refine wpList_store_rowTo rfl 190 _ _ rfl rfl w.heap.size kA rfl rfl 190 z64 (heap_alloc_new _ _) (by as_aux_lemma => kernel_rfl) (by as_aux_lemma => kernel_rfl) (by as_aux_lemma => kernel_rfl) ?_
  apply wpList_nil
  have hc : zAa (((w.alloc (.cells z64 190)).setRow w.heap.size kA).heap[w.heap.size]? = some (.cells kA 190 (0, 0))) := ⟨setRow_heap _ _ _ _ _ _ (heap_alloc_new _ _)⟩
  have hb : zAa (Below w.heap.size w ((w.alloc (.cells z64 190)).setRow w.heap.size kA)) := ⟨below_setRow (zAb (Below.refl _ _) _) (Nat.le_refl _) _⟩
  generalize ((w.alloc (.cells z64 190)).setRow w.heap.size kA) = W at hc hb ⊢
  generalize (List.map (Value.int IntKind.u32) kW).toArray = va
  have c0 : W.cell? ⟨w.heap.size, t, none⟩ = some (.int .u32 (kW.getD t 0)) := by
    rw [zAc hc.out]
    have h9 : t < kW.length := ht
    simp [kA, List.getD_eq_getElem?_getD, List.getElem?_eq_getElem h9]
  obtain ⟨kx, hkx⟩ : ∃ k, kW.getD t 0 = k := ⟨_, rfl⟩
  have HK := zAa.mk hkx
  rw [hkx] at c0
  clear hkx
  go_wp2_with fail
  go_ret
  exact ⟨by rw [HK.out]; rfl, hb.out⟩
theorem u64_nonneg (t : Int) : 0 ≤ IntKind.u64.wrap t := by
  unfold IntKind.wrap
  simp only []
  exact Int.emod_nonneg _ (by decide)
def rotM (x : Int) (n : Nat) : Int := Go.bits .or .u32 (x * 2 ^ (32 - n) % 4294967296) (x / 2 ^ n)
theorem and_2 : Go.bits .and .u64 (IntKind.u64.wrap (-2)) 31 = 30 := by decide
set_option maxHeartbeats 1000000 in
theorem rot_2 (x : Int) (w : World) : Calls Tryz.prog 164 #[.int .u32 x, .int .i64 (-2)] w fun e w' => e = .returned (.int .u32 (rotM x 2)) ∧ w' = w := by
  have e1 := and_2
  go_enter Tryz.func164, Tryz.ntmps164
  go_wp2
  go_ret
  exact ⟨rfl, rfl⟩
set_option maxHeartbeats 1000000 in
theorem right_2 (x : Int) (w : World) : Calls Tryz.prog 150 #[.int .u32 x, .int .i64 2] w fun e w' => e = .returned (.int .u32 (rotM x 2)) ∧ w' = w := by
  go_enter Tryz.func150, Tryz.ntmps150
  go_wp2_with fail
  refine (rot_2 x _).mono ?_
  rintro e w1 ⟨rfl, rfl⟩
  go_wp2_with fail
  go_ret
  exact ⟨rfl, rfl⟩
theorem and_6 : Go.bits .and .u64 (IntKind.u64.wrap (-6)) 31 = 26 := by decide
set_option maxHeartbeats 1000000 in
theorem rot_6 (x : Int) (w : World) : Calls Tryz.prog 164 #[.int .u32 x, .int .i64 (-6)] w fun e w' => e = .returned (.int .u32 (rotM x 6)) ∧ w' = w := by
  have e1 := and_6
  go_enter Tryz.func164, Tryz.ntmps164
  go_wp2
  go_ret
  exact ⟨rfl, rfl⟩
set_option maxHeartbeats 1000000 in
theorem right_6 (x : Int) (w : World) : Calls Tryz.prog 150 #[.int .u32 x, .int .i64 6] w fun e w' => e = .returned (.int .u32 (rotM x 6)) ∧ w' = w := by
  go_enter Tryz.func150, Tryz.ntmps150
  go_wp2_with fail
  refine (rot_6 x _).mono ?_
  rintro e w1 ⟨rfl, rfl⟩
  go_wp2_with fail
  go_ret
  exact ⟨rfl, rfl⟩
theorem and_7 : Go.bits .and .u64 (IntKind.u64.wrap (-7)) 31 = 25 := by decide
set_option maxHeartbeats 1000000 in
theorem rot_7 (x : Int) (w : World) : Calls Tryz.prog 164 #[.int .u32 x, .int .i64 (-7)] w fun e w' => e = .returned (.int .u32 (rotM x 7)) ∧ w' = w := by
  have e1 := and_7
  go_enter Tryz.func164, Tryz.ntmps164
  go_wp2
  go_ret
  exact ⟨rfl, rfl⟩
set_option maxHeartbeats 1000000 in
theorem right_7 (x : Int) (w : World) : Calls Tryz.prog 150 #[.int .u32 x, .int .i64 7] w fun e w' => e = .returned (.int .u32 (rotM x 7)) ∧ w' = w := by
  go_enter Tryz.func150, Tryz.ntmps150
  go_wp2_with fail
  refine (rot_7 x _).mono ?_
  rintro e w1 ⟨rfl, rfl⟩
  go_wp2_with fail
  go_ret
  exact ⟨rfl, rfl⟩
theorem and_11 : Go.bits .and .u64 (IntKind.u64.wrap (-11)) 31 = 21 := by decide
set_option maxHeartbeats 1000000 in
theorem rot_11 (x : Int) (w : World) : Calls Tryz.prog 164 #[.int .u32 x, .int .i64 (-11)] w fun e w' => e = .returned (.int .u32 (rotM x 11)) ∧ w' = w := by
  have e1 := and_11
  go_enter Tryz.func164, Tryz.ntmps164
  go_wp2
  go_ret
  exact ⟨rfl, rfl⟩
set_option maxHeartbeats 1000000 in
theorem right_11 (x : Int) (w : World) : Calls Tryz.prog 150 #[.int .u32 x, .int .i64 11] w fun e w' => e = .returned (.int .u32 (rotM x 11)) ∧ w' = w := by
  go_enter Tryz.func150, Tryz.ntmps150
  go_wp2_with fail
  refine (rot_11 x _).mono ?_
  rintro e w1 ⟨rfl, rfl⟩
  go_wp2_with fail
  go_ret
  exact ⟨rfl, rfl⟩
theorem and_13 : Go.bits .and .u64 (IntKind.u64.wrap (-13)) 31 = 19 := by decide
set_option maxHeartbeats 1000000 in
theorem rot_13 (x : Int) (w : World) : Calls Tryz.prog 164 #[.int .u32 x, .int .i64 (-13)] w fun e w' => e = .returned (.int .u32 (rotM x 13)) ∧ w' = w := by
  have e1 := and_13
  go_enter Tryz.func164, Tryz.ntmps164
  go_wp2
  go_ret
  exact ⟨rfl, rfl⟩
set_option maxHeartbeats 1000000 in
theorem right_13 (x : Int) (w : World) : Calls Tryz.prog 150 #[.int .u32 x, .int .i64 13] w fun e w' => e = .returned (.int .u32 (rotM x 13)) ∧ w' = w := by
  go_enter Tryz.func150, Tryz.ntmps150
  go_wp2_with fail
  refine (rot_13 x _).mono ?_
  rintro e w1 ⟨rfl, rfl⟩
  go_wp2_with fail
  go_ret
  exact ⟨rfl, rfl⟩
theorem and_17 : Go.bits .and .u64 (IntKind.u64.wrap (-17)) 31 = 15 := by decide
set_option maxHeartbeats 1000000 in
theorem rot_17 (x : Int) (w : World) : Calls Tryz.prog 164 #[.int .u32 x, .int .i64 (-17)] w fun e w' => e = .returned (.int .u32 (rotM x 17)) ∧ w' = w := by
  have e1 := and_17
  go_enter Tryz.func164, Tryz.ntmps164
  go_wp2
  go_ret
  exact ⟨rfl, rfl⟩
set_option maxHeartbeats 1000000 in
theorem right_17 (x : Int) (w : World) : Calls Tryz.prog 150 #[.int .u32 x, .int .i64 17] w fun e w' => e = .returned (.int .u32 (rotM x 17)) ∧ w' = w := by
  go_enter Tryz.func150, Tryz.ntmps150
  go_wp2_with fail
  refine (rot_17 x _).mono ?_
  rintro e w1 ⟨rfl, rfl⟩
  go_wp2_with fail
  go_ret
  exact ⟨rfl, rfl⟩
theorem and_18 : Go.bits .and .u64 (IntKind.u64.wrap (-18)) 31 = 14 := by decide
set_option maxHeartbeats 1000000 in
theorem rot_18 (x : Int) (w : World) : Calls Tryz.prog 164 #[.int .u32 x, .int .i64 (-18)] w fun e w' => e = .returned (.int .u32 (rotM x 18)) ∧ w' = w := by
  have e1 := and_18
  go_enter Tryz.func164, Tryz.ntmps164
  go_wp2
  go_ret
  exact ⟨rfl, rfl⟩
set_option maxHeartbeats 1000000 in
theorem right_18 (x : Int) (w : World) : Calls Tryz.prog 150 #[.int .u32 x, .int .i64 18] w fun e w' => e = .returned (.int .u32 (rotM x 18)) ∧ w' = w := by
  go_enter Tryz.func150, Tryz.ntmps150
  go_wp2_with fail
  refine (rot_18 x _).mono ?_
  rintro e w1 ⟨rfl, rfl⟩
  go_wp2_with fail
  go_ret
  exact ⟨rfl, rfl⟩
theorem and_19 : Go.bits .and .u64 (IntKind.u64.wrap (-19)) 31 = 13 := by decide
set_option maxHeartbeats 1000000 in
theorem rot_19 (x : Int) (w : World) : Calls Tryz.prog 164 #[.int .u32 x, .int .i64 (-19)] w fun e w' => e = .returned (.int .u32 (rotM x 19)) ∧ w' = w := by
  have e1 := and_19
  go_enter Tryz.func164, Tryz.ntmps164
  go_wp2
  go_ret
  exact ⟨rfl, rfl⟩
set_option maxHeartbeats 1000000 in
theorem right_19 (x : Int) (w : World) : Calls Tryz.prog 150 #[.int .u32 x, .int .i64 19] w fun e w' => e = .returned (.int .u32 (rotM x 19)) ∧ w' = w := by
  go_enter Tryz.func150, Tryz.ntmps150
  go_wp2_with fail
  refine (rot_19 x _).mono ?_
  rintro e w1 ⟨rfl, rfl⟩
  go_wp2_with fail
  go_ret
  exact ⟨rfl, rfl⟩
theorem and_22 : Go.bits .and .u64 (IntKind.u64.wrap (-22)) 31 = 10 := by decide
set_option maxHeartbeats 1000000 in
theorem rot_22 (x : Int) (w : World) : Calls Tryz.prog 164 #[.int .u32 x, .int .i64 (-22)] w fun e w' => e = .returned (.int .u32 (rotM x 22)) ∧ w' = w := by
  have e1 := and_22
  go_enter Tryz.func164, Tryz.ntmps164
  go_wp2
  go_ret
  exact ⟨rfl, rfl⟩
set_option maxHeartbeats 1000000 in
theorem right_22 (x : Int) (w : World) : Calls Tryz.prog 150 #[.int .u32 x, .int .i64 22] w fun e w' => e = .returned (.int .u32 (rotM x 22)) ∧ w' = w := by
  go_enter Tryz.func150, Tryz.ntmps150
  go_wp2_with fail
  refine (rot_22 x _).mono ?_
  rintro e w1 ⟨rfl, rfl⟩
  go_wp2_with fail
  go_ret
  exact ⟨rfl, rfl⟩
theorem and_25 : Go.bits .and .u64 (IntKind.u64.wrap (-25)) 31 = 7 := by decide
set_option maxHeartbeats 1000000 in
theorem rot_25 (x : Int) (w : World) : Calls Tryz.prog 164 #[.int .u32 x, .int .i64 (-25)] w fun e w' => e = .returned (.int .u32 (rotM x 25)) ∧ w' = w := by
  have e1 := and_25
  go_enter Tryz.func164, Tryz.ntmps164
  go_wp2
  go_ret
  exact ⟨rfl, rfl⟩
set_option maxHeartbeats 1000000 in
theorem right_25 (x : Int) (w : World) : Calls Tryz.prog 150 #[.int .u32 x, .int .i64 25] w fun e w' => e = .returned (.int .u32 (rotM x 25)) ∧ w' = w := by
  go_enter Tryz.func150, Tryz.ntmps150
  go_wp2_with fail
  refine (rot_25 x _).mono ?_
  rintro e w1 ⟨rfl, rfl⟩
  go_wp2_with fail
  go_ret
  exact ⟨rfl, rfl⟩
end Go.Proofs.YtpckachmleonlaaGreatDoor
end
section
set_option linter.unusedVariables false
set_option linter.unusedSimpArgs false
namespace Go.Proofs.YtpckachmleonlaaGreatDoor
open Go.RowKit Go.Proofs.YtpckachmleonlaaGreatDoorW.PrintWords
def zFe (L : List Int) : List Value := L.map (Value.int .u32)
theorem wcells_length (L : List Int) : (zFe L).length = L.length := by simp [zFe]
theorem wcells_get {L : List Int} {i : Nat} (h : i < L.length) : (zFe L)[i]? = some (.int .u32 (L.getD i 0)) := by
  simp [zFe, List.getD_eq_getElem?_getD, List.getElem?_eq_getElem h]
structure WAt (w : World) (g : Nat) (L : List Int) : Prop where
  hb : w.heap[g]? = some (.cells (zFe L).toArray 190 (0, 0))
  len : L.length = 64
section
variable {w w' : World} {g : Nat} {L : List Int}
theorem WAt.cell (h : WAt w g L) {i : Nat} (hi : i < 64) : w.cell? ⟨g, i, none⟩ = some (.int .u32 (L.getD i 0)) := by
  rw [zAc h.hb]
  have := wcells_get (L := L) (i := i) (by rw [h.len]; exact hi)
  simpa using this
theorem WAt.set (h : WAt w g L) (i : Nat) (x : Int) : WAt (w.setCell ⟨g, i, none⟩ (.int .u32 x)) g (L.set i x) := by
  refine ⟨?_, by rw [List.length_set, h.len]⟩
  rw [zBh h.hb i (.int .u32 x)]
  simp [zFe, List.map_set]
theorem WAt.keep (h : WAt w g L) (hb : Below w.heap.size w w') : WAt w' g L := ⟨zAf h.hb hb, h.len⟩
theorem WAt.range (h : WAt w g L) : w.rangeAt g 0 (zFe L) := by
  intro j v hj
  rw [Nat.zero_add, zAc h.hb]
  simpa using hj
theorem size190 (h : L.length = 64) : (Tryz.prog.info? 190).map (·.size) = some (zFe L).length := by
  rw [wcells_length, h]
  kernel_rfl
end
structure HM where
  h : List Int
  tail : List Int
  n : Int
def HM.cells (H : HM) : List Value := H.h.map (Value.int .u32) ++ H.tail.map (Value.int .u8) ++ [Value.int .u64 H.n]
structure HAt (w : World) (b : Nat) (H : HM) : Prop where
  hb : w.heap[b]? = some (.cells H.cells.toArray 172 (0, 0))
  lh : H.h.length = 8
  lt : H.tail.length = 64
section
variable {w w' : World} {b : Nat} {H : HM}
theorem HAt.h_cell (h : HAt w b H) {i : Nat} (hi : i < 8) : w.cell? ⟨b, i, none⟩ = some (.int .u32 (H.h.getD i 0)) := by
  rw [zAc h.hb]
  have h1 : i < H.h.length := by rw [h.lh]; exact hi
  simp [HM.cells, List.getD_eq_getElem?_getD, List.getElem?_append, h1]
theorem HAt.t_cell (h : HAt w b H) {i : Nat} (hi : i < 64) : w.cell? ⟨b, 8 + i, none⟩ = some (.int .u8 (H.tail.getD i 0)) := by
  rw [zAc h.hb]
  have h1 : i < H.tail.length := by rw [h.lt]; exact hi
  have h2 : 8 + i < 8 + H.tail.length := by omega
  have h3 : 8 + i - 8 = i := by omega
  simp [HM.cells, List.getD_eq_getElem?_getD, List.getElem?_append, h1, h.lh, h2, h3]
theorem HAt.n_cell (h : HAt w b H) : w.cell? ⟨b, 72, none⟩ = some (.int .u64 H.n) := by
  rw [zAc h.hb]
  simp [HM.cells, List.getElem?_append, h.lh, h.lt]
theorem HAt.set_h (h : HAt w b H) {i : Nat} (hi : i < 8) (x : Int) : HAt (w.setCell ⟨b, i, none⟩ (.int .u32 x)) b { H with h := H.h.set i x } := by
  refine ⟨?_, by simp [h.lh], h.lt⟩
  rw [zBh h.hb i (.int .u32 x)]
  have h1 : i < H.h.length := by rw [h.lh]; exact hi
  simp [HM.cells, List.set_append, h1, List.map_set]
theorem HAt.set_t (h : HAt w b H) {i : Nat} (hi : i < 64) (x : Int) : HAt (w.setCell ⟨b, 8 + i, none⟩ (.int .u8 x)) b { H with tail := H.tail.set i x } := by
  refine ⟨?_, h.lh, by simp [h.lt]⟩
  rw [zBh h.hb (8 + i) (.int .u8 x)]
  have h1 : i < H.tail.length := by rw [h.lt]; exact hi
  have h2 : 8 + i < 8 + H.tail.length := by omega
  have h3 : 8 + i - 8 = i := by omega
  simp [HM.cells, List.set_append, h.lh, h1, h2, h3, List.map_set]
theorem HAt.set_n (h : HAt w b H) (x : Int) : HAt (w.setCell ⟨b, 72, none⟩ (.int .u64 x)) b { H with n := x } := by
  refine ⟨?_, h.lh, h.lt⟩
  rw [zBh h.hb 72 (.int .u64 x)]
  simp [HM.cells, List.set_append, h.lh, h.lt]
theorem HAt.keep (h : HAt w b H) (hb : Below w.heap.size w w') : HAt w' b H := ⟨zAf h.hb hb, h.lh, h.lt⟩
theorem HAt.lt_size (h : HAt w b H) : b < w.heap.size := zAj h.hb
end
def newH : HM := ⟨[1779033703, 3144134277, 1013904242, 2773480762, 1359893119, 2600822924, 528734635, 1541459225], List.replicate 64 0, 0⟩
set_option maxHeartbeats 1000000 in
set_option maxRecDepth 100000 in
theorem new_any (w : World) :
    Calls Tryz.prog 98 #[] w fun e w' => e = .returned (.pointer (some ⟨w.heap.size, 0, none⟩)) ∧ HAt w' w.heap.size newH ∧ Below w.heap.size w w' := by
  go_enter Tryz.func98, Tryz.ntmps98
  go_wp2_with fail
  go_ret
  exact ⟨rfl, ⟨heap_alloc_new _ _, rfl, rfl⟩, zAb (Below.refl _ _) _⟩
end Go.Proofs.YtpckachmleonlaaGreatDoor
end
