/- Cell: bytes.Repeat of 255, 33 times. -/
import Derived.Test.YtfdnpnaacikgdaaDoorK
import Derived.Test.YtfdnpnaacikgdaaDoorPMulx2
import Derived.Test.YtfdnpnaacikgdaaDoorWMore
import Derived.Lib.MakeNoZero
import Derived.LoopN
/- Repeat. -/
set_option linter.unusedVariables false
set_option linter.unusedSimpArgs false
namespace Go.Proofs.YtfdnpnaacikgdaaDoor
open Go.RowKit Go.Proofs.YtfdnpnaacikgdaaDoorW.PrintWords Go.Proofs.YtfdnpnaacikgdaaDoorW.PrintMore
attribute [local go_sem] min2_int min_two

def fill (m : Nat) : List Value := List.replicate m (.int .u8 255)
theorem fill_length (m : Nat) : (fill m).length = m := by simp [fill]
theorem fill_one (m : Nat) : ∀ v ∈ fill m, v.oneCell' = true := by
  intro v hv
  rw [List.eq_of_mem_replicate hv]
  rfl
/-- The first p bytes are 255. -/
structure FAt (w W : World) (g : Nat) (cur : List Value) (p : Nat) : Prop where
  hg : W.heap[g]? = some (.cells cur.toArray 5 (0, 0))
  len : 33 ≤ cur.length
  tk : cur.take p = fill p
  below : Below w.heap.size w W
  lb : w.heap.size ≤ g
theorem FAt.src {w W : World} {g : Nat} {cur : List Value} {p : Nat} (h : FAt w W g cur p) (m : Nat) (hm : m ≤ p) (j : Nat) (v : Value) (hj : (fill m)[j]? = some v) : W.cell? ((⟨g, 0, none⟩ : Addr).add j) = some v := by
  rw [add_plain, blk_cell h.hg, List.getElem?_toArray]
  obtain ⟨hl, hv⟩ := List.getElem?_eq_some_iff.1 hj
  rw [fill_length] at hl
  have h1 : cur[j]? = (fill p)[j]? := by
    rw [← h.tk, List.getElem?_take, if_pos (by omega)]
  have h2 : v = .int .u8 255 := by rw [← hv]; exact List.eq_of_mem_replicate (List.getElem_mem _)
  rw [h1, h2]
  unfold fill
  rw [List.getElem?_replicate, if_pos (by omega)]
theorem FAt.step {w W : World} {g : Nat} {cur : List Value} {p : Nat} (h : FAt w W g cur p) (m : Nat) (hm : p + m ≤ 33) : ∃ cur', FAt w (W.setCells g p (fill m)) g cur' (p + m) := by
  have hf : p + (fill m).length ≤ cur.length := by rw [fill_length]; have := h.len; omega
  refine ⟨_, setCells_blk h.hg hf, by rw [length_splice _ _ _ hf]; exact h.len, ?_, setCells_below h.below h.lb, h.lb⟩
  have := splice_upto cur p (fill m) (by have := h.len; omega)
  rw [fill_length] at this
  rw [this, h.tk]
  unfold fill
  rw [List.replicate_append_replicate]
theorem mul_f : PMul.bits_Mul.f 1 33 = some (0, 33) := by decide +kernel
set_option maxHeartbeats 4000000 in
set_option maxRecDepth 100000 in
theorem repeat_any (A : Option Addr) (c : Nat) (w : World) (hc : 1 ≤ c) (hr : Kd.C kB w A 1 [255]) :
    Calls Tryd.prog 36 #[.slice A 1 c, .int .i64 33] w fun e w' => ∃ (A : Option Addr), e = .returned (.slice A 33 33) ∧ Kd.C kB w' A 33 (nums (List.replicate 33 255)) ∧ Below w.heap.size w w' := by
  have HR := Aside0.mk hr
  clear hr
  obtain ⟨ad, rfl, c0⟩ : ∃ ad, A = some ad ∧ w.cell? (ad.add 0) = some (.int .u8 255) := by
    obtain ⟨ad, e, h⟩ := (Kd.reads_of_C (d := 0) HR.out).2.2 (by omega)
    exact ⟨ad, e, h 0 (by omega)⟩
  go_enter Tryd.func36, Tryd.ntmps36
  go_wp2_with fail
  refine (PMul.bits_Mul.calls 1 33 0 33 _ mul_f).mono ?_
  rintro e w' ⟨rfl, hd⟩
  obtain ⟨nd, hd⟩ := hd.out
  subst hd
  obtain ⟨cs, hmk, hcs, hcm⟩ := Lib.run_makeNoZero (P := Tryd.prog) (w := w.drewN nd) #[3] 27 5 Tryd.underlying27 33 (by omega)
  go_wp2_with fail
  rw [run_callFunc_extern Tryd.func42 (by kernel_rfl) (by kernel_rfl) (by kernel_rfl) (e := Extern.BytealgMakeNoZero.makeNoZero #[3] #[27]) (by kernel_rfl)]
  rw [show (Extern.BytealgMakeNoZero.makeNoZero #[3] #[27] #[Value.int IntKind.i64 33]).run Tryd.prog (w.drewN nd) = _ from hmk]
  simp only [Result.andThen]
  rw [Oper.upon_value]
  obtain ⟨cur0, hcur0⟩ : ∃ cur0 : List Value, cs = cur0.toArray := ⟨cs.toList, by simp⟩
  subst hcur0
  have hlen : 33 ≤ cur0.length := by simpa using hcs
  have HF0 : Aside0 (FAt w ((w.drewN nd).drew.drew.alloc (Obj.cells cur0.toArray 5)) w.heap.size cur0 0) := ⟨⟨heap_alloc_new (w.drewN nd).drew.drew _, hlen, rfl, ((pw_below_drewN (Below.refl _ _) nd).drew.drew).alloc (Nat.le_refl _) _, Nat.le_refl _⟩⟩
  have hb0 : Aside0 (Below w.heap.size w ((w.drewN nd).drew.drew.alloc (Obj.cells cur0.toArray 5))) := ⟨HF0.out.below⟩
  have HCA : Aside0 (Kd.C kB ((w.drewN nd).drew.drew.alloc (Obj.cells cur0.toArray 5)) (some ad) 1 [255]) := ⟨Kd.C_below HR.out hb0.out⟩
  rw [show (w.drewN nd).heap.size = w.heap.size from rfl]
  obtain ⟨n0, hn0⟩ : ∃ n0, cur0.toArray.size = n0 := ⟨_, rfl⟩
  have hn1 : 33 ≤ n0 := by rw [← hn0]; exact hcs
  rw [hn0]
  generalize (w.drewN nd).drew.drew.alloc (Obj.cells cur0.toArray 5) = W0 at HF0 hb0 HCA ⊢
  generalize w.heap.size = g at HF0 ⊢
  clear hmk hcs hcm hn0 hlen hd c0 hb0
  have HC1 : Aside0 (∀ ty dc sc, (Builtin.copy_ #[27, 27] ty #[.slice (some ⟨g, 0, none⟩) 33 dc, .slice (some ad) 1 sc]).run Tryd.prog W0 = .ok (.int .i64 1) (W0.setCells g 0 (fill 1))) := ⟨fun ty dc sc => by
    have hx := run_copy_sized (P := Tryd.prog) W0 27 27 ty 5 1 Tryd.underlying27 sz5 g 0 33 dc ad 1 sc (fill 1) cur0 5 HF0.out.hg rfl (fun j v hj => by
      obtain ⟨ad', e, h⟩ := (Kd.reads_of_C (d := 0) HCA.out).2.2 (by omega)
      injection e with e
      subst e
      have hl := (List.getElem?_eq_some_iff.1 hj).1
      obtain rfl : j = 0 := by rw [fill_length] at hl; omega
      rw [h 0 (by omega)]
      exact hj) (by rw [fill_length]; have := HF0.out.len; omega) (fill_one 1)
    exact hx⟩
  go_wp2_with (with_reducible refine wpList_copy_run W0 rfl (.tmp 58) (.tmp 59) 27 27 rfl _ _ rfl rfl (HC1.out _ _ _) ?_)
  obtain ⟨cur1, hF1⟩ := HF0.out.step 1 (by omega)
  have HF1 : Aside0 (FAt w (W0.setCells g 0 (fill 1)) g cur1 1) := ⟨hF1⟩
  generalize W0.setCells g 0 (fill 1) = W1 at HF1 ⊢
  clear hF1 HC1
  refine wp_loop_rounds 7 ?_
  rw [rounds_succ]
  have w2 : IntKind.i64.wrap (2 : Int) = 2 := by decide
  have w2' : IntKind.i64.wrap ((1 : Int) + 1) = 2 := by decide
  have HC2 : Aside0 (∀ ty dc sc, (Builtin.copy_ #[27, 27] ty #[.slice (some ⟨g, 1, none⟩) 32 dc, .slice (some ⟨g, 0, none⟩) 1 sc]).run Tryd.prog W1.drew = .ok (.int .i64 1) (W1.drew.setCells g 1 (fill 1))) := ⟨fun ty dc sc => by
    have hx := run_copy_sized (P := Tryd.prog) W1.drew 27 27 ty 5 1 Tryd.underlying27 sz5 g 1 32 dc ⟨g, 0, none⟩ 1 sc (fill 1) cur1 5 HF1.out.hg (by rw [fill_length]; rfl) (fun j v hj => HF1.out.src 1 (by omega) j v hj) (by rw [fill_length]; have := HF1.out.len; omega) (fill_one 1)
    exact hx⟩
  go_wp2_with fail
  go_region_held3 (fun w' => True) (trivial)
    ((refine copy_step (v' := .int .i64 1) (w' := W1.drew.setCells g 1 (fill 1)) _ ?hw (.tmp 70) (.tmp 73) 27 27 ?ho (.slice (some ⟨g, 1, none⟩) 32 32) (.slice (some ⟨g, 0, none⟩) 1 33) ?hd ?hs2 ?hr ?_; (case hw => rfl); (case ho => rfl); (case hd => rfl); (case hs2 => rfl); (case hr => exact HC2.out _ _ _)))
  go_wp2_with fail
  obtain ⟨cur2, hF2⟩ := (show FAt w W1.drew g cur1 1 from ⟨HF1.out.hg, HF1.out.len, HF1.out.tk, HF1.out.below.drew, HF1.out.lb⟩).step 1 (by omega)
  have HF2 : Aside0 (FAt w (W1.drew.setCells g 1 (fill 1)) g cur2 2) := ⟨hF2⟩
  generalize W1.drew.setCells g 1 (fill 1) = W2 at HF2 ⊢
  clear hF2 HC2 w2 w2'
  rw [rounds_succ]
  have w4 : IntKind.i64.wrap (4 : Int) = 4 := by decide
  have w4' : IntKind.i64.wrap ((2 : Int) + 2) = 4 := by decide
  have HC4 : Aside0 (∀ ty dc sc, (Builtin.copy_ #[27, 27] ty #[.slice (some ⟨g, 2, none⟩) 31 dc, .slice (some ⟨g, 0, none⟩) 2 sc]).run Tryd.prog W2.drew = .ok (.int .i64 2) (W2.drew.setCells g 2 (fill 2))) := ⟨fun ty dc sc => by
    have hx := run_copy_sized (P := Tryd.prog) W2.drew 27 27 ty 5 1 Tryd.underlying27 sz5 g 2 31 dc ⟨g, 0, none⟩ 2 sc (fill 2) cur2 5 HF2.out.hg (by rw [fill_length]; rfl) (fun j v hj => HF2.out.src 2 (by omega) j v hj) (by rw [fill_length]; have := HF2.out.len; omega) (fill_one 2)
    exact hx⟩
  go_wp2_with fail
  go_region_held3 (fun w' => True) (trivial)
    ((refine copy_step (v' := .int .i64 2) (w' := W2.drew.setCells g 2 (fill 2)) _ ?hw (.tmp 70) (.tmp 73) 27 27 ?ho (.slice (some ⟨g, 2, none⟩) 31 31) (.slice (some ⟨g, 0, none⟩) 2 33) ?hd ?hs2 ?hr ?_; (case hw => rfl); (case ho => rfl); (case hd => rfl); (case hs2 => rfl); (case hr => exact HC4.out _ _ _)))
  go_wp2_with fail
  obtain ⟨cur4, hF4⟩ := (show FAt w W2.drew g cur2 2 from ⟨HF2.out.hg, HF2.out.len, HF2.out.tk, HF2.out.below.drew, HF2.out.lb⟩).step 2 (by omega)
  have HF4 : Aside0 (FAt w (W2.drew.setCells g 2 (fill 2)) g cur4 4) := ⟨hF4⟩
  generalize W2.drew.setCells g 2 (fill 2) = W4 at HF4 ⊢
  clear hF4 HC4 w4 w4'
  rw [rounds_succ]
  have w8 : IntKind.i64.wrap (8 : Int) = 8 := by decide
  have w8' : IntKind.i64.wrap ((4 : Int) + 4) = 8 := by decide
  have HC8 : Aside0 (∀ ty dc sc, (Builtin.copy_ #[27, 27] ty #[.slice (some ⟨g, 4, none⟩) 29 dc, .slice (some ⟨g, 0, none⟩) 4 sc]).run Tryd.prog W4.drew = .ok (.int .i64 4) (W4.drew.setCells g 4 (fill 4))) := ⟨fun ty dc sc => by
    have hx := run_copy_sized (P := Tryd.prog) W4.drew 27 27 ty 5 1 Tryd.underlying27 sz5 g 4 29 dc ⟨g, 0, none⟩ 4 sc (fill 4) cur4 5 HF4.out.hg (by rw [fill_length]; rfl) (fun j v hj => HF4.out.src 4 (by omega) j v hj) (by rw [fill_length]; have := HF4.out.len; omega) (fill_one 4)
    exact hx⟩
  go_wp2_with fail
  go_region_held3 (fun w' => True) (trivial)
    ((refine copy_step (v' := .int .i64 4) (w' := W4.drew.setCells g 4 (fill 4)) _ ?hw (.tmp 70) (.tmp 73) 27 27 ?ho (.slice (some ⟨g, 4, none⟩) 29 29) (.slice (some ⟨g, 0, none⟩) 4 33) ?hd ?hs2 ?hr ?_; (case hw => rfl); (case ho => rfl); (case hd => rfl); (case hs2 => rfl); (case hr => exact HC8.out _ _ _)))
  go_wp2_with fail
  obtain ⟨cur8, hF8⟩ := (show FAt w W4.drew g cur4 4 from ⟨HF4.out.hg, HF4.out.len, HF4.out.tk, HF4.out.below.drew, HF4.out.lb⟩).step 4 (by omega)
  have HF8 : Aside0 (FAt w (W4.drew.setCells g 4 (fill 4)) g cur8 8) := ⟨hF8⟩
  generalize W4.drew.setCells g 4 (fill 4) = W8 at HF8 ⊢
  clear hF8 HC8 w8 w8'
  rw [rounds_succ]
  have w16 : IntKind.i64.wrap (16 : Int) = 16 := by decide
  have w16' : IntKind.i64.wrap ((8 : Int) + 8) = 16 := by decide
  have HC16 : Aside0 (∀ ty dc sc, (Builtin.copy_ #[27, 27] ty #[.slice (some ⟨g, 8, none⟩) 25 dc, .slice (some ⟨g, 0, none⟩) 8 sc]).run Tryd.prog W8.drew = .ok (.int .i64 8) (W8.drew.setCells g 8 (fill 8))) := ⟨fun ty dc sc => by
    have hx := run_copy_sized (P := Tryd.prog) W8.drew 27 27 ty 5 1 Tryd.underlying27 sz5 g 8 25 dc ⟨g, 0, none⟩ 8 sc (fill 8) cur8 5 HF8.out.hg (by rw [fill_length]; rfl) (fun j v hj => HF8.out.src 8 (by omega) j v hj) (by rw [fill_length]; have := HF8.out.len; omega) (fill_one 8)
    exact hx⟩
  go_wp2_with fail
  go_region_held3 (fun w' => True) (trivial)
    ((refine copy_step (v' := .int .i64 8) (w' := W8.drew.setCells g 8 (fill 8)) _ ?hw (.tmp 70) (.tmp 73) 27 27 ?ho (.slice (some ⟨g, 8, none⟩) 25 25) (.slice (some ⟨g, 0, none⟩) 8 33) ?hd ?hs2 ?hr ?_; (case hw => rfl); (case ho => rfl); (case hd => rfl); (case hs2 => rfl); (case hr => exact HC16.out _ _ _)))
  go_wp2_with fail
  obtain ⟨cur16, hF16⟩ := (show FAt w W8.drew g cur8 8 from ⟨HF8.out.hg, HF8.out.len, HF8.out.tk, HF8.out.below.drew, HF8.out.lb⟩).step 8 (by omega)
  have HF16 : Aside0 (FAt w (W8.drew.setCells g 8 (fill 8)) g cur16 16) := ⟨hF16⟩
  generalize W8.drew.setCells g 8 (fill 8) = W16 at HF16 ⊢
  clear hF16 HC16 w16 w16'
  rw [rounds_succ]
  have w32 : IntKind.i64.wrap (32 : Int) = 32 := by decide
  have w32' : IntKind.i64.wrap ((16 : Int) + 16) = 32 := by decide
  have HC32 : Aside0 (∀ ty dc sc, (Builtin.copy_ #[27, 27] ty #[.slice (some ⟨g, 16, none⟩) 17 dc, .slice (some ⟨g, 0, none⟩) 16 sc]).run Tryd.prog W16.drew = .ok (.int .i64 16) (W16.drew.setCells g 16 (fill 16))) := ⟨fun ty dc sc => by
    have hx := run_copy_sized (P := Tryd.prog) W16.drew 27 27 ty 5 1 Tryd.underlying27 sz5 g 16 17 dc ⟨g, 0, none⟩ 16 sc (fill 16) cur16 5 HF16.out.hg (by rw [fill_length]; rfl) (fun j v hj => HF16.out.src 16 (by omega) j v hj) (by rw [fill_length]; have := HF16.out.len; omega) (fill_one 16)
    exact hx⟩
  go_wp2_with fail
  go_region_held3 (fun w' => True) (trivial)
    ((refine copy_step (v' := .int .i64 16) (w' := W16.drew.setCells g 16 (fill 16)) _ ?hw (.tmp 70) (.tmp 73) 27 27 ?ho (.slice (some ⟨g, 16, none⟩) 17 17) (.slice (some ⟨g, 0, none⟩) 16 33) ?hd ?hs2 ?hr ?_; (case hw => rfl); (case ho => rfl); (case hd => rfl); (case hs2 => rfl); (case hr => exact HC32.out _ _ _)))
  go_wp2_with fail
  obtain ⟨cur32, hF32⟩ := (show FAt w W16.drew g cur16 16 from ⟨HF16.out.hg, HF16.out.len, HF16.out.tk, HF16.out.below.drew, HF16.out.lb⟩).step 16 (by omega)
  have HF32 : Aside0 (FAt w (W16.drew.setCells g 16 (fill 16)) g cur32 32) := ⟨hF32⟩
  generalize W16.drew.setCells g 16 (fill 16) = W32 at HF32 ⊢
  clear hF32 HC32 w32 w32'
  rw [rounds_succ]
  have w33 : IntKind.i64.wrap (33 : Int) = 33 := by decide
  have w33' : IntKind.i64.wrap ((32 : Int) + 1) = 33 := by decide
  have HC33 : Aside0 (∀ ty dc sc, (Builtin.copy_ #[27, 27] ty #[.slice (some ⟨g, 32, none⟩) 1 dc, .slice (some ⟨g, 0, none⟩) 32 sc]).run Tryd.prog W32.drew = .ok (.int .i64 1) (W32.drew.setCells g 32 (fill 1))) := ⟨fun ty dc sc => by
    have hx := run_copy_sized (P := Tryd.prog) W32.drew 27 27 ty 5 1 Tryd.underlying27 sz5 g 32 1 dc ⟨g, 0, none⟩ 32 sc (fill 1) cur32 5 HF32.out.hg (by rw [fill_length]; rfl) (fun j v hj => HF32.out.src 1 (by omega) j v hj) (by rw [fill_length]; have := HF32.out.len; omega) (fill_one 1)
    exact hx⟩
  go_wp2_with fail
  go_region_held3 (fun w' => True) (trivial)
    ((refine copy_step (v' := .int .i64 1) (w' := W32.drew.setCells g 32 (fill 1)) _ ?hw (.tmp 70) (.tmp 73) 27 27 ?ho (.slice (some ⟨g, 32, none⟩) 1 1) (.slice (some ⟨g, 0, none⟩) 32 33) ?hd ?hs2 ?hr ?_; (case hw => rfl); (case ho => rfl); (case hd => rfl); (case hs2 => rfl); (case hr => exact HC33.out _ _ _)))
  go_wp2_with fail
  obtain ⟨cur33, hF33⟩ := (show FAt w W32.drew g cur32 32 from ⟨HF32.out.hg, HF32.out.len, HF32.out.tk, HF32.out.below.drew, HF32.out.lb⟩).step 1 (by omega)
  have HF33 : Aside0 (FAt w (W32.drew.setCells g 32 (fill 1)) g cur33 33) := ⟨hF33⟩
  generalize W32.drew.setCells g 32 (fill 1) = W33 at HF33 ⊢
  clear hF33 HC33 w33 w33'
  rw [rounds_succ]
  go_wp2_with fail
  go_ret
  refine ⟨_, rfl, ?_, HF33.out.below⟩
  refine C_bsAt (bs := List.replicate 33 255) (fun i hi => ?_) (by simp)
  have hi' : i < 33 := by simpa using hi
  have h := HF33.out.src 33 (Nat.le_refl _) i (.int .u8 255) (by unfold fill; rw [List.getElem?_replicate, if_pos hi'])
  rw [add_plain] at h
  rw [Nat.zero_add, h, List.getD_eq_getElem?_getD, List.getElem?_replicate, if_pos hi']
  rfl
end Go.Proofs.YtfdnpnaacikgdaaDoor
