/- Words and walks for Split and Tablet: texts of these sessions, and of the kit's print, cut down to what is used (Ck PMulx1 PMulx2 Cw Cz Cs). -/
import Derived.Test.YtpckachmleonlaaGreatDoorCv23
import Derived.Test.YtpckachmleonlaaGreatDoorProg
import Derived.Below
import Derived.Deep.Draws
import Derived.Deep.AppendLies
import Derived.Maps.AppendAt
import Derived.OwnWalk
import Derived.Laws.BytesArg
import Derived.Laws.MakeOwn
import Derived.Laws.OwnMore
import Derived.Deep.OwnRows
import Derived.Tactics
import Derived.Lib.ConvBytes
import Derived.Laws.Slices
import Derived.WalkKit
import Derived.KernelRfl
import Derived.RowKit3
import Derived.Deep.LoopGhost
import Derived.Deep.QuietTactic
import Derived.BigQuiet
import Derived.WideLaws
import Derived.Deep.DeepCutAuto
import Derived.Deep.CutBlock
import Derived.Deep.RegionHeld3
import Derived.Laws.Rows
import Derived.Lib.AppendStr
import Derived.ArgAppend
import Derived.Laws.IdiomCopy
import Derived.OrdersHeld
import Derived.Laws.BitsLemmas
import Derived.RowKit
import Derived.Test.YtpckachmleonlaaGreatDoorCv1
import Derived.Test.YtpckachmleonlaaGreatDoorCv2
import Derived.Test.YtpckachmleonlaaGreatDoorCv3
import Derived.Lib.MakeNoZero
import Derived.LoopN
import Derived.WalkMore
section
set_option linter.unusedVariables false
set_option linter.unusedSimpArgs false
namespace Go.Proofs.YtpckachmleonlaaGreatDoor.Cp
open Go.RowKit Go.Proofs.YtpckachmleonlaaGreatDoorW.PrintWords
def cmpL : List UInt8 → List UInt8 → Int
  | [], [] => 0
  | [], _ :: _ => -1
  | _ :: _, [] => 1
  | a :: x, b :: y => if a = b then cmpL x y else if a < b then -1 else 1
theorem bytesLess_cmpL : ∀ x y : List UInt8, Op.bytesLess x y = decide (cmpL x y < 0) ∧ ((x == y) = decide (cmpL x y = 0))
  | [], [] => by simp [Op.bytesLess, cmpL]
  | [], _ :: _ => by simp [Op.bytesLess, cmpL]
  | _ :: _, [] => by simp [Op.bytesLess, cmpL]
  | a :: x, b :: y => by
    obtain ⟨h1, h2⟩ := bytesLess_cmpL x y
    unfold Op.bytesLess cmpL
    by_cases hab : a = b
    · subst hab
      rw [if_pos rfl, h1]
      refine ⟨by simp, ?_⟩
      rw [← h2]
      simp
    · rw [if_neg hab]
      by_cases hlt : a < b
      · rw [if_pos hlt]
        simp [hlt, hab]
      · rw [if_neg hlt]
        simp [hlt, hab]
end Go.Proofs.YtpckachmleonlaaGreatDoor.Cp
end
section
namespace Go.Proofs.YtpckachmleonlaaGreatDoor.PMul
open Go.RowKit Go.Proofs.YtpckachmleonlaaGreatDoorW.PrintWords Go.Proofs.YtpckachmleonlaaGreatDoorW.PrintLast Go.Proofs.YtpckachmleonlaaGreatDoorW.PrintMore
attribute [local go_sem] max2_int min2_int max_two min_two max_three min_three max_four min_four
set_option linter.unusedVariables false
set_option linter.unusedSimpArgs false
def bits_Mul64.f (a0 : Int) (a1 : Int) : Option (Int × Int) := some (IntKind.u64.wrap ((IntKind.u64.wrap ((IntKind.u64.wrap ((a0 / 4294967296) * (a1 / 4294967296))) + ((IntKind.u64.wrap ((IntKind.u64.wrap ((a0 / 4294967296) * (Go.bits .and .u64 a1 4294967295))) + ((IntKind.u64.wrap ((Go.bits .and .u64 a0 4294967295) * (Go.bits .and .u64 a1 4294967295))) / 4294967296))) / 4294967296))) + ((IntKind.u64.wrap ((Go.bits .and .u64 (IntKind.u64.wrap ((IntKind.u64.wrap ((a0 / 4294967296) * (Go.bits .and .u64 a1 4294967295))) + ((IntKind.u64.wrap ((Go.bits .and .u64 a0 4294967295) * (Go.bits .and .u64 a1 4294967295))) / 4294967296))) 4294967295) + (IntKind.u64.wrap ((Go.bits .and .u64 a0 4294967295) * (a1 / 4294967296))))) / 4294967296)), IntKind.u64.wrap (a0 * a1))
set_option maxHeartbeats 8000000 in
set_option maxRecDepth 100000 in
theorem bits_Mul64.calls (a0 : Int) (a1 : Int) (r1 : Int) (r2 : Int) (w : World) (h : bits_Mul64.f a0 a1 = some (r1, r2)) :
    Calls Tryz.prog 149 #[.int .u64 a0, .int .u64 a1] w fun e w' => e = .returned (.tuple #[.int .u64 r1, .int .u64 r2]) ∧ zBj w w' := by
  have H : (some (IntKind.u64.wrap ((IntKind.u64.wrap ((IntKind.u64.wrap ((a0 / 4294967296) * (a1 / 4294967296))) + ((IntKind.u64.wrap ((IntKind.u64.wrap ((a0 / 4294967296) * (Go.bits .and .u64 a1 4294967295))) + ((IntKind.u64.wrap ((Go.bits .and .u64 a0 4294967295) * (Go.bits .and .u64 a1 4294967295))) / 4294967296))) / 4294967296))) + ((IntKind.u64.wrap ((Go.bits .and .u64 (IntKind.u64.wrap ((IntKind.u64.wrap ((a0 / 4294967296) * (Go.bits .and .u64 a1 4294967295))) + ((IntKind.u64.wrap ((Go.bits .and .u64 a0 4294967295) * (Go.bits .and .u64 a1 4294967295))) / 4294967296))) 4294967295) + (IntKind.u64.wrap ((Go.bits .and .u64 a0 4294967295) * (a1 / 4294967296))))) / 4294967296)), IntKind.u64.wrap (a0 * a1))) = some (r1, r2) := h
  clear h
  simp only [Option.some.injEq, Prod.mk.injEq] at H
  obtain ⟨rfl, rfl⟩ := H
  go_enter Tryz.func149, Tryz.ntmps149
  go_wp2
  go_ret2
  exact ⟨by first | rfl | (simp; done) | (simp [*]; done), by repeat (first | exact zBj.refl _ | apply zBj.step)⟩
end Go.Proofs.YtpckachmleonlaaGreatDoor.PMul
end
section
namespace Go.Proofs.YtpckachmleonlaaGreatDoor.PMul
open Go.RowKit Go.Proofs.YtpckachmleonlaaGreatDoorW.PrintWords Go.Proofs.YtpckachmleonlaaGreatDoorW.PrintLast Go.Proofs.YtpckachmleonlaaGreatDoorW.PrintMore
attribute [local go_sem] max2_int min2_int max_two min_two max_three min_three max_four min_four
set_option linter.unusedVariables false
set_option linter.unusedSimpArgs false
def bits_Mul.f (a0 : Int) (a1 : Int) : Option (Int × Int) := (bits_Mul64.f a0 a1).bind fun bt101 => (some (bt101.1, bt101.2))
set_option maxHeartbeats 8000000 in
set_option maxRecDepth 100000 in
theorem bits_Mul.calls (a0 : Int) (a1 : Int) (r1 : Int) (r2 : Int) (w : World) (h : bits_Mul.f a0 a1 = some (r1, r2)) :
    Calls Tryz.prog 129 #[.int .u64 a0, .int .u64 a1] w fun e w' => e = .returned (.tuple #[.int .u64 r1, .int .u64 r2]) ∧ zBj w w' := by
  have H : ((bits_Mul64.f a0 a1).bind fun bt101 => (some (bt101.1, bt101.2))) = some (r1, r2) := h
  clear h
  replace H := Option.bind_eq_some_iff.mp H
  obtain ⟨⟨t101, t102⟩, A30, H⟩ := H
  replace H : (some (t101, t102)) = some (r1, r2) := H
  have A3 := zAa.mk A30
  clear A30
  simp only [Option.some.injEq, Prod.mk.injEq] at H
  obtain ⟨rfl, rfl⟩ := H
  go_enter Tryz.func129, Tryz.ntmps129
  go_wp2_with (first | ((with_reducible refine zCi (f := 149) rfl ?_); refine zGb (some 25) rfl rfl Tryz.func149 (by kernel_rfl) rfl #[.int .u64 a0, .int .u64 a1] rfl (by (try simp only [List.map_toArray, List.map_cons, List.map_nil]); first | done | rfl | (simp only [List.length_drop, List.length_take]; rfl)) ?_; (with_reducible refine (bits_Mul64.calls a0 a1 t101 t102 _ A3.out).mono ?_); rintro e w' ⟨rfl, ⟨nd, rfl⟩⟩; refine ⟨_, rfl, ?_⟩))
  go_ret2
  exact ⟨by first | rfl | (simp; done) | (simp [*]; done), by repeat (first | exact zBj.refl _ | apply zBj.step)⟩
end Go.Proofs.YtpckachmleonlaaGreatDoor.PMul
end
section
set_option linter.unusedVariables false
set_option linter.unusedSimpArgs false
namespace Go.Proofs.YtpckachmleonlaaGreatDoor.Cp
open Go.RowKit Go.Proofs.YtpckachmleonlaaGreatDoorW.PrintWords Go.Proofs.YtpckachmleonlaaGreatDoorW.PrintMore
attribute [local go_sem] min2_int min_two
def fill (m : Nat) : List Value := List.replicate m (.int .u8 255)
theorem zCf (m : Nat) : (fill m).length = m := by simp [fill]
theorem fill_one (m : Nat) : ∀ v ∈ fill m, v.oneCell' = true := by
  intro v hv
  rw [List.eq_of_mem_replicate hv]
  rfl
structure FAt (w W : World) (g : Nat) (cur : List Value) (p : Nat) : Prop where
  hg : W.heap[g]? = some (.cells cur.toArray 5 (0, 0))
  len : 33 ≤ cur.length
  tk : cur.take p = fill p
  below : Below w.heap.size w W
  lb : w.heap.size ≤ g
theorem FAt.src {w W : World} {g : Nat} {cur : List Value} {p : Nat} (h : FAt w W g cur p) (m : Nat) (hm : m ≤ p) (j : Nat) (v : Value) (hj : (fill m)[j]? = some v) : W.cell? ((⟨g, 0, none⟩ : Addr).add j) = some v := by
  rw [add_plain, zAc h.hg, List.getElem?_toArray]
  obtain ⟨hl, hv⟩ := List.getElem?_eq_some_iff.1 hj
  rw [zCf] at hl
  have h1 : cur[j]? = (fill p)[j]? := by
    rw [← h.tk, List.getElem?_take, if_pos (by omega)]
  have h2 : v = .int .u8 255 := by rw [← hv]; exact List.eq_of_mem_replicate (List.getElem_mem _)
  rw [h1, h2]
  unfold fill
  rw [List.getElem?_replicate, if_pos (by omega)]
theorem FAt.step {w W : World} {g : Nat} {cur : List Value} {p : Nat} (h : FAt w W g cur p) (m : Nat) (hm : p + m ≤ 33) : ∃ cur', FAt w (W.setCells g p (fill m)) g cur' (p + m) := by
  have hf : p + (fill m).length ≤ cur.length := by rw [zCf]; have := h.len; omega
  refine ⟨_, zCc h.hg hf, by rw [length_splice _ _ _ hf]; exact h.len, ?_, zBk h.below h.lb, h.lb⟩
  have := splice_upto cur p (fill m) (by have := h.len; omega)
  rw [zCf] at this
  rw [this, h.tk]
  unfold fill
  rw [List.replicate_append_replicate]
theorem mul_f : Go.Proofs.YtpckachmleonlaaGreatDoor.PMul.bits_Mul.f 1 33 = some (0, 33) := by decide +kernel
set_option maxHeartbeats 4000000 in
set_option maxRecDepth 100000 in
theorem repeat_any (A : Option Addr) (c : Nat) (w : World) (hc : 1 ≤ c) (hr : Kd.C kB w A 1 [255]) :
    Calls Tryz.prog 97 #[.slice A 1 c, .int .i64 33] w fun e w' => ∃ (A : Option Addr), e = .returned (.slice A 33 33) ∧ Kd.C kB w' A 33 (nums (List.replicate 33 255)) ∧ Below w.heap.size w w' := by
  have HR := zAa.mk hr
  clear hr
  obtain ⟨ad, rfl, c0⟩ : ∃ ad, A = some ad ∧ w.cell? (ad.add 0) = some (.int .u8 255) := by
    obtain ⟨ad, e, h⟩ := (Kd.reads_of_C (d := 0) HR.out).2.2 (by omega)
    exact ⟨ad, e, h 0 (by omega)⟩
  go_enter Tryz.func97, Tryz.ntmps97
  go_wp2_with fail
  refine (Go.Proofs.YtpckachmleonlaaGreatDoor.PMul.bits_Mul.calls 1 33 0 33 _ mul_f).mono ?_
  rintro e w' ⟨rfl, hd⟩
  obtain ⟨nd, hd⟩ := hd.out
  subst hd
  obtain ⟨cs, hmk, hcs, hcm⟩ := Lib.run_makeNoZero (P := Tryz.prog) (w := w.drewN nd) #[3] 47 5 Tryz.underlying47 33 (by omega)
  go_wp2_with fail
  rw [run_callFunc_extern Tryz.func130 (by kernel_rfl) (by kernel_rfl) (by kernel_rfl) (e := Extern.BytealgMakeNoZero.makeNoZero #[3] #[47]) (by kernel_rfl)]
  rw [show (Extern.BytealgMakeNoZero.makeNoZero #[3] #[47] #[Value.int IntKind.i64 33]).run Tryz.prog (w.drewN nd) = _ from hmk]
  simp only [Result.andThen]
  rw [Oper.upon_value]
  obtain ⟨cur0, hcur0⟩ : ∃ cur0 : List Value, cs = cur0.toArray := ⟨cs.toList, by simp⟩
  subst hcur0
  have hlen : 33 ≤ cur0.length := by simpa using hcs
  have HF0 : zAa (FAt w ((w.drewN nd).drew.drew.alloc (Obj.cells cur0.toArray 5)) w.heap.size cur0 0) := ⟨⟨heap_alloc_new (w.drewN nd).drew.drew _, hlen, rfl, ((zAe (Below.refl _ _) nd).drew.drew).alloc (Nat.le_refl _) _, Nat.le_refl _⟩⟩
  have hb0 : zAa (Below w.heap.size w ((w.drewN nd).drew.drew.alloc (Obj.cells cur0.toArray 5))) := ⟨HF0.out.below⟩
  have HCA : zAa (Kd.C kB ((w.drewN nd).drew.drew.alloc (Obj.cells cur0.toArray 5)) (some ad) 1 [255]) := ⟨Kd.zBb HR.out hb0.out⟩
  rw [show (w.drewN nd).heap.size = w.heap.size from rfl]
  obtain ⟨n0, hn0⟩ : ∃ n0, cur0.toArray.size = n0 := ⟨_, rfl⟩
  have hn1 : 33 ≤ n0 := by rw [← hn0]; exact hcs
  rw [hn0]
  generalize (w.drewN nd).drew.drew.alloc (Obj.cells cur0.toArray 5) = W0 at HF0 hb0 HCA ⊢
  generalize w.heap.size = g at HF0 ⊢
  clear hmk hcs hcm hn0 hlen hd c0 hb0
  have HC1 : zAa (∀ ty dc sc, (Builtin.copy_ #[47, 47] ty #[.slice (some ⟨g, 0, none⟩) 33 dc, .slice (some ad) 1 sc]).run Tryz.prog W0 = .ok (.int .i64 1) (W0.setCells g 0 (fill 1))) := ⟨fun ty dc sc => by
    have hx := zBi (P := Tryz.prog) W0 47 47 ty 5 1 Tryz.underlying47 sz5 g 0 33 dc ad 1 sc (fill 1) cur0 5 HF0.out.hg rfl (fun j v hj => by
      obtain ⟨ad', e, h⟩ := (Kd.reads_of_C (d := 0) HCA.out).2.2 (by omega)
      injection e with e
      subst e
      have hl := (List.getElem?_eq_some_iff.1 hj).1
      obtain rfl : j = 0 := by rw [zCf] at hl; omega
      rw [h 0 (by omega)]
      exact hj) (by rw [zCf]; have := HF0.out.len; omega) (fill_one 1)
    exact hx⟩
  go_wp2_with (with_reducible refine wpList_copy_run W0 rfl (.tmp 58) (.tmp 59) 47 47 rfl _ _ rfl rfl (HC1.out _ _ _) ?_)
  obtain ⟨cur1, hF1⟩ := HF0.out.step 1 (by omega)
  have HF1 : zAa (FAt w (W0.setCells g 0 (fill 1)) g cur1 1) := ⟨hF1⟩
  generalize W0.setCells g 0 (fill 1) = W1 at HF1 ⊢
  clear hF1 HC1
  refine wp_loop_rounds 7 ?_
  rw [rounds_succ]
  have w2 : IntKind.i64.wrap (2 : Int) = 2 := by decide
  have w2' : IntKind.i64.wrap ((1 : Int) + 1) = 2 := by decide
  have HC2 : zAa (∀ ty dc sc, (Builtin.copy_ #[47, 47] ty #[.slice (some ⟨g, 1, none⟩) 32 dc, .slice (some ⟨g, 0, none⟩) 1 sc]).run Tryz.prog W1.drew = .ok (.int .i64 1) (W1.drew.setCells g 1 (fill 1))) := ⟨fun ty dc sc => by
    have hx := zBi (P := Tryz.prog) W1.drew 47 47 ty 5 1 Tryz.underlying47 sz5 g 1 32 dc ⟨g, 0, none⟩ 1 sc (fill 1) cur1 5 HF1.out.hg (by rw [zCf]; rfl) (fun j v hj => HF1.out.src 1 (by omega) j v hj) (by rw [zCf]; have := HF1.out.len; omega) (fill_one 1)
    exact hx⟩
  go_wp2_with fail
  go_region_held3 (fun w' => True) (trivial)
    ((refine copy_step (v' := .int .i64 1) (w' := W1.drew.setCells g 1 (fill 1)) _ ?hw (.tmp 70) (.tmp 73) 47 47 ?ho (.slice (some ⟨g, 1, none⟩) 32 32) (.slice (some ⟨g, 0, none⟩) 1 33) ?hd ?hs2 ?hr ?_; (case hw => rfl); (case ho => rfl); (case hd => rfl); (case hs2 => rfl); (case hr => exact HC2.out _ _ _)))
  go_wp2_with fail
  obtain ⟨cur2, hF2⟩ := (show FAt w W1.drew g cur1 1 from ⟨HF1.out.hg, HF1.out.len, HF1.out.tk, HF1.out.below.drew, HF1.out.lb⟩).step 1 (by omega)
  have HF2 : zAa (FAt w (W1.drew.setCells g 1 (fill 1)) g cur2 2) := ⟨hF2⟩
  generalize W1.drew.setCells g 1 (fill 1) = W2 at HF2 ⊢
  clear hF2 HC2 w2 w2'
  rw [rounds_succ]
  have w4 : IntKind.i64.wrap (4 : Int) = 4 := by decide
  have w4' : IntKind.i64.wrap ((2 : Int) + 2) = 4 := by decide
  have HC4 : zAa (∀ ty dc sc, (Builtin.copy_ #[47, 47] ty #[.slice (some ⟨g, 2, none⟩) 31 dc, .slice (some ⟨g, 0, none⟩) 2 sc]).run Tryz.prog W2.drew = .ok (.int .i64 2) (W2.drew.setCells g 2 (fill 2))) := ⟨fun ty dc sc => by
    have hx := zBi (P := Tryz.prog) W2.drew 47 47 ty 5 1 Tryz.underlying47 sz5 g 2 31 dc ⟨g, 0, none⟩ 2 sc (fill 2) cur2 5 HF2.out.hg (by rw [zCf]; rfl) (fun j v hj => HF2.out.src 2 (by omega) j v hj) (by rw [zCf]; have := HF2.out.len; omega) (fill_one 2)
    exact hx⟩
  go_wp2_with fail
  go_region_held3 (fun w' => True) (trivial)
    ((refine copy_step (v' := .int .i64 2) (w' := W2.drew.setCells g 2 (fill 2)) _ ?hw (.tmp 70) (.tmp 73) 47 47 ?ho (.slice (some ⟨g, 2, none⟩) 31 31) (.slice (some ⟨g, 0, none⟩) 2 33) ?hd ?hs2 ?hr ?_; (case hw => rfl); (case ho => rfl); (case hd => rfl); (case hs2 => rfl); (case hr => exact HC4.out _ _ _)))
  go_wp2_with fail
  obtain ⟨cur4, hF4⟩ := (show FAt w W2.drew g cur2 2 from ⟨HF2.out.hg, HF2.out.len, HF2.out.tk, HF2.out.below.drew, HF2.out.lb⟩).step 2 (by omega)
  have HF4 : zAa (FAt w (W2.drew.setCells g 2 (fill 2)) g cur4 4) := ⟨hF4⟩
  generalize W2.drew.setCells g 2 (fill 2) = W4 at HF4 ⊢
  clear hF4 HC4 w4 w4'
  rw [rounds_succ]
  have w8 : IntKind.i64.wrap (8 : Int) = 8 := by decide
  have w8' : IntKind.i64.wrap ((4 : Int) + 4) = 8 := by decide
  have HC8 : zAa (∀ ty dc sc, (Builtin.copy_ #[47, 47] ty #[.slice (some ⟨g, 4, none⟩) 29 dc, .slice (some ⟨g, 0, none⟩) 4 sc]).run Tryz.prog W4.drew = .ok (.int .i64 4) (W4.drew.setCells g 4 (fill 4))) := ⟨fun ty dc sc => by
    have hx := zBi (P := Tryz.prog) W4.drew 47 47 ty 5 1 Tryz.underlying47 sz5 g 4 29 dc ⟨g, 0, none⟩ 4 sc (fill 4) cur4 5 HF4.out.hg (by rw [zCf]; rfl) (fun j v hj => HF4.out.src 4 (by omega) j v hj) (by rw [zCf]; have := HF4.out.len; omega) (fill_one 4)
    exact hx⟩
  go_wp2_with fail
  go_region_held3 (fun w' => True) (trivial)
    ((refine copy_step (v' := .int .i64 4) (w' := W4.drew.setCells g 4 (fill 4)) _ ?hw (.tmp 70) (.tmp 73) 47 47 ?ho (.slice (some ⟨g, 4, none⟩) 29 29) (.slice (some ⟨g, 0, none⟩) 4 33) ?hd ?hs2 ?hr ?_; (case hw => rfl); (case ho => rfl); (case hd => rfl); (case hs2 => rfl); (case hr => exact HC8.out _ _ _)))
  go_wp2_with fail
  obtain ⟨cur8, hF8⟩ := (show FAt w W4.drew g cur4 4 from ⟨HF4.out.hg, HF4.out.len, HF4.out.tk, HF4.out.below.drew, HF4.out.lb⟩).step 4 (by omega)
  have HF8 : zAa (FAt w (W4.drew.setCells g 4 (fill 4)) g cur8 8) := ⟨hF8⟩
  generalize W4.drew.setCells g 4 (fill 4) = W8 at HF8 ⊢
  clear hF8 HC8 w8 w8'
  rw [rounds_succ]
  have w16 : IntKind.i64.wrap (16 : Int) = 16 := by decide
  have w16' : IntKind.i64.wrap ((8 : Int) + 8) = 16 := by decide
  have HC16 : zAa (∀ ty dc sc, (Builtin.copy_ #[47, 47] ty #[.slice (some ⟨g, 8, none⟩) 25 dc, .slice (some ⟨g, 0, none⟩) 8 sc]).run Tryz.prog W8.drew = .ok (.int .i64 8) (W8.drew.setCells g 8 (fill 8))) := ⟨fun ty dc sc => by
    have hx := zBi (P := Tryz.prog) W8.drew 47 47 ty 5 1 Tryz.underlying47 sz5 g 8 25 dc ⟨g, 0, none⟩ 8 sc (fill 8) cur8 5 HF8.out.hg (by rw [zCf]; rfl) (fun j v hj => HF8.out.src 8 (by omega) j v hj) (by rw [zCf]; have := HF8.out.len; omega) (fill_one 8)
    exact hx⟩
  go_wp2_with fail
  go_region_held3 (fun w' => True) (trivial)
    ((refine copy_step (v' := .int .i64 8) (w' := W8.drew.setCells g 8 (fill 8)) _ ?hw (.tmp 70) (.tmp 73) 47 47 ?ho (.slice (some ⟨g, 8, none⟩) 25 25) (.slice (some ⟨g, 0, none⟩) 8 33) ?hd ?hs2 ?hr ?_; (case hw => rfl); (case ho => rfl); (case hd => rfl); (case hs2 => rfl); (case hr => exact HC16.out _ _ _)))
  go_wp2_with fail
  obtain ⟨cur16, hF16⟩ := (show FAt w W8.drew g cur8 8 from ⟨HF8.out.hg, HF8.out.len, HF8.out.tk, HF8.out.below.drew, HF8.out.lb⟩).step 8 (by omega)
  have HF16 : zAa (FAt w (W8.drew.setCells g 8 (fill 8)) g cur16 16) := ⟨hF16⟩
  generalize W8.drew.setCells g 8 (fill 8) = W16 at HF16 ⊢
  clear hF16 HC16 w16 w16'
  rw [rounds_succ]
  have w32 : IntKind.i64.wrap (32 : Int) = 32 := by decide
  have w32' : IntKind.i64.wrap ((16 : Int) + 16) = 32 := by decide
  have HC32 : zAa (∀ ty dc sc, (Builtin.copy_ #[47, 47] ty #[.slice (some ⟨g, 16, none⟩) 17 dc, .slice (some ⟨g, 0, none⟩) 16 sc]).run Tryz.prog W16.drew = .ok (.int .i64 16) (W16.drew.setCells g 16 (fill 16))) := ⟨fun ty dc sc => by
    have hx := zBi (P := Tryz.prog) W16.drew 47 47 ty 5 1 Tryz.underlying47 sz5 g 16 17 dc ⟨g, 0, none⟩ 16 sc (fill 16) cur16 5 HF16.out.hg (by rw [zCf]; rfl) (fun j v hj => HF16.out.src 16 (by omega) j v hj) (by rw [zCf]; have := HF16.out.len; omega) (fill_one 16)
    exact hx⟩
  go_wp2_with fail
  go_region_held3 (fun w' => True) (trivial)
    ((refine copy_step (v' := .int .i64 16) (w' := W16.drew.setCells g 16 (fill 16)) _ ?hw (.tmp 70) (.tmp 73) 47 47 ?ho (.slice (some ⟨g, 16, none⟩) 17 17) (.slice (some ⟨g, 0, none⟩) 16 33) ?hd ?hs2 ?hr ?_; (case hw => rfl); (case ho => rfl); (case hd => rfl); (case hs2 => rfl); (case hr => exact HC32.out _ _ _)))
  go_wp2_with fail
  obtain ⟨cur32, hF32⟩ := (show FAt w W16.drew g cur16 16 from ⟨HF16.out.hg, HF16.out.len, HF16.out.tk, HF16.out.below.drew, HF16.out.lb⟩).step 16 (by omega)
  have HF32 : zAa (FAt w (W16.drew.setCells g 16 (fill 16)) g cur32 32) := ⟨hF32⟩
  generalize W16.drew.setCells g 16 (fill 16) = W32 at HF32 ⊢
  clear hF32 HC32 w32 w32'
  rw [rounds_succ]
  have w33 : IntKind.i64.wrap (33 : Int) = 33 := by decide
  have w33' : IntKind.i64.wrap ((32 : Int) + 1) = 33 := by decide
  have HC33 : zAa (∀ ty dc sc, (Builtin.copy_ #[47, 47] ty #[.slice (some ⟨g, 32, none⟩) 1 dc, .slice (some ⟨g, 0, none⟩) 32 sc]).run Tryz.prog W32.drew = .ok (.int .i64 1) (W32.drew.setCells g 32 (fill 1))) := ⟨fun ty dc sc => by
    have hx := zBi (P := Tryz.prog) W32.drew 47 47 ty 5 1 Tryz.underlying47 sz5 g 32 1 dc ⟨g, 0, none⟩ 32 sc (fill 1) cur32 5 HF32.out.hg (by rw [zCf]; rfl) (fun j v hj => HF32.out.src 1 (by omega) j v hj) (by rw [zCf]; have := HF32.out.len; omega) (fill_one 1)
    exact hx⟩
  go_wp2_with fail
  go_region_held3 (fun w' => True) (trivial)
    ((refine copy_step (v' := .int .i64 1) (w' := W32.drew.setCells g 32 (fill 1)) _ ?hw (.tmp 70) (.tmp 73) 47 47 ?ho (.slice (some ⟨g, 32, none⟩) 1 1) (.slice (some ⟨g, 0, none⟩) 32 33) ?hd ?hs2 ?hr ?_; (case hw => rfl); (case ho => rfl); (case hd => rfl); (case hs2 => rfl); (case hr => exact HC33.out _ _ _)))
  go_wp2_with fail
  obtain ⟨cur33, hF33⟩ := (show FAt w W32.drew g cur32 32 from ⟨HF32.out.hg, HF32.out.len, HF32.out.tk, HF32.out.below.drew, HF32.out.lb⟩).step 1 (by omega)
  have HF33 : zAa (FAt w (W32.drew.setCells g 32 (fill 1)) g cur33 33) := ⟨hF33⟩
  generalize W32.drew.setCells g 32 (fill 1) = W33 at HF33 ⊢
  clear hF33 HC33 w33 w33'
  rw [rounds_succ]
  go_wp2_with fail
  go_ret
  refine ⟨_, rfl, ?_, HF33.out.below⟩
  refine C_bsAt (bs := List.replicate 33 255) (fun i hi => ?_) (by simp)
  have hi' : i < 33 := by simpa using hi
  have h := HF33.out.src 33 (Nat.le_refl _) i (.int .u8 255) (by unfold fill; rw [List.getElem?_replicate, if_pos hi'])
  rw [add_plain] at h
  rw [Nat.zero_add, h, List.getD_eq_getElem?_getD, List.getElem?_replicate, if_pos hi']
  rfl
end Go.Proofs.YtpckachmleonlaaGreatDoor.Cp
end
section
set_option linter.unusedVariables false
set_option linter.unusedSimpArgs false
namespace Go.Proofs.YtpckachmleonlaaGreatDoor.Cp
open Go.RowKit Go.Proofs.YtpckachmleonlaaGreatDoorW.PrintWords Go.Proofs.YtpckachmleonlaaGreatDoorW.PrintMore
attribute [local go_sem] max2_int max_two
def hiL (to_ : ByteArray) : List UInt8 := if to_.size = 0 then List.replicate 33 255 else escL to_
set_option maxHeartbeats 2000000 in
set_option maxRecDepth 100000 in
theorem rows_ok (a b : ByteArray) (w : World) (h : a.size ≤ 32 ∧ b.size ≤ 32) :
    Calls Tryz.prog 135 #[.string a, .string b] w fun e w' => ∃ (A1 A2 : Option Addr) (c1 c2 : Nat), e = .returned (.tuple #[.slice A1 (nums (escL a)).length c1, .slice A2 (nums (hiL b)).length c2, .int .i64 0]) ∧ (nums (escL a)).length ≤ c1 ∧ (nums (hiL b)).length ≤ c2 ∧ Kd.C kB w' A1 (nums (escL a)).length (nums (escL a)) ∧ Kd.C kB w' A2 (nums (hiL b)).length (nums (hiL b)) ∧ Below w.heap.size w w' := by
  have m1 := mx2_eq a.size b.size
  have HM := zAa.mk (mx2_le a.size b.size 32)
  generalize mx2 a.size b.size = p at m1 HM
  have h3 : p ≤ 32 := HM.out.2 h
  have d1 : decide ((32 : Int) < (p : Int)) = false := df (by omega)
  have d2 : decide (32 < p) = false := df (by omega)
  have s1 : a.size ≤ 1000 := by omega
  have s2 : b.size ≤ 1000 := by omega
  clear h3
  rcases Bool.eq_false_or_eq_true b.toList.isEmpty with he | he
  · have HH : zAa (hiL b = List.replicate 33 255) := ⟨by unfold hiL; rw [if_pos (size_zero he)]⟩
    rw [HH.out]
    go_enter Tryz.func135, Tryz.ntmps135
    go_wp2_with fail
    refine (escaped_any a w s1).mono ?_
    rintro e w1 ⟨v1, rfl, hr, hb⟩
    have HR := zAa.mk hr
    have HB := zAa.mk hb
    clear hr hb
    obtain ⟨A1, c1, e1⟩ := Kd.zAk HR.out
    subst e1
    go_wp2_with fail
    have HC : zAa (Kd.C kB (w1.alloc (.cells #[.int .u8 255] 5)) (some ⟨w1.heap.size, 0, none⟩) 1 [255]) := ⟨C_bsAt (bs := [255]) (bsAt_blk (heap_alloc_new w1 _)) (by simp)⟩
    refine (repeat_any (some ⟨w1.heap.size, 0, none⟩) 1 _ (Nat.le_refl _) HC.out).mono ?_
    rintro e w2 ⟨A2, rfl, hc2, hb2⟩
    have HB2 : zAa (Below w1.heap.size w1 w2) := ⟨(zAb (Below.refl _ _) _).trans (hb2.mono (by simp))⟩
    have HC2 := zAa.mk hc2
    clear hb2 hc2
    go_wp2_with fail
    go_ret3
    exact ⟨A1, A2, c1, 33, rfl, (R_cap HR.out).1, by simp [nums], Kd.zBb (R_cap HR.out).2 HB2.out, HC2.out, HB.out.trans (HB2.out.mono HB.out.size)⟩
  · have HH : zAa (hiL b = escL b) := ⟨by unfold hiL; rw [if_neg (by have := size_pos he; omega)]⟩
    rw [HH.out]
    go_enter Tryz.func135, Tryz.ntmps135
    go_wp2_with fail
    refine (escaped_any a w s1).mono ?_
    rintro e w1 ⟨v1, rfl, hr, hb⟩
    have HR := zAa.mk hr
    have HB := zAa.mk hb
    clear hr hb
    obtain ⟨A1, c1, e1⟩ := Kd.zAk HR.out
    subst e1
    go_wp2_with fail
    refine (escaped_any b w1 s2).mono ?_
    rintro e w2 ⟨v2, rfl, hr, hb⟩
    have HR2 := zAa.mk hr
    have HB2 := zAa.mk hb
    clear hr hb
    obtain ⟨A2, c2, e2⟩ := Kd.zAk HR2.out
    subst e2
    go_wp2_with fail
    go_ret3
    exact ⟨A1, A2, c1, c2, rfl, (R_cap HR.out).1, (R_cap HR2.out).1, Kd.zBb (R_cap HR.out).2 HB2.out, (R_cap HR2.out).2, HB.out.trans (HB2.out.mono HB.out.size)⟩
end Go.Proofs.YtpckachmleonlaaGreatDoor.Cp
end
section
set_option linter.unusedVariables false
set_option linter.unusedSimpArgs false
namespace Go.Proofs.YtpckachmleonlaaGreatDoor.Cp
open Go.RowKit Go.Proofs.YtpckachmleonlaaGreatDoorW.PrintWords
def unesc : List UInt8 → Option (List UInt8 × List UInt8)
 | [] => none
 | x :: r =>
  if x = 0 then
   match r with
   | [] => none
   | y :: r' => if y = 1 then some ([], r') else if y = 255 then (unesc r').map (fun p => (0 :: p.1, p.2)) else none
  else (unesc r).map (fun p => (x :: p.1, p.2))
def unAt (bs : List UInt8) (i : Nat) (acc : List UInt8) : Option (List UInt8 × List UInt8) := (unesc (bs.drop i)).map (fun p => (acc ++ p.1, p.2))
theorem bdrop {l : List UInt8} {i : Nat} (h : i < l.length) : l.drop i = l.getD i 0 :: l.drop (i + 1) := by
 rw [List.drop_eq_getElem_cons h, List.getD_eq_getElem?_getD, List.getElem?_eq_getElem h]
 rfl
theorem unAt_zero (bs : List UInt8) : unAt bs 0 [] = unesc bs := by
 unfold unAt
 rw [List.drop_zero]
 cases unesc bs <;> rfl
theorem unAt_other {bs acc : List UInt8} {i : Nat} (h : i < bs.length) (h0 : bs.getD i 0 ≠ 0) : unAt bs i acc = unAt bs (i + 1) (acc ++ [bs.getD i 0]) := by
 unfold unAt
 rw [bdrop h]
 conv => lhs; unfold unesc
 rw [if_neg h0]
 cases unesc (bs.drop (i + 1)) <;> simp
theorem unAt_end {bs acc : List UInt8} {i : Nat} (h : bs.length ≤ i) : unAt bs i acc = none := by
 unfold unAt
 rw [List.drop_eq_nil_of_le h]
 rfl
theorem unAt_last {bs acc : List UInt8} {i : Nat} (h : i + 1 = bs.length) (h0 : bs.getD i 0 = 0) : unAt bs i acc = none := by
 unfold unAt
 rw [bdrop (by omega), List.drop_eq_nil_of_le (by omega : bs.length ≤ i + 1)]
 conv => lhs; unfold unesc
 rw [if_pos h0]
 rfl
theorem unAt_one {bs acc : List UInt8} {i : Nat} (h : i + 1 < bs.length) (h0 : bs.getD i 0 = 0) (h1 : bs.getD (i + 1) 0 = 1) : unAt bs i acc = some (acc, bs.drop (i + 2)) := by
 unfold unAt
 rw [bdrop (by omega : i < bs.length), bdrop h]
 conv => lhs; unfold unesc
 rw [if_pos h0]
 simp only []
 rw [if_pos h1]
 simp
theorem unAt_esc {bs acc : List UInt8} {i : Nat} (h : i + 1 < bs.length) (h0 : bs.getD i 0 = 0) (h1 : bs.getD (i + 1) 0 = 255) : unAt bs i acc = unAt bs (i + 2) (acc ++ [0]) := by
 unfold unAt
 rw [bdrop (by omega : i < bs.length), bdrop h]
 conv => lhs; unfold unesc
 rw [if_pos h0]
 simp only []
 rw [if_neg (by rw [h1]; decide), if_pos h1]
 cases unesc (bs.drop (i + 1 + 1)) <;> simp
theorem unAt_bad {bs acc : List UInt8} {i : Nat} (h : i + 1 < bs.length) (h0 : bs.getD i 0 = 0) (h1 : bs.getD (i + 1) 0 ≠ 1) (h2 : bs.getD (i + 1) 0 ≠ 255) : unAt bs i acc = none := by
 unfold unAt
 rw [bdrop (by omega : i < bs.length), bdrop h]
 conv => lhs; unfold unesc
 rw [if_pos h0]
 simp only []
 rw [if_neg h1, if_neg h2]
 rfl
def zEd (w0 w : World) (o : Option (List UInt8 × List UInt8)) (e : Ending) (w' : World) : Prop :=
 match o with
 | some (s, r) => ∃ (v : Value) (A : Option Addr) (c : Nat), e = .returned (.tuple #[v, .slice A r.length c, .bool true]) ∧ Kd.R kB 5 w' w.heap.size (fun _ => True) v (nums s) ∧ Kd.C kB w0 A r.length (nums r) ∧ r.length ≤ c ∧ Below w.heap.size w w'
 | none => e = .returned (.tuple #[.slice none 0 0, .slice none 0 0, .bool false]) ∧ Below w.heap.size w w'
theorem zEd.bad {w0 w w' : World} {o : Option (List UInt8 × List UInt8)} (h : o = none) (hb : Below w.heap.size w w') : zEd w0 w o (.returned (.tuple #[.slice none 0 0, .slice none 0 0, .bool false])) w' := by
 subst h
 exact ⟨rfl, hb⟩
theorem zEd.good {w0 w w' : World} {o : Option (List UInt8 × List UInt8)} {s r : List UInt8} {v : Value} {A : Option Addr} {m c : Nat} (h : o = some (s, r)) (hm : m = r.length) (hr : Kd.R kB 5 w' w.heap.size (fun _ => True) v (nums s)) (hc : Kd.C kB w0 A r.length (nums r)) (hl : r.length ≤ c) (hb : Below w.heap.size w w') :
  zEd w0 w o (.returned (.tuple #[v, .slice A m c, .bool true])) w' := by
 subst h hm
 exact ⟨v, A, c, rfl, hr, hc, hl, hb⟩
theorem byteAt {w : World} {A : Option Addr} {n : Nat} {bs : List UInt8} (h : Kd.C kB w A n (nums bs)) (i : Nat) (h1 : i < bs.length) : ∃ ad, A = some ad ∧ w.cell? (ad.add i) = some (.int .u8 ((bs.getD i 0).toNat : Int)) := by
 have hn : (nums bs).length = n := h.1
 rw [nums_length] at hn
 obtain ⟨ad, e, hc⟩ := (Kd.reads_of_C (d := 0) h).2.2 (by omega)
 have := hc i (by omega)
 rw [nums_getD bs i h1] at this
 exact ⟨ad, e, this⟩
theorem add_pos (ad : Addr) (n : Nat) (h : 0 < n) : ad.add n = ⟨ad.block, ad.off + n, none⟩ := by
 unfold Addr.add
 split
 ·omega
 ·rfl
theorem u8_eq {x : UInt8} {k : Nat} (hk : k < 256) (h : ((x.toNat : Nat) : Int) = (k : Int)) : x = UInt8.ofNat k := UInt8.toNat_inj.1 (by rw [UInt8.toNat_ofNat']; omega)
theorem info5r : ∃ i, Tryz.prog.info? 5 = some i ∧ i.size = 1 := by
 obtain ⟨i0, hi0, hz0⟩ := Option.map_eq_some_iff.1 info5
 simp only [Prod.mk.injEq] at hz0
 exact ⟨i0, hi0, hz0.2.1⟩
theorem C_drop_nums {w : World} {A : Option Addr} {n : Nat} {bs : List UInt8} {m : Nat} (h : ReadsInt w .u8 A (n - m) ((nums bs).drop m)) (hn : bs.length = n) : Kd.C kB w A (bs.drop m).length (nums (bs.drop m)) := by
 have e : (nums bs).drop m = nums (bs.drop m) := by simp [nums]
 rw [e] at h
 rw [List.length_drop, hn]
 exact Kd.C_of_reads (d := 0) ⟨h.1, h.2.1, h.2.2⟩
set_option maxHeartbeats 4000000 in
set_option maxRecDepth 100000 in
theorem plain_any (A : Option Addr) (n c : Nat) (bs : List UInt8) (w0 w : World) (hB0 : Below w0.heap.size w0 w) (hn : bs.length = n) (hc : n ≤ c) (hl : n ≤ 100000) (hr : Kd.C kB w0 A n (nums bs)) :
  Calls Tryz.prog 147 #[.slice A n c] w (zEd w0 w (unesc bs)) := by
 have HR0 := zAa.mk hr
 have HR := zAa.mk (Kd.zBb hr hB0)
 have HN := zAa.mk hn
 clear hr hn hB0
 obtain ⟨i5, hi5, hs5⟩ := info5r
 go_enter Tryz.func147, Tryz.ntmps147
 go_wp2_with fail
 go_step3
 go_wp2_with fail
 go_step3
 go_wp2_with fail
 go_loopw [2, 5] (fun v2 v5 w' => ∃ (i : Nat) (acc : List UInt8), i ≤ n ∧ v5 = .int .i64 i ∧ zAa (acc.length ≤ i) ∧ zAa (Kd.R kB 5 w' w.heap.size (fun _ => True) v2 (nums acc)) ∧ zAa (Below w.heap.size w w') ∧ zAa (unesc bs = unAt bs i acc)) (fun _ v5 _ => n - (intOf v5).toNat)
 case atStart => exact ⟨0, [], by omega, rfl, ⟨by simp⟩, ⟨Kd.R_nil _ _ _ _ _⟩, ⟨Below.refl _ _⟩, ⟨(unAt_zero bs).symm⟩⟩
 case round =>
  obtain ⟨i, acc, hi, rfl, HL, HV, HB, HU⟩ := hrel
  by_cases hlt : i < n
  ·obtain ⟨ad, rfl, c0⟩ := byteAt (Kd.zBb HR.out HB.out) i (by rw [HN.out]; exact hlt)
   have h4 : (i : Int) < n := by omega
   have h5 : (0 : Int) ≤ (i : Int) := by omega
   obtain ⟨b, hb⟩ : ∃ b, bs.getD i 0 = b := ⟨_, rfl⟩
   rw [hb] at c0
   have HBb := zAa.mk hb
   clear hb
   obtain ⟨A2, c2, e2⟩ := Kd.zAk HV.out
   subst e2
   by_cases hz : b = 0
   ·subst hz
    have t0 : (((0 : UInt8).toNat : Int) != 0) = false := rfl
    have e0 : ((0 : UInt8).toNat : Int) = 0 := rfl
    rw [e0] at c0 t0
    clear e0
    by_cases hlast : i + 1 = n
    ·have t1 : ((i : Int) + 1 == (n : Int)) = true := beq_iff_eq.2 (by omega)
     have HX : zAa (unesc bs = none) := ⟨by rw [HU.out]; exact unAt_last (by rw [HN.out]; exact hlast) HBb.out⟩
     clear hlast
     go_wp2_with fail
     rw [Exit.noGoto_ret]
     go_ret3
     exact zEd.bad HX.out HB.out
    ·have hlt2 : i + 1 < n := by omega
     have t1 : ((i : Int) + 1 == (n : Int)) = false := beq_eq_false_iff_ne.2 (by omega)
     obtain ⟨ad', ea, c1⟩ := byteAt (Kd.zBb HR.out HB.out) (i + 1) (by rw [HN.out]; exact hlt2)
     injection ea with ea
     subst ea
     rw [add_pos ad (i + 1) (by omega)] at c1
     have h6 : (i : Int) + 1 < n := by omega
     have h7 : (0 : Int) ≤ (i : Int) + 1 := by omega
     have h8 : ((i : Int) + 1).toNat = i + 1 := by omega
     obtain ⟨b1, hb1⟩ : ∃ b, bs.getD (i + 1) 0 = b := ⟨_, rfl⟩
     rw [hb1] at c1
     have HB1 := zAa.mk hb1
     clear hb1 hlast
     by_cases h1 : b1 = 1
     ·subst h1
      have e0 : ((1 : UInt8).toNat : Int) = 1 := rfl
      rw [e0] at c1
      clear e0
      obtain ⟨A', hcut, hA'⟩ := print_cut (P := Tryz.prog) 47 5 .i64 Tryz.underlying47 hi5 hs5 (some ad) n c (i + 2) (by omega)
      have e1 : ((i + 2 : Nat) : Int) = (i : Int) + 2 := by omega
      rw [e1] at hcut
      clear e1
      have hreads := hA' w0 .u8 (nums bs) hc (Kd.reads_of_C (d := 0) HR0.out)
      have HC := zAa.mk (C_drop_nums hreads HN.out)
      have HX : zAa (unesc bs = some (acc, bs.drop (i + 2))) := ⟨by rw [HU.out]; exact unAt_one (by rw [HN.out]; exact hlt2) HBb.out HB1.out⟩
      have HLn : zAa (n - (i + 2) = (bs.drop (i + 2)).length) := ⟨by rw [List.length_drop, HN.out]⟩
      have HLc : zAa ((bs.drop (i + 2)).length ≤ c - (i + 2)) := ⟨by rw [List.length_drop, HN.out]; omega⟩
      clear hA' hreads
      go_wp2_with fail
      go_quiet (fail)
      go_wp2_with fail
      rw [Exit.noGoto_ret]
      go_ret3
      exact zEd.good HX.out HLn.out (Kd.R_drewN HV.out _) HC.out HLc.out (zAe HB.out _)
     ·have t2 : ((b1.toNat : Int) == 1) = false := beq_eq_false_iff_ne.2 (fun e => h1 (u8_eq (k := 1) (by decide) e))
      by_cases h2 : b1 = 255
      ·subst h2
       have e0 : ((255 : UInt8).toNat : Int) = 255 := rfl
       rw [e0] at c1 t2
       clear e0
       have HX : zAa (unesc bs = unAt bs (i + 2) (acc ++ [0])) := ⟨by rw [HU.out]; exact unAt_esc (by rw [HN.out]; exact hlt2) HBb.out HB1.out⟩
       go_wp2_with (at_builtin; refine Kd.zEf kB (w0 := w) w.heap.size rfl (.tmp 49) (.tmp 50) 47 5 (.int .u8 0) 1 rfl Tryz.underlying47 info5 rfl (by decide) (by omega) (.slice A2 (nums acc).length c2) (nums acc) 0 _ (fun _ => True) (fun _ => False) rfl rfl rfl (fun _ hk => hk.elim) (fun _ _ => trivial) HV.out HB.out HB.out.size (by have := HL.out; rw [nums_length]; omega) ?_; intro v1 w1 ho hb hg hat; have HV1 : zAa (Kd.R kB 5 w1 w.heap.size (fun _ => True) v1 (nums (acc ++ [0]))) := ⟨by rw [nums_append]; exact ho⟩; have HB2 := zAa.mk hb; clear ho hb hg hat)
       go_roundw
       case rel => exact ⟨i + 2, acc ++ [0], by omega, by go_num, ⟨by have := HL.out; simp only [List.length_append, List.length_cons, List.length_nil]; omega⟩, HV1, HB2, HX⟩
       case measure => simp [intOf]; omega
      ·have t3 : ((b1.toNat : Int) != 255) = true := by
        rw [bne_iff_ne]
        exact fun e => h2 (u8_eq (k := 255) (by decide) e)
       have HX : zAa (unesc bs = none) := ⟨by rw [HU.out]; exact unAt_bad (by rw [HN.out]; exact hlt2) HBb.out (by rw [HB1.out]; exact h1) (by rw [HB1.out]; exact h2)⟩
       go_wp2_with fail
       rw [Exit.noGoto_ret]
       go_ret3
       exact zEd.bad HX.out HB.out
   ·have t0 : ((b.toNat : Int) != 0) = true := by
     rw [bne_iff_ne]
     exact fun e => hz (u8_eq (k := 0) (by decide) e)
    have HX : zAa (unesc bs = unAt bs (i + 1) (acc ++ [b])) := ⟨by rw [HU.out, unAt_other (by rw [HN.out]; exact hlt) (by rw [HBb.out]; exact hz), HBb.out]⟩
    go_wp2_with (at_builtin; refine Kd.zEf kB (w0 := w) w.heap.size rfl (.tmp 17) (.tmp 22) 47 5 (.int .u8 0) 1 rfl Tryz.underlying47 info5 rfl (by decide) (by omega) (.slice A2 (nums acc).length c2) (nums acc) (b.toNat : Int) _ (fun _ => True) (fun _ => False) rfl rfl rfl (fun _ hk => hk.elim) (fun _ _ => trivial) HV.out HB.out HB.out.size (by have := HL.out; rw [nums_length]; omega) ?_; intro v1 w1 ho hb hg hat; have HV1 : zAa (Kd.R kB 5 w1 w.heap.size (fun _ => True) v1 (nums (acc ++ [b]))) := ⟨by rw [nums_append]; exact ho⟩; have HB2 := zAa.mk hb; clear ho hb hg hat)
    go_roundw
    case rel => exact ⟨i + 1, acc ++ [b], by omega, by go_num, ⟨by have := HL.out; simp only [List.length_append, List.length_cons, List.length_nil]; omega⟩, HV1, HB2, HX⟩
    case measure => simp [intOf]; omega
  ·obtain rfl : i = n := by omega
   have HX : zAa (unesc bs = none) := ⟨by rw [HU.out]; exact unAt_end (by rw [HN.out]; exact Nat.le_refl _)⟩
   go_wp2_with fail
   rw [Exit.noGoto_ret]
   go_ret3
   exact zEd.bad HX.out HB.out
end Go.Proofs.YtpckachmleonlaaGreatDoor.Cp
end
