/- Words and walks for Split and Tablet: texts of these sessions, and of the kit's print, cut down to what is used (E F G H). -/
import Derived.Test.YtpckachmleonlaaGreatDoorCv7
section
set_option linter.unusedVariables false
set_option linter.unusedSimpArgs false
namespace Go.Proofs.YtpckachmleonlaaGreatDoor
open Go.RowKit Go.Proofs.YtpckachmleonlaaGreatDoorW.PrintWords
theorem u64_lt (t : Int) : IntKind.u64.wrap t < 18446744073709551616 := by
  unfold IntKind.wrap
  simp only []
  exact Int.emod_lt_of_pos _ (by decide)
def byteM (H : HM) (c : Int) : HM := { H with tail := H.tail.set (H.n % 64).toNat c, n := IntKind.u64.wrap (H.n + 1) }
def addM (H : HM) (c : Int) : HM := if (byteM H c).n % 64 = 0 then blockM (byteM H c) else byteM H c
def addL (H : HM) (l : List Int) : HM := l.foldl addM H
theorem addL_take (H : HM) (l : List Int) (k : Nat) (h : k < l.length) : addL H (l.take (k + 1)) = addM (addL H (l.take k)) (l.getD k 0) := by
  unfold addL
  rw [List.take_succ_eq_append_getElem h, List.foldl_append, List.getD_eq_getElem?_getD, List.getElem?_eq_getElem h]
  rfl
theorem addM_n (H : HM) (c : Int) : (addM H c).n = IntKind.u64.wrap (H.n + 1) := by
  unfold addM
  split <;> rfl
theorem addL_n (H : HM) (h : 0 ≤ H.n ∧ H.n < 18446744073709551616) (l : List Int) : 0 ≤ (addL H l).n ∧ (addL H l).n < 18446744073709551616 := by
  induction l generalizing H with
  | nil => exact h
  | cons c l ih =>
    refine ih (addM H c) ?_
    rw [addM_n]
    exact ⟨u64_nonneg _, u64_lt _⟩
theorem byteAt {w : World} {A : Option Addr} {n : Nat} {l : List Int} (h : Kd.C kB w A n l) (i : Nat) (hi : i < n) : ∃ ad, A = some ad ∧ w.cell? (ad.add i) = some (.int .u8 (l.getD i 0)) := by
  have h2 := (Kd.reads_of_C (d := 0) h).2.2 (by omega)
  obtain ⟨ad, e, hc⟩ := h2
  exact ⟨ad, e, hc i hi⟩
theorem C_fr {w w' : World} {b : Nat} {A : Option Addr} {n : Nat} {l : List Int} (h : Kd.C kB w A n l) (hn : ∀ ad, A = some ad → ad.block ≠ b) (hf : Fr [b] w w') : ∀ i, i < n → ∃ ad, A = some ad ∧ w'.cell? (ad.add i) = some (.int .u8 (l.getD i 0)) := by
  intro i hi
  obtain ⟨ad, e, hc⟩ := byteAt h i hi
  refine ⟨ad, e, ?_⟩
  rw [← hc]
  have hb : (ad.add i).block = ad.block := by unfold Addr.add; split <;> rfl
  have hlt := World.block_lt_of_cell? w _ hc
  rw [hb] at hlt
  have := hf.block ad.block hlt (by simpa using hn ad e)
  unfold World.cell?
  rw [hb, this]
set_option maxHeartbeats 4000000 in
set_option maxRecDepth 100000 in
theorem add_any (b : Nat) (H : HM) (A : Option Addr) (c : Nat) (l : List Int) (w : World) (hH : HAt w b H) (hn : 0 ≤ H.n ∧ H.n < 18446744073709551616) (hr : Kd.C kB w A l.length l) (hne : 0 < l.length → ∀ ad, A = some ad → ad.block ≠ b) (hl : l.length ≤ 4000000) :
    Calls Tryz.prog 99 #[.pointer (some ⟨b, 0, none⟩), .slice A l.length c] w fun e w' => e = .returned (.tuple #[]) ∧ HAt w' b (addL H l) ∧ Fr [b] w w' := by
  have HH := zAa.mk hH
  have HR := zAa.mk hr
  have HE := zAa.mk hne
  have HN := zAa.mk hn
  obtain ⟨n, hln⟩ : ∃ n, l.length = n := ⟨_, rfl⟩
  have HL := zAa.mk hln
  rw [hln] at HR hl ⊢
  clear hH hr hne hn hln
  go_enter Tryz.func99, Tryz.ntmps99
  go_wp2_with fail
  go_loopw [10] (fun v10 w' => ∃ k : Nat, k ≤ n ∧ v10 = .int .i64 k ∧ zAa (HAt w' b (addL H (l.take k))) ∧ zAa (Fr [b] w w')) (fun v10 _ => n - (intOf v10).toNat)
  case atStart => exact ⟨0, by omega, rfl, ⟨by simpa [addL] using HH.out⟩, ⟨Fr.refl _ _⟩⟩
  case round =>
    obtain ⟨k, hk, rfl, HV, HF⟩ := hrel
    by_cases hlt : k < n
    · have h1 : (k : Int) < n := by omega
      obtain ⟨ad, rfl, ck⟩ := C_fr HR.out (HE.out (by rw [HL.out]; omega)) HF.out k hlt
      obtain ⟨x, hx⟩ : ∃ x, l.getD k 0 = x := ⟨_, rfl⟩
      have HX := zAa.mk (addL_take H l k (by rw [HL.out]; exact hlt))
      rw [hx] at ck HX
      clear hx
      have hN := addL_n H HN.out (l.take k)
      generalize addL H (l.take k) = M at HV HX hN
      obtain ⟨Mh, Mt, m⟩ := M
      obtain ⟨m0, m1⟩ := hN
      change 0 ≤ m at m0
      change m < 18446744073709551616 at m1
      have cn : wr.cell? ⟨b, 72, none⟩ = some (.int .u64 m) := HV.out.n_cell
      obtain ⟨q, hq⟩ : ∃ q : Nat, (m % 64).toNat = q := ⟨_, rfl⟩
      have q0 : m.tmod 64 = (q : Int) := by rw [Int.tmod_eq_emod_of_nonneg m0]; omega
      have q1 : (q : Int) < 64 := by omega
      have q2 : q < 64 := by omega
      have HQ : zAa (byteM ⟨Mh, Mt, m⟩ x = ⟨Mh, Mt.set q x, IntKind.u64.wrap (m + 1)⟩) := ⟨by unfold byteM; rw [← hq]⟩
      clear hq
      go_upto_region 4 with fail
      go_still_tail 10, (by kernel_rfl)
      change wpList _ _ _ _ _ wr.drew
      have HV2 : zAa (HAt wr.drew b ⟨Mh, Mt, m⟩) := ⟨HV.out.keep (zAg (Below.refl _ _))⟩
      have HF2 : zAa (Fr [b] w wr.drew) := ⟨HF.out.trans (Fr.of_below (F := []) (zAg (Below.refl _ _))) (by simp)⟩
      clear HV HF cn ck
      generalize wr.drew = w2 at HV2 HF2 ⊢
      have ct := HV2.out.t_cell q2
      have ft := zAd HV2.out.hb (8 + q)
      go_upto_region 5 with fail
      have HV3 : zAa (HAt (w2.setCell ⟨b, 8 + q, none⟩ (.int .u8 x)) b ⟨Mh, Mt.set q x, m⟩) := ⟨HV2.out.set_t q2 x⟩
      have HF3 : zAa (Fr [b] w (w2.setCell ⟨b, 8 + q, none⟩ (.int .u8 x))) := ⟨HF2.out.trans (Fr.set (F := [b]) _ (by simp) _) (by simp)⟩
      clear HV2 HF2 ct ft
      generalize w2.setCell ⟨b, 8 + q, none⟩ (.int .u8 x) = w3 at HV3 HF3 ⊢
      have cn : w3.cell? ⟨b, 72, none⟩ = some (.int .u64 m) := HV3.out.n_cell
      have fn := zAd HV3.out.hb 72
      go_upto_region 6 with fail
      have HV4 : zAa (HAt (w3.setCell ⟨b, 72, none⟩ (.int .u64 (IntKind.u64.wrap (m + 1)))) b ⟨Mh, Mt.set q x, IntKind.u64.wrap (m + 1)⟩) := ⟨HV3.out.set_n _⟩
      have HF4 : zAa (Fr [b] w (w3.setCell ⟨b, 72, none⟩ (.int .u64 (IntKind.u64.wrap (m + 1))))) := ⟨HF3.out.trans (Fr.set (F := [b]) _ (by simp) _) (by simp)⟩
      clear HV3 HF3 cn fn
      generalize w3.setCell ⟨b, 72, none⟩ (.int .u64 (IntKind.u64.wrap (m + 1))) = w4 at HV4 HF4 ⊢
      have p0 : 0 ≤ IntKind.u64.wrap (m + 1) := u64_nonneg _
      generalize IntKind.u64.wrap (m + 1) = p at HV4 HQ p0
      have cn : w4.cell? ⟨b, 72, none⟩ = some (.int .u64 p) := HV4.out.n_cell
      by_cases hz : p % 64 = 0
      · have tz : (p % 64 == 0) = true := beq_iff_eq.2 hz
        have HZ : zAa (addM ⟨Mh, Mt, m⟩ x = blockM ⟨Mh, Mt.set q x, p⟩) := ⟨by unfold addM; rw [HQ.out, if_pos hz]⟩
        clear hz
        go_wp2_with fail
        refine (block_any b _ w4 HV4.out).mono ?_
        rintro e w5 ⟨rfl, hH, hF⟩
        have HV5 := zAa.mk hH
        have HF5 : zAa (Fr [b] w w5) := ⟨HF4.out.trans hF (by simp)⟩
        clear hH hF cn
        go_wp2_with fail
        go_roundw
        case rel => exact ⟨k + 1, by omega, by go_num, ⟨by rw [HX.out, HZ.out]; exact HV5.out⟩, HF5⟩
        case measure => simp [intOf]; omega
      · have tz : (p % 64 == 0) = false := beq_eq_false_iff_ne.2 hz
        have HZ : zAa (addM ⟨Mh, Mt, m⟩ x = ⟨Mh, Mt.set q x, p⟩) := ⟨by unfold addM; rw [HQ.out, if_neg hz]⟩
        clear hz
        go_wp2_with fail
        go_roundw
        case rel => exact ⟨k + 1, by omega, by go_num, ⟨by rw [HX.out, HZ.out]; exact HV4.out⟩, HF4⟩
        case measure => simp [intOf]; omega
    · obtain rfl : k = n := by omega
      have HE2 : zAa (l.take k = l) := ⟨List.take_of_length_le (by rw [HL.out]; exact Nat.le_refl _)⟩
      go_wp2_with fail
      go_end0
      exact ⟨rfl, by have := HV.out; rwa [HE2.out] at this, HF.out⟩
end Go.Proofs.YtpckachmleonlaaGreatDoor
end
section
set_option linter.unusedVariables false
set_option linter.unusedSimpArgs false
namespace Go.Proofs.YtpckachmleonlaaGreatDoor
open Go.RowKit Go.Proofs.YtpckachmleonlaaGreatDoorW.PrintWords
def padM : Nat → HM → HM
 | 0, H => H
 | k + 1, H => if H.n % 64 = 56 then H else padM k (addM H 0)
def lenM (n : Int) (H : HM) : Nat → HM
 | 0 => H
 | i + 1 => addM (lenM n H i) (n / 2 ^ (56 - 8 * i) % 256)
def four (x : Int) : List Int := [x / 16777216 % 256, x / 65536 % 256, x / 256 % 256, x % 256]
def outM (l : List Int) : Nat → List Int
 | 0 => []
 | i + 1 => outM l i ++ four (l.getD i 0)
def endM (H : HM) : HM := lenM (IntKind.u64.wrap (H.n * 8)) (padM 64 (addM H 128)) 8
def sumM (H : HM) : List Int := outM (endM H).h 8
theorem HAt.range {w : World} {b : Nat} {H : HM} (h : HAt w b H) : w.rangeAt b 0 H.cells := by
 intro j v hj
 rw [Nat.zero_add, zAc h.hb]
 simpa using hj
theorem HM.cells_len {H : HM} (h1 : H.h.length = 8) (h2 : H.tail.length = 64) : H.cells.length = 73 := by simp [HM.cells, h1, h2]
theorem size172 {H : HM} (h : H.cells.length = 73) : (Tryz.prog.info? 172).map (·.size) = some H.cells.length := by
 have h1 : (Tryz.prog.info? 172).map (·.size) = some 73 := by kernel_rfl
 rw [h]
 exact h1
theorem HM.cells_one (H : HM) : H.cells.toArray.all (·.oneCell') = true := by
 refine all_oneCell_toArray fun v hv => ?_
 simp only [HM.cells, List.mem_append, List.mem_map, List.mem_cons, List.not_mem_nil, or_false] at hv
 rcases hv with (⟨x, _, rfl⟩ | ⟨x, _, rfl⟩) | rfl <;> rfl
def zeroH : HM := ⟨List.replicate 8 0, List.replicate 64 0, 0⟩
theorem lenM_ok (n : Int) (H : HM) (h : 0 ≤ H.n ∧ H.n < 18446744073709551616) : ∀ i, 0 ≤ (lenM n H i).n ∧ (lenM n H i).n < 18446744073709551616
 | 0 => h
 | i + 1 => by rw [lenM, addM_n]; exact ⟨u64_nonneg _, u64_lt _⟩
theorem outM_len (l : List Int) : ∀ i, (outM l i).length = 4 * i
 | 0 => rfl
 | i + 1 => by rw [outM, List.length_append, outM_len l i]; simp [four]; omega
theorem C_four {w : World} {g : Nat} {x : Int} (h : w.heap[g]? = some (.cells #[.int .u8 (x / 16777216 % 256), .int .u8 (x / 65536 % 256), .int .u8 (x / 256 % 256), .int .u8 (x % 256)] 5 (0, 0))) : Kd.C kB w (some ⟨g, 0, none⟩) 4 (four x) := by
 refine Kd.C_of_reads (d := 0) ⟨rfl, by simp, fun _ => ⟨_, rfl, fun j hj => ?_⟩⟩
 rw [Addr.add_mid, zAc h]
 rcases (by omega : j = 0 ∨ j = 1 ∨ j = 2 ∨ j = 3) with rfl | rfl | rfl | rfl <;> rfl
theorem HAt.hrange {w : World} {b : Nat} {h t : List Int} {n : Int} (hH : HAt w b ⟨h, t, n⟩) : w.rangeAt b 0 (zFe h) := by
 intro j v hj
 have hlt : j < h.length := by
  have := (List.getElem?_eq_some_iff.1 hj).1
  rwa [wcells_length] at this
 have h8 : h.length = 8 := hH.lh
 rw [Nat.zero_add, hH.h_cell (i := j) (by omega), ← hj, wcells_get hlt]
theorem size169' {l : List Int} (h : l.length = 8) : (Tryz.prog.info? 169).map (·.size) = some (zFe l).length := by
 rw [wcells_length, h]
 kernel_rfl
theorem index169' {l : List Int} (h : l.length = 8) (i : Nat) (hi : i < 8) (W : World) : (Instr.index 169 (.agg (zFe l).toArray) (.int .i64 (i : Int))).run Tryz.prog W = .ok (.int .u32 (l.getD i 0)) W := by
 obtain ⟨inf, hinf, hsz⟩ : ∃ inf, Tryz.prog.info? 157 = some inf ∧ inf.size = 1 := by
  have h : (Tryz.prog.info? 157).map (·.size) = some 1 := by kernel_rfl
  cases hq : Tryz.prog.info? 157 with
  | none => rw [hq] at h; cases h
  | some x => rw [hq] at h; exact ⟨x, rfl, by simpa using h⟩
 refine run_index_one 169 157 8 (zFe l).toArray i _ Tryz.underlying169 hinf hsz (fun W => ?_) (by omega) (by omega) ?_ W
 ·unfold isAgg
  rw [Sem.run_bind, run_underlying Tryz.underlying157 W]
  rfl
 ·have := wcells_get (L := l) (i := i) (by omega)
  simpa using this
def dist (n : Int) : Nat := ((120 - n % 64) % 64).toNat
theorem dist_pos {n : Int} (h : ¬ n % 64 = 56) : 0 < dist n := by unfold dist; omega
theorem wrap_mod (n : Int) : IntKind.u64.wrap n % 64 = n % 64 := by
 have e : IntKind.u64.wrap n = n % 18446744073709551616 := by unfold IntKind.wrap; rfl
 rw [e]
 omega
theorem dist_next {n : Int} (h : ¬ n % 64 = 56) : dist (IntKind.u64.wrap (n + 1)) + 1 = dist n := by
 unfold dist
 rw [wrap_mod]
 omega
theorem C_one {w : World} {g : Nat} {x : Int} (h : w.heap[g]? = some (.cells #[.int .u8 x] 5 (0, 0))) : Kd.C kB w (some ⟨g, 0, none⟩) [x].length [x] := by
 refine Kd.C_of_reads (d := 0) ⟨rfl, by simp, fun _ => ⟨_, rfl, fun j hj => ?_⟩⟩
 obtain rfl : j = 0 := by simp at hj; omega
 rw [Addr.add_mid, zAc h]
 rfl
theorem add_one (g : Nat) (H : HM) (x : Int) (W : World) (hH : HAt W g H) (hn : 0 ≤ H.n ∧ H.n < 18446744073709551616) :
  Calls Tryz.prog 99 #[.pointer (some ⟨g, 0, none⟩), .slice (some ⟨W.heap.size, 0, none⟩) 1 1] (W.alloc (.cells #[.int .u8 x] 5)) fun e w' => e = .returned (.tuple #[]) ∧ HAt w' g (addM H x) ∧ Fr [g] W w' := by
 refine (add_any g H (some ⟨W.heap.size, 0, none⟩) 1 [x] _ (hH.keep (zAb (Below.refl _ _) _)) hn (C_one (heap_alloc_new _ _)) (fun _ ad h => ?_) (by simp)).mono ?_
 ·injection h with h
  subst h
  have := hH.lt_size
  simp only []
  omega
 ·rintro e w' ⟨rfl, h1, h2⟩
  exact ⟨rfl, h1, (Fr.of_below (F := [g]) (zAb (Below.refl _ _) _)).trans h2 (by simp)⟩
theorem addM_ok (H : HM) (c : Int) : 0 ≤ (addM H c).n ∧ (addM H c).n < 18446744073709551616 := by
 rw [addM_n]
 exact ⟨u64_nonneg _, u64_lt _⟩
set_option maxHeartbeats 4000000 in
set_option maxRecDepth 100000 in
theorem sum_any (b : Nat) (H : HM) (w : World) (hH : HAt w b H) (hn : 0 ≤ H.n ∧ H.n < 18446744073709551616) :
  Calls Tryz.prog 102 #[.pointer (some ⟨b, 0, none⟩)] w fun e w' => ∃ v, e = .returned v ∧ Kd.R kB 5 w' w.heap.size (fun _ => True) v (sumM H) ∧ Below w.heap.size w w' := by
 have HH := zAa.mk hH
 have HN := zAa.mk hn
 have hrg := hH.range
 have hcl := HM.cells_len hH.lh hH.lt
 have hsz := size172 hcl
 have HCL := zAa.mk hcl
 clear hH hn hcl
 go_enter Tryz.func102, Tryz.ntmps102
 go_upto_region 3 with fail
 apply wp_region_lit
 refine Great.wpList_runTo rfl (some 10) rfl (.pointer (some ⟨b, 0, none⟩)) _ rfl ?_
 refine Great.wpList_runTo rfl (some 11) rfl (.pointer (some ⟨b, 0, none⟩)) _ rfl ?_
 refine wpList_load_mid rfl 172 (.tmp 11) rfl b 0 rfl H.cells _ hrg Tryz.underlying172 rfl hsz ?_
 refine Great.wpList_allocTo rfl (some 3) rfl (.pointer (some ⟨w.heap.size, 0, none⟩)) (.cells zeroH.cells.toArray 172) (by as_aux_lemma => kernel_rfl) ?_
 refine wpList_store_rowTo rfl 172 _ _ rfl rfl w.heap.size H.cells.toArray rfl rfl 172 zeroH.cells.toArray (heap_alloc_new _ _) (by simpa using hsz) (by simp [HCL.out]; rfl) (HM.cells_one H) ?_
 apply wpList_nil
 have HE : zAa (HAt ((w.alloc (.cells zeroH.cells.toArray 172)).setRow w.heap.size H.cells.toArray) w.heap.size H) := ⟨⟨setRow_heap _ _ _ _ _ _ (heap_alloc_new _ _), HH.out.lh, HH.out.lt⟩⟩
 have HB : zAa (Below w.heap.size w ((w.alloc (.cells zeroH.cells.toArray 172)).setRow w.heap.size H.cells.toArray)) := ⟨below_setRow (zAb (Below.refl _ _) _) (Nat.le_refl _) _⟩
 generalize ((w.alloc (.cells zeroH.cells.toArray 172)).setRow w.heap.size H.cells.toArray) = W at HE HB ⊢
 obtain ⟨g, hg⟩ : ∃ g, w.heap.size = g := ⟨_, rfl⟩
 rw [hg] at HE
 have HG := zAa.mk hg
 rw [hg]
 clear hg hrg hsz
 generalize H.cells.toArray = va
 have cn : W.cell? ⟨b, 72, none⟩ = some (.int .u64 H.n) := (HH.out.keep HB.out).n_cell
 go_wp2_with fail
 refine (add_one g H 128 W HE.out HN.out).mono ?_
 rintro e w1 ⟨rfl, hH, hF⟩
 have HE1 := zAa.mk hH
 have HB1 : zAa (Below w.heap.size w w1) := ⟨HB.out.trans (hF.below HB.out.size (by simp [HG.out]))⟩
 clear hH hF cn
 go_wp2_with fail
 obtain ⟨nn, hnn⟩ : ∃ y, IntKind.u64.wrap (H.n * 8) = y := ⟨_, rfl⟩
 have hn0 : 0 ≤ nn := hnn ▸ u64_nonneg _
 rw [hnn]
 have HNN := zAa.mk hnn
 clear hnn
 go_loopg [] 64 (fun kq w' => ∃ M : HM, zAa (HAt w' g M) ∧ zAa (Below w.heap.size w w') ∧ zAa (padM 64 (addM H 128) = padM kq M) ∧ zAa (0 ≤ M.n ∧ M.n < 18446744073709551616) ∧ zAa (dist M.n ≤ kq))
 case atStart => exact ⟨_, HE1, HB1, ⟨rfl⟩, ⟨addM_ok _ _⟩, ⟨by unfold dist; omega⟩⟩
 case round =>
  obtain ⟨M, HM1, HC, HP, HK, HD⟩ := hrel
  have cn : wr.cell? ⟨g, 72, none⟩ = some (.int .u64 M.n) := HM1.out.n_cell
  have p0 := HK.out.1
  by_cases hz : M.n % 64 = 56
  ·have tz : (M.n % 64 != 56) = false := by rw [hz]; rfl
   have HPM : zAa (padM 64 (addM H 128) = M) := ⟨by rw [HP.out]; cases gk with
    | zero => rfl
    | succ k => rw [padM, if_pos hz]⟩
   clear hz
   go_wp2_with fail
   clear cn tz p0
   go_loopw [26] (fun v26 w' => ∃ i : Nat, i ≤ 8 ∧ v26 = .int .i64 i ∧ zAa (HAt w' g (lenM nn M i)) ∧ zAa (Below w.heap.size w w')) (fun v26 _ => 8 - (intOf v26).toNat)
   case atStart => exact ⟨0, by omega, rfl, HM1, HC⟩
   case round =>
    obtain ⟨i, hi, rfl, HI, HB3⟩ := hrel
    by_cases hlt : i < 8
    ·have h1 : (i : Int) < 8 := by omega
     have s0 : 0 ≤ 56 - 8 * (i : Int) := by omega
     have s1 : 56 - 8 * (i : Int) ≤ 56 := by omega
     have hok := lenM_ok nn M HK.out i
     generalize hMi : lenM nn M i = Mi at HI hok
     have HMI := zAa.mk hMi
     have HOK := zAa.mk hok
     clear hMi hok
     go_wp2_with fail
     refine (add_one g Mi (nn / 2 ^ (56 - 8 * i) % 256) wr HI.out HOK.out).mono ?_
     rintro e w2 ⟨rfl, hH, hF⟩
     have HE2 := zAa.mk hH
     have HB2 : zAa (Below w.heap.size w w2) := ⟨HB3.out.trans (hF.below HB3.out.size (by simp [HG.out]))⟩
     clear hH hF
     go_wp2_with fail
     go_roundw
     case rel => exact ⟨i + 1, by omega, by go_num, ⟨by rw [lenM, HMI.out]; exact HE2.out⟩, HB2⟩
     case measure => simp [intOf]; omega
    ·obtain rfl : i = 8 := by omega
     have HEM : zAa (endM H = lenM nn M 8) := ⟨by unfold endM; rw [HNN.out, HPM.out]⟩
     generalize lenM nn M 8 = E at HI HEM
     obtain ⟨Eh, Et, En⟩ := E
     have HEL : zAa (Eh.length = 8) := ⟨HI.out.lh⟩
     have hrg : wr.rangeAt g 0 (zFe Eh) := HI.out.hrange
     have hsz := size169' HI.out.lh
     have hix := index169' HI.out.lh
     go_wp2_with (refine wpList_load_mid rfl 169 (.tmp 39) rfl g 0 rfl (zFe Eh) _ hrg Tryz.underlying169 rfl hsz ?_)
     clear hrg hsz
     generalize (zFe Eh).toArray = ve at hix ⊢
     go_loopw [2, 41] (fun v2 v41 w' => ∃ i : Nat, i ≤ 8 ∧ v41 = .int .i64 i ∧ zAa (Kd.R kB 5 w' w.heap.size (fun _ => True) v2 (outM Eh i)) ∧ zAa (Below w.heap.size w w')) (fun _ v41 _ => 8 - (intOf v41).toNat)
     case atStart => exact ⟨0, by omega, rfl, ⟨Kd.R_nil _ _ _ _ _⟩, HB3⟩
     case round =>
      obtain ⟨i, hi, rfl, HR, HB⟩ := hrel
      by_cases hlt : i < 8
      ·have h1 : (i : Int) < 8 := by omega
       have hj := fun W => hix i hlt W
       obtain ⟨x, hx⟩ : ∃ x, Eh.getD i 0 = x := ⟨_, rfl⟩
       have HX : zAa (outM Eh (i + 1) = outM Eh i ++ four x) := ⟨by rw [outM, hx]⟩
       have HL : zAa ((outM Eh i).length ≤ 32) := ⟨by rw [outM_len]; omega⟩
       rw [hx] at hj
       clear hx hix
       obtain ⟨A1, c1, e1⟩ := Kd.zAk HR.out
       subst e1
       generalize outM Eh i = ol at HR HX HL
       go_wp2_with (at_builtin; refine Kd.zDf kB (w0 := w) w.heap.size rfl (.tmp 44) (.tmp 56) 47 5 (.int .u8 0) 1 rfl Tryz.underlying47 info5 rfl (by decide) (by omega) (.slice A1 ol.length c1) ol (four x) (some ⟨wr.heap.size, 0, none⟩) 4 4 (fun _ => True) (fun _ => False) rfl rfl (Kd.zEb HR.out _) (C_four (heap_alloc_new _ _)) (fun x cs h => h) (fun _ hk => hk.elim) (fun _ _ => trivial) (zAb HB.out _) (by have := HB.out.size; simp; omega) (by have := HL.out; simp [four]; omega) ?_; intro v1 w2 ho hb _ _; have HR2 := zAa.mk ho; have HB2 := zAa.mk hb; clear ho hb)
       go_roundw
       case rel => exact ⟨i + 1, by omega, by go_num, ⟨by rw [HX.out]; exact HR2.out⟩, HB2⟩
       case measure => simp [intOf]; omega
      ·obtain rfl : i = 8 := by omega
       have HS : zAa (sumM H = outM Eh 8) := ⟨by unfold sumM; rw [HEM.out]⟩
       go_wp2_with fail
       go_ret
       exact ⟨_, rfl, HS.out ▸ HR.out, HB.out⟩
  ·have tz : (M.n % 64 != 56) = true := bne_iff_ne.2 hz
   cases gk with
   | zero => exact absurd (dist_pos hz) (by have := HD.out; omega)
   | succ k1 =>
    have HQ : zAa (padM 64 (addM H 128) = padM k1 (addM M 0)) := ⟨by rw [HP.out, padM, if_neg hz]⟩
    have HD2 : zAa (dist (addM M 0).n ≤ k1) := ⟨by rw [addM_n]; have := dist_next hz; have := HD.out; omega⟩
    clear hz
    go_wp2_with fail
    refine (add_one g M 0 wr HM1.out HK.out).mono ?_
    rintro e w2 ⟨rfl, hH, hF⟩
    have HE2 := zAa.mk hH
    have HB2 : zAa (Below w.heap.size w w2) := ⟨HC.out.trans (hF.below HC.out.size (by simp [HG.out]))⟩
    clear hH hF cn
    go_wp2_with fail
    go_roundg k1
    case measure => omega
    case rel => exact ⟨_, HE2, HB2, HQ, ⟨addM_ok _ _⟩, HD2⟩
end Go.Proofs.YtpckachmleonlaaGreatDoor
end
section
set_option linter.unusedVariables false
set_option linter.unusedSimpArgs false
namespace Go.Proofs.YtpckachmleonlaaGreatDoor
open Go.RowKit Go.Proofs.YtpckachmleonlaaGreatDoorW.PrintWords
def zEh (l : List Int) : List Int := sumM (addL newH l)
theorem C_block {w : World} {A : Option Addr} {l : List Int} (h : Kd.C kB w A l.length l) (h0 : 0 < l.length) : ∀ ad, A = some ad → ad.block < w.heap.size := by
  intro ad e
  obtain ⟨ad', e', hc⟩ := byteAt h 0 h0
  have hlt := World.block_lt_of_cell? w _ hc
  rw [e] at e'
  injection e' with e'
  subst e'
  unfold Addr.add at hlt
  split at hlt <;> exact hlt
set_option maxHeartbeats 4000000 in
set_option maxRecDepth 100000 in
theorem dsum_any (A : Option Addr) (c : Nat) (l : List Int) (w : World) (hr : Kd.C kB w A l.length l) (hl : l.length ≤ 4000000) :
    Calls Tryz.prog 116 #[.slice A l.length c] w fun e w' => ∃ v, e = .returned v ∧ Kd.R kB 5 w' w.heap.size (fun _ => True) v (zEh l) ∧ Below w.heap.size w w' := by
  have HR := zAa.mk hr
  clear hr
  go_enter Tryz.func116, Tryz.ntmps116
  go_wp2_with fail
  refine (new_any w).mono ?_
  rintro e w1 ⟨rfl, hH, hb⟩
  have HH := zAa.mk hH
  have HB := zAa.mk hb
  clear hH hb
  obtain ⟨g, hg⟩ : ∃ g, w.heap.size = g := ⟨_, rfl⟩
  have HG := zAa.mk hg
  rw [hg] at HH ⊢
  clear hg
  go_wp2_with fail
  refine (add_any g newH A c l w1 HH.out (by decide) (Kd.zBb HR.out HB.out) (fun h0 ad e => by have := C_block HR.out h0 ad e; have := HG.out; omega) hl).mono ?_
  rintro e w2 ⟨rfl, hH, hF⟩
  have HH2 := zAa.mk hH
  have HB2 : zAa (Below w.heap.size w w2) := ⟨HB.out.trans (hF.below HB.out.size (by simp [HG.out]))⟩
  clear hH hF
  go_wp2_with fail
  refine (sum_any g _ w2 HH2.out (addL_n newH (by decide) l)).mono ?_
  rintro e w3 ⟨v, rfl, hr, hb⟩
  have HR3 := zAa.mk hr
  have HB3 := zAa.mk hb
  clear hr hb
  obtain ⟨A1, c1, e1⟩ := Kd.zAk HR3.out
  subst e1
  go_wp2_with fail
  go_ret
  exact ⟨_, rfl, Kd.zCj HR3.out HB2.out.size, HB2.out.trans (HB3.out.mono HB2.out.size)⟩
end Go.Proofs.YtpckachmleonlaaGreatDoor
end
section
set_option linter.unusedVariables false
set_option linter.unusedSimpArgs false
namespace Go.Proofs.YtpckachmleonlaaGreatDoor
open Go.RowKit Go.Proofs.YtpckachmleonlaaGreatDoorW.PrintWords
def rd_L (xs : List (List Int)) (i : Nat) : List Int := xs.getD i []
theorem rowAt {w : World} {A : Option Addr} {n : Nat} {xs : List (List Int)} (h : Kd.C (Kd.slice 5 kB) w A n xs) (i : Nat) (h1 : i < n) : ∃ ad A0 c0, A = some ad ∧ ad.block < w.heap.size ∧ w.cell? (ad.add i) = some (.slice A0 (rd_L xs i).length c0) ∧ (rd_L xs i).length ≤ c0 ∧ kB.C w A0 (rd_L xs i).length (rd_L xs i) := by
  obtain ⟨ad, c, e, _, hK, hc0⟩ := Kd.C_get h ([] : List Int) (i : Int) (by omega) (by omega)
  have hc : ∀ j u, c[j]? = some u → w.cell? (ad.add (i * 1 + j)) = some u := hc0
  obtain ⟨A0, c0, rfl, l0, g0⟩ := hK
  have hq := hc 0 _ rfl
  rw [Nat.mul_one, Nat.add_zero] at hq
  refine ⟨ad, A0, c0, e, ?_, hq, l0, g0⟩
  have := World.block_lt_of_cell? w _ hq
  unfold Addr.add at this
  split at this <;> exact this
def wireM (p : List Int) : List Int := uvar p.length ++ p
def ofH0 (s : ByteArray) (n : Nat) : HM := addL newH (wireM (bytesOf s) ++ uvar n)
def ofL (s : ByteArray) (xs : List (List Int)) (i : Nat) : HM := (xs.take i).foldl (fun H p => addL H (wireM p)) (ofH0 s xs.length)
def ofM (s : ByteArray) (xs : List (List Int)) : List Int := sumM (ofL s xs xs.length)
theorem ofL_succ {s : ByteArray} {xs : List (List Int)} {i : Nat} (h : i < xs.length) : ofL s xs (i + 1) = addL (ofL s xs i) (wireM (rd_L xs i)) := by
  unfold ofL
  rw [List.take_succ_eq_append_getElem h, List.foldl_append]
  simp [rd_L, List.getD_eq_getElem?_getD, List.getElem?_eq_getElem h]
theorem ofL_ok (s : ByteArray) (xs : List (List Int)) : ∀ i, 0 ≤ (ofL s xs i).n ∧ (ofL s xs i).n < 18446744073709551616 := by
  intro i
  unfold ofL
  generalize xs.take i = ys
  have h0 : 0 ≤ (ofH0 s xs.length).n ∧ (ofH0 s xs.length).n < 18446744073709551616 := addL_n newH (by decide) _
  generalize ofH0 s xs.length = H at h0
  induction ys generalizing H with
  | nil => exact h0
  | cons p ys ih => exact ih _ (addL_n H h0 _)
theorem R_block {w : World} {B : Nat} {A : Option Addr} {c : Nat} {l : List Int} (h : Kd.R kB 5 w B (fun _ => True) (.slice A l.length c) l) : ∀ ad, A = some ad → B ≤ ad.block := by
  intro ad e
  subst e
  obtain ⟨inner, ho⟩ := Kd.R_own h
  exact own_base ho ad.block rfl
theorem bytesOf_len (s : ByteArray) : (bytesOf s).length = s.size := by unfold bytesOf; rw [List.length_map, Array.length_toList]; rfl
theorem R_cap {w : World} {e base : Nat} {ok : Nat → Prop} {A : Option Addr} {n c : Nat} {l : List Int} (h : Kd.R kB e w base ok (.slice A n c) l) : l.length ≤ c ∧ kB.C w A l.length l := by
  obtain ⟨A', c', he, h1, h2⟩ := Kd.zGa h
  injection he with e1 e2 e3
  subst e1 e3
  exact ⟨h1, h2⟩
theorem C_nil (w : World) : Kd.C kB w none ([] : List Int).length ([] : List Int) := ⟨rfl, by simp, fun h => absurd h (by simp)⟩
set_option maxHeartbeats 4000000 in
set_option maxRecDepth 100000 in
theorem of_any (s : ByteArray) (A : Option Addr) (c : Nat) (xs : List (List Int)) (w : World) (hr : Kd.C (Kd.slice 5 kB) w A xs.length xs) (hs : s.size ≤ 1000) (hx : xs.length ≤ 1000000) (hp : ∀ p ∈ xs, p.length ≤ 400000) :
    Calls Tryz.prog 61 #[.string s, .slice A xs.length c] w fun e w' => ∃ v, e = .returned v ∧ Kd.R kB 5 w' w.heap.size (fun _ => True) v (ofM s xs) ∧ Below w.heap.size w w' := by
  have HR := zAa.mk hr
  have HP := zAa.mk hp
  obtain ⟨n, hn⟩ : ∃ n, xs.length = n := ⟨_, rfl⟩
  have HN := zAa.mk hn
  rw [hn] at HR hx ⊢
  clear hr hp hn
  have kb := fun W => print_bytes (P := Tryz.prog) 9 47 5 Tryz.underlying9 Tryz.underlying47 Tryz.underlying5 s W
  go_enter Tryz.func61, Tryz.ntmps61
  go_wp2_with fail
  refine (new_any w).mono ?_
  rintro e w1 ⟨rfl, hH, hb⟩
  have HH := zAa.mk hH
  have HB := zAa.mk hb
  clear hH hb
  obtain ⟨g, hg⟩ : ∃ g, w.heap.size = g := ⟨_, rfl⟩
  have HG := zAa.mk hg
  rw [hg] at HH ⊢
  clear hg
  go_wp2_with fail
  have HW : zAa (HAt (Lib.bytesWorld w1 5 s) g newH) := ⟨HH.out.keep (bytes_below (Below.refl _ _) (Nat.le_refl _) 5 s)⟩
  have HBW : zAa (Below w.heap.size w (Lib.bytesWorld w1 5 s)) := ⟨bytes_below HB.out HB.out.size 5 s⟩
  have hcs : Kd.C kB (Lib.bytesWorld w1 5 s) (some ⟨w1.heap.size, 0, none⟩) (bytesOf s).length (bytesOf s) := by rw [bytesOf_len]; exact Kd.C_of_reads (d := 0) (bytes_reads w1 5 s (by omega))
  have hcap := grownCap_ge w1 s.size 0 5
  generalize grownCap w1 s.size 0 5 = cp at hcap ⊢
  have h101 := bytes_any none 0 [] (some ⟨w1.heap.size, 0, none⟩) cp (bytesOf s) (Lib.bytesWorld w1 5 s) (C_nil _) (Nat.le_refl _) (by simp) hcs (by rw [bytesOf_len]; exact hcap) (by rw [bytesOf_len]; omega)
  rw [bytesOf_len] at h101
  clear hcs kb
  generalize Lib.bytesWorld w1 5 s = w2 at HW HBW h101 ⊢
  refine h101.mono ?_
  rintro e w3 ⟨v, rfl, hr, hb⟩
  have HV : zAa (Kd.R kB 5 w3 w2.heap.size (fun _ => True) v (wireM (bytesOf s))) := ⟨by unfold wireM; rw [bytesOf_len]; exact hr⟩
  have HH3 := zAa.mk (HW.out.keep hb)
  have HB3 : zAa (Below w.heap.size w w3) := ⟨HBW.out.trans (hb.mono HBW.out.size)⟩
  clear hr hb h101
  have hwl : (wireM (bytesOf s)).length ≤ 2000 := by unfold wireM; rw [List.length_append]; have := uvar_len (bytesOf s).length; rw [bytesOf_len] at this ⊢; omega
  obtain ⟨y, hy⟩ : ∃ y, wireM (bytesOf s) = y := ⟨_, rfl⟩
  have HY := zAa.mk hy
  rw [hy] at HV hwl
  have HWL := zAa.mk hwl
  clear hy hwl
  obtain ⟨A1, c1, e1⟩ := Kd.zAk HV.out
  subst e1
  go_wp2_with fail
  refine (uint_any A1 c1 y n w3 (R_cap HV.out).2 (R_cap HV.out).1 (by have := HWL.out; omega) (by omega)).mono ?_
  rintro e w4 ⟨v, rfl, hr, hb⟩
  obtain ⟨z, hz⟩ : ∃ z, y ++ uvar n = z := ⟨_, rfl⟩
  have HZ : zAa (ofH0 s n = addL newH z) := ⟨by unfold ofH0; rw [HY.out, hz]⟩
  have HZL : zAa (z.length ≤ 3000) := ⟨by have := uvar_len n; have := HWL.out; rw [← hz, List.length_append]; omega⟩
  rw [hz] at hr
  have HV4 := zAa.mk hr
  have HH4 := zAa.mk (HH3.out.keep hb)
  have HB4 : zAa (Below w.heap.size w w4) := ⟨HB3.out.trans (hb.mono HB3.out.size)⟩
  have HG4 : zAa (g < w3.heap.size) := ⟨HH3.out.lt_size⟩
  clear hr hb hz
  obtain ⟨A2, c2, e2⟩ := Kd.zAk HV4.out
  subst e2
  go_wp2_with fail
  refine (add_any g newH A2 c2 z w4 HH4.out (by decide) (R_cap HV4.out).2 (fun _ ad e => by have := R_block HV4.out ad e; have := HG4.out; omega) (by have := HZL.out; omega)).mono ?_
  rintro e w5 ⟨rfl, hH, hF⟩
  have HH5 : zAa (HAt w5 g (ofL s xs 0)) := ⟨by unfold ofL; rw [List.take_zero, List.foldl_nil, HN.out, HZ.out]; exact hH⟩
  have HB5 : zAa (Below w.heap.size w w5) := ⟨HB4.out.trans (hF.below HB4.out.size (by simp [HG.out]))⟩
  clear hH hF
  go_wp2_with fail
  go_loopw [20] (fun v20 w' => ∃ i : Nat, i ≤ n ∧ v20 = .int .i64 i ∧ zAa (HAt w' g (ofL s xs i)) ∧ zAa (Below w.heap.size w w')) (fun v20 _ => n - (intOf v20).toNat)
  case atStart => exact ⟨0, by omega, rfl, HH5, HB5⟩
  case round =>
    obtain ⟨i, hi, rfl, HI, HC⟩ := hrel
    by_cases hlt : i < n
    · have h1 : (i : Int) < n := by omega
      obtain ⟨ad, A0, c0, rfl, hb, k1, k2, k3⟩ := rowAt (Kd.zBb HR.out HC.out) i hlt
      have HX := zAa.mk (ofL_succ (s := s) (xs := xs) (i := i) (by rw [HN.out]; exact hlt))
      have HOK := zAa.mk (ofL_ok s xs i)
      have hpl : (rd_L xs i).length ≤ 400000 := by
        have h9 : i < xs.length := by rw [HN.out]; exact hlt
        have e9 : rd_L xs i = xs[i] := by simp [rd_L, List.getD_eq_getElem?_getD, List.getElem?_eq_getElem h9]
        rw [e9]
        exact HP.out _ (List.getElem_mem h9)
      have HPL := zAa.mk hpl
      have HK3 := zAa.mk k3
      clear hpl k3
      generalize ofL s xs i = M at HI HX HOK
      generalize rd_L xs i = p at k1 k2 HK3 HPL HX
      go_wp2_with fail
      refine (bytes_any none 0 [] A0 c0 p wr (C_nil _) (Nat.le_refl _) (by simp) HK3.out k2 HPL.out).mono ?_
      rintro e w6 ⟨v, rfl, hr, hb6⟩
      have HV6 : zAa (Kd.R kB 5 w6 wr.heap.size (fun _ => True) v (wireM p)) := ⟨by unfold wireM; exact hr⟩
      have HH6 := zAa.mk (HI.out.keep hb6)
      have HB6 : zAa (Below w.heap.size w w6) := ⟨HC.out.trans (hb6.mono HC.out.size)⟩
      have HG6 : zAa (g < wr.heap.size) := ⟨HI.out.lt_size⟩
      have HWL6 : zAa ((wireM p).length ≤ 500000) := ⟨by unfold wireM; rw [List.length_append]; have := uvar_len p.length; have := HPL.out; omega⟩
      clear hr hb6 k1
      generalize wireM p = y6 at HV6 HX HWL6
      obtain ⟨A6, c6, e6⟩ := Kd.zAk HV6.out
      subst e6
      go_wp2_with fail
      refine (add_any g M A6 c6 y6 w6 HH6.out HOK.out (R_cap HV6.out).2 (fun _ ad e => by have := R_block HV6.out ad e; have := HG6.out; omega) (by have := HWL6.out; omega)).mono ?_
      rintro e w7 ⟨rfl, hH, hF⟩
      have HH7 := zAa.mk hH
      have HB7 : zAa (Below w.heap.size w w7) := ⟨HB6.out.trans (hF.below HB6.out.size (by simp [HG.out]))⟩
      clear hH hF
      go_wp2_with fail
      go_roundw
      case rel => exact ⟨i + 1, by omega, by go_num, ⟨by rw [HX.out]; exact HH7.out⟩, HB7⟩
      case measure => simp [intOf]; omega
    · obtain rfl : i = n := by omega
      have HOK := zAa.mk (ofL_ok s xs i)
      have HS : zAa (ofM s xs = sumM (ofL s xs i)) := ⟨by unfold ofM; rw [HN.out]⟩
      go_wp2_with fail
      refine (sum_any g _ wr HI.out HOK.out).mono ?_
      rintro e w8 ⟨v, rfl, hr, hb⟩
      rw [← HS.out] at hr
      have HV8 := zAa.mk hr
      have HB8 := zAa.mk hb
      clear hr hb
      obtain ⟨A8, c8, e8⟩ := Kd.zAk HV8.out
      subst e8
      go_wp2_with fail
      go_ret
      exact ⟨_, rfl, Kd.zCj HV8.out HC.out.size, HC.out.trans (HB8.out.mono HC.out.size)⟩
end Go.Proofs.YtpckachmleonlaaGreatDoor
end
