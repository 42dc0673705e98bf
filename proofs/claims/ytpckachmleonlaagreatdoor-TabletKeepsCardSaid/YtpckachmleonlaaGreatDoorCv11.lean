/- Words and walks for Split and Tablet: texts of these sessions, and of the kit's print, cut down to what is used (O P). -/
import Derived.Test.YtpckachmleonlaaGreatDoorCv10
section
set_option linter.unusedVariables false
set_option linter.unusedSimpArgs false
namespace Go.Proofs.YtpckachmleonlaaGreatDoor
open Go.RowKit Go.Proofs.YtpckachmleonlaaGreatDoorW.PrintWords
theorem RAt.deep {w : World} {A : Option Addr} {c : Nat} {ys : List (Hd × List Int)} (h : RAt w A c ys) : Kd.C (Kd.slice 5 kB) w A (ys.map (·.2)).length (ys.map (·.2)) := by
 obtain ⟨⟨h1, h2, h3⟩, hc, hb⟩ := h
 refine ⟨rfl, by rw [List.length_map]; exact h2, fun hn => ?_⟩
 rw [List.length_map] at hn
 obtain ⟨ad, e, hr⟩ := h3 hn
 refine ⟨ad, e, fun j p hj => ?_⟩
 rw [List.getElem?_map] at hj
 obtain ⟨y, hy, rfl⟩ := Option.map_eq_some_iff.1 hj
 obtain ⟨cs, hs, hk, hcell⟩ := hr j y.1 (by rw [List.getElem?_map, hy]; rfl)
 have hb2 := hb y (List.mem_of_getElem? hy)
 refine ⟨cs, hs, ?_, hcell⟩
 have hk2 : cs = [y.1.v] := hk
 exact ⟨y.1.A, y.1.c, by rw [hk2, Hd.v, hb2.n], hb2.c, hb2.row⟩
theorem sumM_len (H : HM) : (sumM H).length = 32 := by unfold sumM; rw [outM_len]
theorem digestM_len (l : List Int) : (zEh l).length = 32 := sumM_len _
theorem ofM_len (s : ByteArray) (xs : List (List Int)) : (ofM s xs).length = 32 := sumM_len _
theorem levelM_le (k : List Int) : zBe k ≤ 64 := by
 have := lvlOf_le (ofM levelB [k])
 rw [ofM_len] at this
 exact this
theorem hashT_len (l : List It) : (hashT l).length = 32 := by
 rw [hashT, hashF]
 split <;> exact digestM_len _
theorem C_empty {w : World} {g : Nat} {fz : Nat × Nat} (h : w.heap[g]? = some (.cells #[.int .u8 101, .int .u8 109, .int .u8 112, .int .u8 116, .int .u8 121] 5 fz)) : Kd.C kB w (some ⟨g, 0, none⟩) emptyB.length emptyB := by
 refine Kd.C_of_reads (d := 0) ⟨rfl, by simp [emptyB], fun _ => ⟨_, rfl, fun j hj => ?_⟩⟩
 have hj4 : j < 5 := hj
 rw [Addr.add_mid, cell_of_row w g _ _ 5 fz h]
 rcases (by omega : j = 0 ∨ j = 1 ∨ j = 2 ∨ j = 3 ∨ j = 4) with rfl | rfl | rfl | rfl | rfl <;> rfl
theorem PartAt.inv {ok : Nat → Prop} {w : World} {o : Option Nat} {l : List It} (h : PartAt ok w o l) : (o = none ∧ l = []) ∨ ∃ g n js zs, o = some g ∧ l = partL js zs ∧ zEa ok w g n js (zs.map (·.1)) (hashT (partL js zs)) (partL js zs).length ∧ LvOk n (zs.map (·.2)) (js.map Jt.it) ∧ js ≠ [] ∧ ∀ z ∈ zs, PartAt ok w z.1 z.2 := by
 cases h with
 | nil_ => exact .inl ⟨rfl, rfl⟩
 | node_ h1 h2 h3 h4 => exact .inr ⟨_, _, _, _, rfl, rfl, h1, h2, h3, h4⟩
set_option maxHeartbeats 1000000 in
theorem many_any (ok : Nat → Prop) (o : Option Nat) (l : List It) (w : World) (h : PartAt ok w o l) : Calls Tryz.prog 71 #[ptrV o] w fun e w' => e = .returned (.int .i64 l.length) ∧ w' = w := by
 rcases h.inv with ⟨rfl, rfl⟩ | ⟨g, n, js, zs, rfl, rfl, hN, -, -, -⟩
 ·change Calls Tryz.prog 71 #[.pointer none] w _
  go_enter Tryz.func71, Tryz.ntmps71
  go_wp2_with fail
  go_ret
  exact ⟨rfl, rfl⟩
 ·obtain ⟨Ak, ck, Av, cv, Ac, cc, As, cs, h1, -⟩ := hN.ex
  have hc : w.cell? ⟨g, 5, none⟩ = some (.int .i64 (partL js zs).length) := (zAc h1 5).trans rfl
  have hlt := zAj h1
  clear h1 hN h
  generalize (partL js zs).length = m at hc ⊢
  change Calls Tryz.prog 71 #[.pointer (some ⟨g, 0, none⟩)] w _
  go_enter Tryz.func71, Tryz.ntmps71
  go_wp2_with fail
  go_ret
  exact ⟨rfl, rfl⟩
set_option maxHeartbeats 1000000 in
theorem hash_any (ok : Nat → Prop) (o : Option Nat) (l : List It) (w0 w : World) (h : PartAt ok w0 o l) (hb : Below w0.heap.size w0 w) : Calls Tryz.prog 88 #[ptrV o] w fun e w' => ∃ A c, e = .returned (.slice A (hashT l).length c) ∧ Below w.heap.size w w' ∧ ((w' = w ∧ FF (fun W => BAt W ⟨A, (hashT l).length, c⟩ (hashT l)) ok w0) ∨ Kd.R kB 5 w' w.heap.size (fun _ => True) (.slice A (hashT l).length c) (hashT l)) := by
 rcases h.inv with ⟨rfl, rfl⟩ | ⟨g, n, js, zs, rfl, rfl, hN, -, -, -⟩
 ·rw [hashT_nil]
  have kc := fun (w : World) (C : Array Value) (n c : Nat) => Lib.run_convert_bytes_const (P := Tryz.prog) w 47 5 C n c Tryz.underlying47 Tryz.underlying5
  change Calls Tryz.prog 88 #[.pointer none] w _
  clear h hb
  go_enter Tryz.func88, Tryz.ntmps88
  go_wp2_with fail
  refine (dsum_any _ _ emptyB _ (C_empty (heap_alloc_new w _)) (by decide)).mono ?_
  rintro e w1 ⟨v, rfl, hr, hb⟩
  have HR := zAa.mk (Kd.zCj (base' := w.heap.size) hr (by simp))
  have HB : zAa (Below w.heap.size w w1) := ⟨Below.trans (B := w.heap.size) (zAb (Below.refl _ _) _) (Below.mono hb (by simp))⟩
  obtain ⟨y, hy⟩ : ∃ y, zEh emptyB = y := ⟨_, rfl⟩
  rw [hy] at HR
  have HY := zAa.mk hy
  clear hr hb kc hy
  obtain ⟨A, c, e1⟩ := Kd.zAk HR.out
  subst e1
  go_wp2_with fail
  go_ret
  rw [HY.out]
  exact ⟨A, c, rfl, HB.out, .inr HR.out⟩
 ·obtain ⟨Ak, ck, Av, cv, Ac, cc, As, cs, h1, -, -, -, h2⟩ := hN.ex
  have hc : w.cell? ⟨g, 4, none⟩ = some (.slice As (hashT (partL js zs)).length cs) := (zAc (zAf h1 hb) 4).trans rfl
  have hlt := zAj (zAf h1 hb)
  have H2 := zAa.mk h2
  clear h1 hN h h2 hb
  generalize hashT (partL js zs) = m at hc H2 ⊢
  change Calls Tryz.prog 88 #[.pointer (some ⟨g, 0, none⟩)] w _
  go_enter Tryz.func88, Tryz.ntmps88
  go_wp2_with fail
  go_ret
  exact ⟨As, cs, rfl, Below.refl _ _, .inl ⟨rfl, H2.out⟩⟩
theorem inter_length : ∀ {ss : List (List It)} {is : List It}, ss.length = is.length + 1 → (inter ss is).length = is.length + (ss.map (·.length)).sum
 | [s], [], _ => by simp [inter]
 | s :: ss, i :: is, h => by
  have := inter_length (ss := ss) (is := is) (by simpa using h)
  simp only [inter, List.length_append, List.length_cons, List.map_cons, List.sum_cons, this]
  omega
 | [], _, h => by simp at h
 | _ :: _ :: _, [], h => by simp at h
def sumK (zs : List Kid) (i : Nat) : Nat := ((zs.take i).map fun z => z.2.length).sum
theorem sumK_succ {zs : List Kid} {i : Nat} (h : i < zs.length) : sumK zs (i + 1) = sumK zs i + zs[i].2.length := by
 unfold sumK
 rw [List.take_succ_eq_append_getElem h, List.map_append, List.sum_append, List.map_singleton, List.sum_singleton]
theorem kP_at {w : World} {A : Option Addr} {n : Nat} {xs : List (Option Nat)} (h : kP.C w A n xs) (i : Nat) (h1 : i < n) : ∃ ad, A = some ad ∧ ad.block < w.heap.size ∧ w.cell? (ad.add i) = some (ptrV (xs.getD i none)) := by
 obtain ⟨ad, c, e, _, hK, hc0⟩ := Kd.C_get h (none : Option Nat) (i : Int) (by omega) (by omega)
 have hc : ∀ j u, c[j]? = some u → w.cell? (ad.add (i * 1 + j)) = some u := hc0
 have hK2 : c = [ptrV (xs.getD i none)] := hK
 subst hK2
 have hq := hc 0 _ rfl
 rw [Nat.mul_one, Nat.add_zero] at hq
 refine ⟨ad, e, ?_, hq⟩
 have := World.block_lt_of_cell? w _ hq
 unfold Addr.add at this
 split at this <;> exact this
theorem sumK_le (zs : List Kid) (i : Nat) : sumK zs i ≤ sumK zs zs.length := by
 unfold sumK
 rw [List.take_length]
 conv => rhs; rw [← List.take_append_drop i zs, List.map_append, List.sum_append]
 omega
theorem zDh {n : Nat} {js : List Jt} {zs : List Kid} (h : LvOk n (zs.map (·.2)) (js.map Jt.it)) : (partL js zs).length = js.length + sumK zs zs.length := by
 rw [partL, inter_length h.len, List.length_map, List.map_map, sumK, List.take_length]
 rfl
theorem R_FF2 {α : Type} {d : Kd α} {e base : Nat} {w : World} {ok : Nat → Prop} {A : Option Addr} {n c : Nat} {xs : List α} (h : Kd.R d e w base ok (.slice A n c) xs) : FF (fun W => Kd.C d W A xs.length xs) (fun k => ok k ∧ base ≤ k ∧ k < w.heap.size) w := fun W hW => by
 have h1 := Kd.R_bound h
 have h2 := Kd.R_move h1 (w1 := W) (fun k hk => hW k ⟨hk.1, hk.2.1, hk.2.2.1⟩ hk.2.2.1)
 obtain ⟨A', c', e, h3, h4⟩ := Kd.zGa h2
 injection e with e1 e2 e3
 subst e1 e2 e3
 exact h4
theorem R_cap' {α : Type} {d : Kd α} {e base : Nat} {w : World} {ok : Nat → Prop} {A : Option Addr} {n c : Nat} {xs : List α} (h : Kd.R d e w base ok (.slice A n c) xs) : Kd.C d w A xs.length xs := by
 obtain ⟨A', c', e, h3, h4⟩ := Kd.zGa h
 injection e with e1 e2 e3
 subst e1 e2 e3
 exact h4
theorem mixK {w0 w : World} (hb : Below w0.heap.size w0 w) {A : Option Addr} {n : Nat} {xs : List (List Int)} (h : Kd.C (Kd.mix 5 kB kB w0) w A n xs) : Kd.C (Kd.slice 5 kB) w A n xs :=
 zD.imp_ h (Below.refl _ _) fun p cs hk => Kd.mix_read rfl (fun _ _ h => h) hb hk
set_option maxHeartbeats 4000000 in
set_option maxRecDepth 100000 in
theorem node_any (ok : Nat → Prop) (n : Nat) (Ak Av Ac : Option Addr) (ck cv cc : Nat) (js : List Jt) (zs : List Kid) (w : World) (hok : ∀ k, w.heap.size ≤ k → ok k)
  (hk : FF (fun W => RAt W Ak ck (js.map (·.1))) ok w) (hv : FF (fun W => RAt W Av cv (js.map (·.2))) ok w) (hc : FF (fun W => PAt W Ac cc (zs.map (·.1))) ok w) (hz : ∀ z ∈ zs, PartAt ok w z.1 z.2)
  (hl : LvOk n (zs.map (·.2)) (js.map Jt.it)) (hi : ItOk (partL js zs)) :
  Calls Tryz.prog 158 #[.int .i64 n, .slice Ak js.length ck, .slice Av js.length cv, .slice Ac zs.length cc] w fun e w' => ∃ o, e = .returned (ptrV o) ∧ PartAt ok w' o (partL js zs) ∧ Below w.heap.size w w' := by
 have HK := zAa.mk hk
 have HV := zAa.mk hv
 have HC := zAa.mk hc
 have HZ := zAa.mk hz
 have HL := zAa.mk hl
 have HI := zAa.mk hi
 have HOK := zAa.mk hok
 have hzl : zs.length = js.length + 1 := by have := hl.len; simpa using this
 have HPC := zAa.mk hc.now
 clear hk hv hc hz hl hi hok
 by_cases h0 : js = []
 ·subst h0
  obtain ⟨z, rfl⟩ : ∃ z, zs = [z] := by
   match zs, hzl with
   | [z], _ => exact ⟨z, rfl⟩
  obtain ⟨ad, rfl, hbl, hcell⟩ := kP_at HPC.out.row 0 (by simp)
  have hcell2 : w.cell? ad = some (ptrV z.1) := by simpa [Addr.add] using hcell
  have HR : zAa (PartAt ok w z.1 (partL [] [z])) := ⟨HZ.out z (by simp)⟩
  clear hcell HPC hzl HK HV HC HZ HL HI HOK
  generalize z.1 = o at hcell2 HR
  change Calls Tryz.prog 158 #[.int .i64 n, .slice Ak 0 ck, .slice Av 0 cv, .slice (some ad) 1 cc] w _
  go_enter Tryz.func158, Tryz.ntmps158
  go_wp2_with fail
  go_ret
  exact ⟨o, rfl, HR.out, Below.refl _ _⟩
 ·obtain ⟨m, hm⟩ : ∃ m, js.length = m := ⟨_, rfl⟩
  have hm0 : 0 < m := by rw [← hm]; exact List.length_pos_iff.2 h0
  have HJ := zAa.mk h0
  have HM := zAa.mk hm
  have hkl : zs.length = m + 1 := by rw [hzl, hm]
  have HKL := zAa.mk hkl
  have hm100 : m ≤ 100 := by
   have h1 := inter_length HL.out.len
   have h2 := HI.out.n
   simp only [partL] at h2
   rw [h1, List.length_map] at h2
   omega
  have hn64 : n ≤ 64 := by
   obtain ⟨j, hj⟩ := List.exists_mem_of_ne_nil _ h0
   rw [← HL.out.keys j.it (List.mem_map_of_mem hj)]
   exact levelM_le _
  rw [hm, hkl]
  clear h0 hm hkl hzl
  have e0 : ((m : Int) == (0 : Int)) = false := by simp; omega
  go_enter Tryz.func158, Tryz.ntmps158
  go_wp2_with fail
  obtain ⟨b, hb⟩ : ∃ b, w.heap.size = b := ⟨_, rfl⟩
  have HS := zAa.mk hb
  have HB0 : zAa (Below b w (w.alloc (.cells #[.int .i64 n, .slice Ak m ck, .slice Av m cv, .slice Ac (m + 1) cc, .slice none 0 0, .int .i64 m] 150))) := ⟨by rw [← hb]; exact zAb (Below.refl _ _) _⟩
  have HG0 : zAa ((w.alloc (.cells #[.int .i64 n, .slice Ak m ck, .slice Av m cv, .slice Ac (m + 1) cc, .slice none 0 0, .int .i64 m] 150)).heap[b]? = some (.cells #[.int .i64 n, .slice Ak m ck, .slice Av m cv, .slice Ac (m + 1) cc, .slice none 0 0, .int .i64 m] 150 (0, 0))) := ⟨by rw [← hb]; exact heap_alloc_new _ _⟩
  rw [hb]
  clear hb
  generalize w.alloc _ = w1 at HB0 HG0 ⊢
  go_loopw [10, 32] (fun v10 v32 w' => ∃ (i : Nat) (A : Option Addr) (c : Nat), i ≤ m ∧ v32 = .int .i64 i ∧ v10 = .slice A i c ∧ zAa (Kd.R (Kd.slice 5 kB) 47 w' b (fun _ => True) (.slice A i c) ((js.map fun j => zEh j.2.2).take i)) ∧ zAa (Below b w w') ∧ zAa (w'.heap[b]? = some (.cells #[.int .i64 n, .slice Ak m ck, .slice Av m cv, .slice Ac (m + 1) cc, .slice none 0 0, .int .i64 m] 150 (0, 0)))) (fun _ v32 _ => m - (intOf v32).toNat)
  case atStart => exact ⟨0, none, 0, by omega, rfl, rfl, ⟨by rw [List.take_zero]; exact Kd.R_nil _ _ _ _ _⟩, HB0, HG0⟩
  case round =>
   obtain ⟨i, A, c, him, rfl, rfl, HR, HB, HG⟩ := hrel
   by_cases hlt : i < m
   ·have h1 : (i : Int) < m := by omega
    have HRV := zAa.mk (HV.out.keep (by rw [HS.out]; exact HB.out)).now
    have hjl : i < js.length := by rw [HM.out]; exact hlt
    obtain ⟨ad, A0, c0, hA, hbl, k1, k2, k3⟩ := rowAt HRV.out.deep i (by simpa using hjl)
    have e1 : rd_L ((js.map (·.2)).map (·.2)) i = js[i].2.2 := by simp [rd_L, List.getD_eq_getElem?_getD, hjl]
    have HE : zAa ((js.map fun j => zEh j.2.2).take (i + 1) = (js.map fun j => zEh j.2.2).take i ++ [zEh js[i].2.2]) := ⟨by rw [List.take_succ_eq_append_getElem (by simpa using hjl)]; simp⟩
    rw [e1] at k1 k2 k3
    have hin : js[i].it ∈ partL js zs := (mem_inter HL.out.len _).2 (.inl (List.mem_map_of_mem (List.getElem_mem hjl)))
    have hvl : js[i].2.2.length ≤ 1100 := (HI.out.k _ hin).2.1
    generalize js[i].2.2 = p at k1 k2 k3 HE hvl
    have HP := zAa.mk k3
    subst hA
    clear k3 e1 hin
    go_wp2_with fail
    have hbs : b ≤ wr.heap.size := by rw [← HS.out]; exact HB.out.size
    refine (dsum_any A0 c0 p wr HP.out (by omega)).mono ?_
    rintro e w2 ⟨v, rfl, hr, hb⟩
    obtain ⟨y, hy⟩ : ∃ y, zEh p = y := ⟨_, rfl⟩
    rw [hy] at hr HE
    obtain ⟨inner, ho⟩ := Kd.R_own HR.out
    have HY := zAa.mk (Kd.zCj (Kd.R_new hr ho) hbs)
    have HB2 : zAa (Below b w w2) := ⟨HB.out.trans (hb.mono hbs)⟩
    have HG2 := zAa.mk (zAf HG.out hb)
    have HR2 := zAa.mk (Kd.zFa HR.out hb)
    have HSZ : zAa (b ≤ w2.heap.size) := ⟨Nat.le_trans hbs hb.size⟩
    clear ho hb hr hy hbs HRV
    obtain ⟨A1, c1, e1⟩ := Kd.zAk HY.out
    subst e1
    obtain ⟨L, hL⟩ : ∃ L, (js.map fun j => zEh j.2.2).take i = L := ⟨_, rfl⟩
    rw [hL] at HE HR2
    have hLl : L.length ≤ 100 := by rw [← hL, List.length_take]; omega
    clear hL
    go_wp2_with (at_builtin; refine Kd.zEf (Kd.slice 5 kB) (w0 := w) b rfl (.tmp 36) (.tmp 39) 104 47 (.slice none 0 0) 24 rfl Tryz.underlying104 info47 rfl (by decide) (by omega) (.slice A i c) L y [.slice A1 y.length c1] (fun _ => True) _ rfl rfl ⟨_, rfl, HY.out⟩ (fun k hk => hk) (fun _ _ => trivial) HR2.out HB2.out HSZ.out (by omega) ?_; intro v1 w3 ho hb hg hat; have HR3 := zAa.mk ho; have HB3 := zAa.mk hb; have HG3 := zAa.mk (zEc HG2.out hg (Kd.R_ne HR2.out HG2.out (by decide))); clear ho hb hg hat; rw [← HE.out] at HR3; obtain ⟨A3, c3, e3⟩ := Kd.zAk HR3.out; rw [List.length_take, List.length_map, HM.out, Nat.min_eq_left (by omega)] at e3; subst e3)
    go_roundw
    case rel => exact ⟨i + 1, A3, c3, by omega, by go_num, rfl, HR3, HB3, HG3⟩
    case measure => simp [intOf]; omega
   ·obtain rfl : i = m := by omega
    have HR4 : zAa (Kd.R (Kd.slice 5 kB) 47 wr b (fun _ => True) (.slice A i c) (js.map fun j => zEh j.2.2)) := ⟨by have := HR.out; rwa [List.take_of_length_le (by rw [List.length_map, HM.out]; exact Nat.le_refl _)] at this⟩
    clear HR
    obtain ⟨L, hL⟩ : ∃ L, (js.map fun j => zEh j.2.2) = L := ⟨_, rfl⟩
    rw [hL] at HR4
    have HLS := zAa.mk hL
    obtain ⟨b2, hb2⟩ : ∃ b2, wr.heap.size = b2 := ⟨_, rfl⟩
    have HSF : zAa (FF (fun W => Kd.C (Kd.slice 5 kB) W A L.length L) (fun k => k ≠ b ∧ k < b2) wr) := ⟨(R_FF2 (Kd.R_types HR4.out HG.out (by decide))).mono (fun k hk => ⟨hk.1.2, by rw [← hb2]; exact hk.2.2⟩)⟩
    have hLl : L.length = i := by rw [← hL, List.length_map, HM.out]
    have HS2 : zAa (b2 ≤ wr.heap.size) := ⟨by omega⟩
    have HBB : zAa (b < b2) := ⟨by rw [← hb2]; exact zAj HG.out⟩
    have HG' : zAa (wr.heap[b]? = some (.cells #[.int .i64 n, .slice Ak i ck, .slice Av i cv, .slice Ac (i + 1) cc, .slice none 0 0, .int .i64 ((i + sumK zs 0 : Nat) : Int)] 150 (0, 0))) := ⟨HG.out⟩
    clear hL HR4 hb2 HG0 HG HB0
    go_wp2_with fail
    obtain ⟨m, hm⟩ : ∃ m, m = i := ⟨_, rfl⟩
    rw [← hm] at HM HKL hm100 hLl HG' e0 hm0 ⊢
    clear hm
    go_loopw [11, 44] (fun v11 v44 w' => ∃ (j : Nat) (A2 : Option Addr) (c2 : Nat), j ≤ m + 1 ∧ v44 = .int .i64 j ∧ v11 = .slice A2 j c2 ∧ zAa (Kd.R (Kd.mix 5 kB kB w) 47 w' b2 (fun _ => True) (.slice A2 j c2) ((zs.map fun z => hashT z.2).take j)) ∧ zAa (Below b w w') ∧ zAa (w'.heap[b]? = some (.cells #[.int .i64 n, .slice Ak m ck, .slice Av m cv, .slice Ac (m + 1) cc, .slice none 0 0, .int .i64 ((m + sumK zs j : Nat) : Int)] 150 (0, 0))) ∧ zAa (FF (fun W => Kd.C (Kd.slice 5 kB) W A L.length L) (fun k => k ≠ b ∧ k < b2) w') ∧ zAa (b2 ≤ w'.heap.size)) (fun _ v44 _ => m + 1 - (intOf v44).toNat)
    case atStart => exact ⟨0, none, 0, by omega, rfl, rfl, ⟨by rw [List.take_zero]; exact Kd.R_nil _ _ _ _ _⟩, HB, HG', HSF, HS2⟩
    case round =>
     clear HS2 HSF HG' HB
     obtain ⟨j, A2, c2, hjm, rfl, rfl, HR, HB, HG, HSF, HS2⟩ := hrel
     by_cases hlt : j < m + 1
     ·have h1 : (j : Int) < (m : Int) + 1 := by omega
      have hzl : j < zs.length := by rw [HKL.out]; exact hlt
      have HRC := zAa.mk (HC.out.keep (by rw [HS.out]; exact HB.out)).now
      obtain ⟨ad, hA, hbl, hcell⟩ := kP_at HRC.out.row j (by simpa using hzl)
      have e1 : (zs.map (·.1)).getD j none = zs[j].1 := by simp [List.getD_eq_getElem?_getD, hzl]
      rw [e1] at hcell
      have HP : zAa (PartAt ok w zs[j].1 zs[j].2) := ⟨HZ.out _ (List.getElem_mem hzl)⟩
      have HE : zAa ((zs.map fun z => hashT z.2).take (j + 1) = (zs.map fun z => hashT z.2).take j ++ [hashT zs[j].2]) := ⟨by rw [List.take_succ_eq_append_getElem (by simpa using hzl)]; simp⟩
      have HN : zAa (sumK zs (j + 1) = sumK zs j + zs[j].2.length) := ⟨sumK_succ hzl⟩
      have HNB : zAa (m + sumK zs (j + 1) ≤ 100) := ⟨by have h2 := zDh HL.out; have h3 := HI.out.n; have h4 := sumK_le zs (j + 1); have h5 := HM.out; omega⟩
      have HBw : zAa (Below w.heap.size w wr) := ⟨by rw [HS.out]; exact HB.out⟩
      generalize zs[j].1 = o at hcell HP
      generalize zs[j].2 = lz at HP HE HN
      obtain ⟨s0, hs0⟩ : ∃ s0, sumK zs j = s0 := ⟨_, rfl⟩
      obtain ⟨s1, hs1⟩ : ∃ s1, sumK zs (j + 1) = s1 := ⟨_, rfl⟩
      rw [hs0] at HG HN
      rw [hs1] at HN HNB
      have HS1 := zAa.mk hs1
      clear hs0 hs1 e1 HRC
      subst hA
      go_wp2_with fail
      refine (hash_any ok o lz w wr HP.out HBw.out).mono ?_
      rintro e w2 ⟨A1, c1, rfl, hb, hh⟩
      obtain ⟨inner, ho⟩ := Kd.R_own HR.out
      obtain ⟨y, hy⟩ : ∃ y, hashT lz = y := ⟨_, rfl⟩
      rw [hy] at hh HE ⊢
      have HM2 : zAa ((Kd.mix 5 kB kB w).M w2 b2 (fun k => True ∧ some k ≠ (Value.slice A2 j c2).ownBlock) y [.slice A1 y.length c1]) := ⟨by
       rcases hh with ⟨_, h2⟩ | h2
       ·exact Kd.mix_came h2.now.c h2.now.row
       ·exact Kd.mix_made (Kd.zCj (Kd.R_new h2 ho) HS2.out)⟩
      have HB2 : zAa (Below b w w2) := ⟨HB.out.trans (hb.mono (by have := HS2.out; have := HBB.out; omega))⟩
      have HG2 := zAa.mk (zAf HG.out hb)
      have HR2 := zAa.mk (Kd.zFa HR.out hb)
      have HSF2 := zAa.mk (HSF.out.keep hb)
      have HSZ2 : zAa (b2 ≤ w2.heap.size) := ⟨Nat.le_trans HS2.out hb.size⟩
      obtain ⟨L2, hL2⟩ : ∃ L2, (zs.map fun z => hashT z.2).take j = L2 := ⟨_, rfl⟩
      rw [hL2] at HE HR2
      have hL2l : L2.length ≤ 100 := by rw [← hL2, List.length_take]; omega
      clear hL2 hh ho hy hb HR HG HSF HS2 HB HBw
      go_upto_region 14 with (at_builtin; refine Kd.zEf (Kd.mix 5 kB kB w) (w0 := w2) b2 rfl (.tmp 48) (.tmp 51) 104 47 (.slice none 0 0) 24 rfl Tryz.underlying104 info47 rfl Nat.one_pos (by omega) (.slice A2 j c2) L2 y [.slice A1 y.length c1] (fun _ => True) _ rfl rfl HM2.out (fun k hk => hk) (fun _ _ => trivial) HR2.out (Below.refl _ _) HSZ2.out (by omega) ?_; intro v1 w3 ho hb hg hat; have HR3 := zAa.mk ho; have HB3 : zAa (Below b w w3) := ⟨HB2.out.trans (hb.mono (Nat.le_of_lt HBB.out))⟩; have HG3 : zAa (w3.heap[b]? = _) := ⟨(hb.block b HBB.out).trans HG2.out⟩; have HSF3 := zAa.mk (HSF2.out.step (fun k hk _ => hb.block k hk.2)); have HSZ3 : zAa (b2 ≤ w3.heap.size) := ⟨Nat.le_trans HSZ2.out hb.size⟩; have HSM : zAa (Below b2 w2 w3) := ⟨hb⟩; clear ho hb hg hat; rw [← HE.out] at HR3; obtain ⟨A3, c3, e3⟩ := Kd.zAk HR3.out; rw [List.length_take, List.length_map, HKL.out, Nat.min_eq_left (by omega)] at e3; subst e3)
      have c5 : w3.cell? ⟨b, 5, none⟩ = some (.int .i64 ((m + s0 : Nat) : Int)) := (zAc HG3.out 5).trans rfl
      have hlb := zAj HG3.out
      have HP3 : zAa (PartAt (fun k => ok k ∧ k < w.heap.size) w3.drew o lz) := ⟨(HP.out.lt.step (w' := w3) (fun k hk _ => HB3.out.block k (by rw [← HS.out]; exact hk.2))).step (fun _ _ _ => rfl)⟩
      have hnn := HN.out
      have hnb := HNB.out
      go_still_tail 9, (by kernel_rfl)
      repeat still_step
      still_call (many_any _ o lz w3.drew HP3.out)
      repeat still_step
      refine wpStill_nil ?_
      change wpList _ _ _ _ _ w3.drew
      have HR4 := zAa.mk (Kd.zGd HR3.out)
      have HB4 : zAa (Below b w w3.drew) := ⟨zAg HB3.out⟩
      have HG4 : zAa (w3.drew.heap[b]? = _) := ⟨HG3.out⟩
      have HSF4 := zAa.mk (HSF3.out.step (w1 := w3.drew) (fun _ _ _ => rfl))
      have HSZ4 : zAa (b2 ≤ w3.drew.heap.size) := ⟨HSZ3.out⟩
      have c6 : w3.drew.cell? ⟨b, 5, none⟩ = some (.int .i64 ((m + s0 : Nat) : Int)) := c5
      have hlb4 : b < w3.drew.heap.size := hlb
      have ff6 := zAd HG4.out 5
      clear c5 hlb HR3 HB3 HG3 HSF3 HSZ3 HP3 HR2 HB2 HG2 HSF2 HSZ2 HM2 HSM
      generalize w3.drew = w4 at HR4 HB4 HG4 HSF4 HSZ4 c6 hlb4 ff6 ⊢
      go_wp2_with fail
      go_roundw
      case rel =>
       refine ⟨j + 1, A3, c3, by omega, by go_num, rfl, ⟨Kd.R_set HR4.out HG4.out (show ∀ q, q ∈ [47, 5] → q ≠ 150 by decide) 5 _⟩, ⟨HB4.out.setCell (Nat.le_refl _) _⟩, ⟨?_⟩, ⟨HSF4.out.set ⟨b, 5, none⟩ (fun h => h.1 rfl) _⟩, ⟨by simp [World.setCell]; exact HSZ4.out⟩⟩
       rw [HS1.out, zBh HG4.out 5 _]
       rw [show ((m + s1 : Nat) : Int) = (m : Int) + s0 + lz.length by omega]
       rfl
      case measure => simp [intOf]; omega
     ·obtain rfl : j = m + 1 := by omega
      have HR4 : zAa (Kd.R (Kd.mix 5 kB kB w) 47 wr b2 (fun _ => True) (.slice A2 (m + 1) c2) (zs.map fun z => hashT z.2)) := ⟨by have := HR.out; rwa [List.take_of_length_le (by rw [List.length_map, HKL.out]; exact Nat.le_refl _)] at this⟩
      have HTot : zAa (m + sumK zs (m + 1) = (partL js zs).length) := ⟨by rw [zDh HL.out, HM.out, HKL.out]⟩
      rw [HTot.out] at HG
      have HRK := zAa.mk (HK.out.keep (by rw [HS.out]; exact HB.out)).now
      clear HR
      obtain ⟨Ls, hLs⟩ : ∃ Ls, zs.map (fun z => hashT z.2) = Ls := ⟨_, rfl⟩
      rw [hLs] at HR4
      have hLsl : Ls.length = m + 1 := by rw [← hLs, List.length_map, HKL.out]
      have HR5 : zAa (Kd.C (Kd.slice 5 kB) wr A2 Ls.length Ls) := ⟨mixK (by rw [HS.out]; exact HB.out) (R_cap' HR4.out)⟩
      have HRS := zAa.mk HSF.out.now
      have HD := zAa.mk HRK.out.deep
      obtain ⟨Lk, hLk⟩ : ∃ Lk, (js.map (·.1)).map (·.2) = Lk := ⟨_, rfl⟩
      rw [hLk] at HD
      have hLkl : Lk.length = m := by rw [← hLk, List.length_map, List.length_map, HM.out]
      have hB1 : ∀ p ∈ Lk, p.length ≤ 300 := by
       intro p hp
       rw [← hLk, List.map_map] at hp
       obtain ⟨x, hx, rfl⟩ := List.mem_map.1 hp
       have := (HI.out.k _ ((mem_inter HL.out.len _).2 (.inl (List.mem_map_of_mem hx)))).1
       simp only [Jt.it] at this
       exact Nat.le_trans this (by decide)
      have hB2 : ∀ p ∈ L, p.length ≤ 100 := by
       intro p hp
       rw [← HLS.out] at hp
       obtain ⟨x, hx, rfl⟩ := List.mem_map.1 hp
       rw [digestM_len]; decide
      have hB3 : ∀ p ∈ Ls, p.length ≤ 100 := by
       intro p hp
       rw [← hLs] at hp
       obtain ⟨x, hx, rfl⟩ := List.mem_map.1 hp
       rw [hashT_len]; decide
      have hrd : ∀ (l : List (List Int)) (q : Nat), (∀ p ∈ l, p.length ≤ q) → ∀ i, (rd_L l i).length ≤ q := by
       intro l q h i
       unfold rd_L
       rw [List.getD_eq_getElem?_getD]
       cases hi : l[i]? with
       | none => simp
       | some p => exact h p (List.mem_of_getElem? hi)
      have h168 := form_any n Ak A A2 ck c c2 Lk L Ls wr (by omega) HD.out HRS.out HR5.out (by omega) (hrd _ _ hB1) (hrd _ _ hB2) (hrd _ _ hB3)
      have hfl := formTo_len (level := n) (hrd _ _ hB1) (hrd _ _ hB2) (hrd _ _ hB3) Lk.length
      have HT : zAa (hashT (partL js zs) = zEh (formM n Lk L Ls)) := ⟨by
       rw [partL, hashT_node HL.out (by rw [Ne, List.map_eq_nil_iff]; exact HJ.out), ← hLk, ← HLS.out, ← hLs]
       simp only [List.map_map]
       rfl⟩
      have HFL : zAa ((formM n Lk L Ls).length ≤ 200000) := ⟨by unfold formM; omega⟩
      rw [hLkl, hLl, hLsl] at h168
      have H168 := zAa.mk h168
      clear hB1 hB2 hB3 hrd hfl h168 hLk hLs HLS HD HRS HR5 hLkl hLsl
      go_wp2_with fail
      refine H168.out.mono ?_
      rintro e w5 ⟨v5, rfl, hr, hb⟩
      obtain ⟨f, hf⟩ : ∃ f, formM n Lk L Ls = f := ⟨_, rfl⟩
      rw [hf] at hr HT HFL
      have hfl : f.length ≤ 200000 := HFL.out
      have HR5 := zAa.mk hr
      have hbs : b ≤ wr.heap.size := by have := HS2.out; have := HBB.out; omega
      have HB5 : zAa (Below b w w5) := ⟨HB.out.trans (hb.mono hbs)⟩
      have HG5 := zAa.mk (zAf HG.out hb)
      clear hr hb hf H168 HR4 HB HG HSF HRK HFL hbs
      obtain ⟨A5, c5, e5⟩ := Kd.zAk HR5.out
      subst e5
      go_wp2_with fail
      refine (dsum_any A5 c5 f w5 (R_cap HR5.out).2 (by omega)).mono ?_
      rintro e w6 ⟨v6, rfl, hr, hb⟩
      rw [← HT.out] at hr
      have HT2 := zAa.mk (hashT_len (partL js zs))
      obtain ⟨A6, c6, e6⟩ := Kd.zAk hr
      subst e6
      have HR6 := zAa.mk hr
      have HBS : zAa (b < w5.heap.size) := ⟨zAj HG5.out⟩
      have HB6 : zAa (Below b w w6) := ⟨HB5.out.trans (hb.mono (Nat.le_of_lt HBS.out))⟩
      have HG6 := zAa.mk (zAf HG5.out hb)
      obtain ⟨hh, hhe⟩ : ∃ hh, hashT (partL js zs) = hh := ⟨_, rfl⟩
      have HHE := zAa.mk hhe
      rw [hhe] at HR6 HT2 ⊢
      clear hr hb HR5 HB5 HG5 hhe HT
      have c6' : w6.cell? ⟨b, 4, none⟩ = some (.slice none 0 0) := (zAc HG6.out 4).trans rfl
      have f6 := zAd HG6.out 4
      have l6 := zAj HG6.out
      go_wp2_with fail
      go_ret
      have hBW : Below w.heap.size w (w6.setCell ⟨b, 4, none⟩ (.slice A6 hh.length c6)) := by rw [HS.out]; exact HB6.out.setCell (Nat.le_refl _) _
      have hS := Same_.of_below (ok := ok) hBW
      refine ⟨some b, rfl, .node_ (n := n) ⟨HOK.out b (by rw [HS.out]; exact Nat.le_refl _), Ak, ck, Av, cv, Ac, cc, A6, c6, ?_, HK.out.step hS, HV.out.step hS, HC.out.step hS, ?_⟩ HL.out HJ.out (fun z hz => (HZ.out z hz).step hS), hBW⟩
      ·rw [zBh HG6.out 4 _, HM.out, List.length_map, HKL.out, HHE.out]
       rfl
      ·rw [HHE.out]
       exact ((BAt_FF HR6.out).set ⟨b, 4, none⟩ (fun h => by have := HBS.out; simp only at h; omega) _).mono (fun k hk => HOK.out k (by rw [HS.out]; have := HBS.out; omega))
end Go.Proofs.YtpckachmleonlaaGreatDoor
end
section
set_option linter.unusedVariables false
set_option linter.unusedSimpArgs false
namespace Go.Proofs.YtpckachmleonlaaGreatDoor
open Go.RowKit Go.Proofs.YtpckachmleonlaaGreatDoorW.PrintWords
theorem run_bytesOf_C {w : World} {A : Option Addr} {c : Nat} {l : List Int} (h : kB.C w A l.length l) : (Extern.Bytes.bytesOf (.slice A l.length c)).run Tryz.prog w = .ok ⟨(u8s l).toArray⟩ w := by
  cases A with
  | none =>
    have h0 : l = [] := by
      rcases Nat.eq_zero_or_pos l.length with h1 | h1
      · exact List.eq_nil_of_length_eq_zero h1
      · obtain ⟨ad, e, _⟩ := h.2.2 h1
        cases e
    subst h0
    rfl
  | some ad =>
    have hc : ∀ j x, l[j]? = some x → w.cell? (ad.add j) = some (.int .u8 x) := by
      intro j x hj
      have hlt : j < l.length := (List.getElem?_eq_some_iff.1 hj).1
      obtain ⟨ad2, e, _, hq⟩ := kB_at h j hlt
      injection e with e
      subst e
      rw [hq, List.getD_eq_getElem?_getD, hj]
      rfl
    have := Lib.run_loadBytesX (P := Tryz.prog) w l ad .empty hc
    simp only [Extern.Bytes.bytesOf]
    rw [this]
    congr 1
    apply ByteArray.ext
    simp [u8s, Lib.bytesOf]
theorem run_cmp146 {w : World} {A B : Option Addr} {c d : Nat} {x y : List Int} (hx : kB.C w A x.length x) (hy : kB.C w B y.length y) :
    (callFunc 146 #[.slice A x.length c, .slice B y.length d]).run Tryz.prog w = .ok (.value (.int .i64 (cmpI x y))) w := by
  rw [run_callFunc_extern Tryz.func146 (by kernel_rfl) (by kernel_rfl) (by kernel_rfl) (e := Extern.BytealgCompare.compare) (by kernel_rfl)]
  have e1 : (Extern.BytealgCompare.compare #[.slice A x.length c, .slice B y.length d]).run Tryz.prog w = .ok (.int .i64 (cmpI x y)) w := by
    change Sem.run Tryz.prog (do pure (goInt (Extern.BytealgCompare.cmp (← Extern.Bytes.bytesOf (.slice A x.length c)) (← Extern.Bytes.bytesOf (.slice B y.length d))))) w = _
    simp only [Sem.run_bind, run_bytesOf_C hx, run_bytesOf_C hy, Sem.run_pure, Result.andThen]
    rw [Lib.cmp_eq]
    rfl
  rw [e1]
  rfl
set_option maxHeartbeats 1000000 in
theorem compare_any (A B : Option Addr) (c d : Nat) (x y : List Int) (w : World) (hx : kB.C w A x.length x) (hy : kB.C w B y.length y) :
    Calls Tryz.prog 127 #[.slice A x.length c, .slice B y.length d] w fun e w' => e = .returned (.int .i64 (cmpI x y)) ∧ w' = w := by
  have hq := run_cmp146 (c := c) (d := d) hx hy
  clear hx hy
  go_enter Tryz.func127, Tryz.ntmps127
  go_wp2
  go_ret
  exact ⟨rfl, rfl⟩
structure BsAt (ks : List (List Int)) (key : List Int) (i j : Nat) : Prop where
  ij : i ≤ j
  jn : j ≤ ks.length
  lo : ∀ m, m < i → cmpI (rd_L ks m) key < 0
  hi : ∀ m, j ≤ m → m < ks.length → 0 ≤ cmpI (rd_L ks m) key
def KSorted (ks : List (List Int)) : Prop := ks.Pairwise ltI
theorem rd_lt {ks : List (List Int)} (h : KSorted ks) {i j : Nat} (hij : i < j) (hj : j < ks.length) : ltI (rd_L ks i) (rd_L ks j) := by
  have := List.pairwise_iff_getElem.1 h i j (by omega) hj hij
  simpa [rd_L, List.getD_eq_getElem?_getD, hj, (by omega : i < ks.length)] using this
theorem cmpI_le {a b c : List Int} (h : ltI a b) (k : cmpI b c < 0) : cmpI a c < 0 := ltI_trans h k
theorem cmpI_ge {a b c : List Int} (h : ltI a b) (k : 0 ≤ cmpI a c) : 0 ≤ cmpI b c := by
  rcases Int.lt_or_le (cmpI b c) 0 with h1 | h1
  · have := ltI_trans h h1
    unfold ltI at this
    omega
  · exact h1
theorem BsAt.up {ks : List (List Int)} {key : List Int} {i j h : Nat} (H : BsAt ks key i j) (hs : KSorted ks) (h1 : i ≤ h) (h2 : h < j) (hc : cmpI (rd_L ks h) key < 0) : BsAt ks key (h + 1) j :=
  ⟨by omega, H.jn, fun m hm => by
    rcases Nat.lt_or_ge m h with h3 | h3
    · exact cmpI_le (rd_lt hs h3 (by have := H.jn; omega)) hc
    · obtain rfl : m = h := by omega
      exact hc, H.hi⟩
theorem BsAt.down {ks : List (List Int)} {key : List Int} {i j h : Nat} (H : BsAt ks key i j) (hs : KSorted ks) (h1 : i ≤ h) (h2 : h < j) (hc : 0 ≤ cmpI (rd_L ks h) key) : BsAt ks key i h :=
  ⟨by omega, by have := H.jn; omega, H.lo, fun m hm hl => by
    rcases Nat.lt_or_ge h m with h3 | h3
    · exact cmpI_ge (rd_lt hs h3 hl) hc
    · obtain rfl : m = h := by omega
      exact hc⟩
set_option maxHeartbeats 2000000 in
set_option maxRecDepth 100000 in
theorem bsearch_any (A B : Option Addr) (c d : Nat) (ks : List (List Int)) (key : List Int) (w : World) (hr : Kd.C (Kd.slice 5 kB) w A ks.length ks) (hl : ks.length ≤ 1000) (hk : kB.C w B key.length key) (hs : KSorted ks) :
    Calls Tryz.prog 169 #[.slice A ks.length c, .slice B key.length d, .func (.func 127) #[] #[]] w fun e w' => w' = w ∧ ∃ i : Nat, BsAt ks key i i ∧ e = .returned (.tuple #[.int .i64 i, .bool (decide (i < ks.length) && (cmpI (rd_L ks i) key == 0))]) := by
  have HR := zAa.mk hr
  have HK := zAa.mk hk
  have HS := zAa.mk hs
  obtain ⟨n, hn⟩ : ∃ n, ks.length = n := ⟨_, rfl⟩
  have HN := zAa.mk hn
  rw [hn] at hl HR ⊢
  clear hr hk hs hn
  go_enter Tryz.func169, Tryz.ntmps169
  go_wp2_with fail
  go_loop [9, 10, 11] (fun vi vj vh => ∃ i j : Nat, i ≤ j ∧ j ≤ n ∧ vi = .int .i64 i ∧ vj = .int .i64 j ∧ zAa (BsAt ks key i j)) (fun vi vj _ => (intOf vj).toNat - (intOf vi).toNat)
  case atStart => exact ⟨0, n, by omega, by omega, rfl, rfl, ⟨by omega, by rw [HN.out]; exact Nat.le_refl _, fun m hm => by omega, fun m h1 h2 => by rw [HN.out] at h2; omega⟩⟩
  case round =>
    obtain ⟨i, j, hij, hj, rfl, rfl, HA⟩ := hrel
    by_cases hlt : i < j
    · have hi0 : (0:Int) ≤ (i:Int) + j := by omega
      have hi1 : (i:Int) + j ≤ 2000 := by omega
      obtain ⟨h, hh, h1, h2⟩ : ∃ h : Nat, ((i:Int) + j) / 2 = h ∧ i ≤ h ∧ h < j := ⟨(i + j) / 2, by omega, by omega, by omega⟩
      have h3 : (h : Int) < n := by omega
      obtain ⟨ad, A0, c0, rfl, hbl, k1, k2, k3⟩ := rowAt HR.out h (by omega)
      have HC := zAa.mk (compare_any A0 B c0 d (rd_L ks h) key w k3 HK.out)
      clear k3
      by_cases hcm : cmpI (rd_L ks h) key < 0
      · have HX := zAa.mk (HA.out.up HS.out h1 h2 hcm)
        have hd : decide (cmpI (rd_L ks h) key < 0) = true := dt hcm
        obtain ⟨r, hr⟩ : ∃ r, cmpI (rd_L ks h) key = r := ⟨_, rfl⟩
        rw [hr] at HC hd hcm
        clear hr
        go_wp2_with (go_at_call 127; refine HC.out.mono ?_; rintro e w1 ⟨rfl, rfl⟩)
        go_round
        case rel => exact ⟨h + 1, j, by omega, by omega, by go_num, rfl, HX⟩
        case measure => simp [intOf]; omega
      · have HX := zAa.mk (HA.out.down HS.out h1 h2 (by omega))
        have hd : decide (cmpI (rd_L ks h) key < 0) = false := df hcm
        obtain ⟨r, hr⟩ : ∃ r, cmpI (rd_L ks h) key = r := ⟨_, rfl⟩
        rw [hr] at HC hd hcm
        clear hr
        go_wp2_with (go_at_call 127; refine HC.out.mono ?_; rintro e w1 ⟨rfl, rfl⟩)
        go_round
        case rel => exact ⟨i, h, by omega, by omega, rfl, rfl, HX⟩
        case measure => simp [intOf]; omega
    · obtain rfl : i = j := by omega
      by_cases hil : i < n
      · have h3 : (i : Int) < n := by omega
        obtain ⟨ad, A0, c0, rfl, hbl, k1, k2, k3⟩ := rowAt HR.out i (by omega)
        have HC := zAa.mk (compare_any A0 B c0 d (rd_L ks i) key w k3 HK.out)
        clear k3
        go_wp2_with (go_at_call 127; refine HC.out.mono ?_; rintro e w1 ⟨rfl, rfl⟩)
        go_ret2
        exact ⟨rfl, i, HA.out, by simp [hil]⟩
      · go_wp2_with fail
        go_ret2
        exact ⟨rfl, i, HA.out, by simp [hil]⟩
end Go.Proofs.YtpckachmleonlaaGreatDoor
end
