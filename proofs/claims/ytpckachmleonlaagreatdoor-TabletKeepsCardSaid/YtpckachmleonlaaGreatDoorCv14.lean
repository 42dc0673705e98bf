/- Words and walks for Split and Tablet: texts of these sessions, and of the kit's print, cut down to what is used (V W2). -/
import Derived.Test.YtpckachmleonlaaGreatDoorCv13
section
set_option linter.unusedVariables false
set_option linter.unusedSimpArgs false
namespace Go.Proofs.YtpckachmleonlaaGreatDoor
open Go.RowKit Go.Proofs.YtpckachmleonlaaGreatDoorW.PrintWords
theorem rowsN {α : Type} {d : Kd α} {e t g : Nat} {w : World} {vs : List (Option Addr × Nat)} {xss : List (List α)} {fz : Nat × Nat} {C : Array Value} (h : w.heap[g]? = some (.cells C t fz)) (hC : C.toList = (vs.zip xss).map fun y => .slice y.1.1 y.2.length y.1.2) (hl : vs.length = xss.length) (hn : xss.length ≤ 1000)
  (hx : ∀ y ∈ vs.zip xss, y.2.length ≤ y.1.2 ∧ d.C w y.1.1 y.2.length y.2) : Kd.C (Kd.slice e d) w (some ⟨g, 0, none⟩) xss.length xss := by
 refine ⟨rfl, by omega, fun _ => ⟨_, rfl, fun j p hj => ?_⟩⟩
 have hlt : j < xss.length := (List.getElem?_eq_some_iff.1 hj).1
 have hz : (vs.zip xss)[j]? = some (vs[j]'(by omega), p) := by
  rw [List.getElem?_zip_eq_some]
  exact ⟨List.getElem?_eq_getElem _, hj⟩
 obtain ⟨h1, h2⟩ := hx _ (List.mem_of_getElem? hz)
 refine ⟨[.slice (vs[j]'(by omega)).1 p.length (vs[j]'(by omega)).2], rfl, ⟨_, _, rfl, h1, h2⟩, fun i u hu => ?_⟩
 have hi0 : i = 0 := by
  have := (List.getElem?_eq_some_iff.1 hu).1
  simp at this
  omega
 subst hi0
 rw [Addr.add_mid, cell_of_row w g _ _ t fz h, ← Array.getElem?_toList, hC, List.getElem?_map]
 simp only [Kd.slice, Nat.mul_one, Nat.add_zero, Nat.zero_add]
 rw [hz]
 simpa using hu
theorem hN1 (W : World) (o : Obj) : (W.alloc o).heap[W.heap.size]? = some o := heap_alloc_new W o
theorem hN2 (W : World) {C : Array Value} {t : Nat} (o2 : Obj) : ((W.alloc (.cells C t)).alloc o2).heap[W.heap.size]? = some (.cells C t (0, 0)) := zAi (heap_alloc_new W _) _
theorem hN3 (W : World) (o1 o2 : Obj) : ((W.alloc o1).alloc o2).heap[W.heap.size + 1]? = some o2 := by
 have h := heap_alloc_new (W.alloc o1) o2
 rwa [World.size_alloc] at h
theorem blk_b {w W : World} {g t : Nat} {C : Array Value} (hb : Below w.heap.size w W) (h : w.heap[g]? = some (.cells C t (0, 0))) : W.heap[g]? = some (.cells C t (0, 0)) := zAf h hb
theorem keepK {w W : World} {g h : Nat} {C D : Array Value} {a b : Addr} {c3 d3 ca cb : Value} (h1 : w.heap[g]? = some (.cells C 150 (0, 0))) (h2 : w.heap[h]? = some (.cells D 150 (0, 0))) (hb : Below w.heap.size w W) (e3 : C[3]? = some c3) (f3 : D[3]? = some d3) (ea : w.cell? a = some ca) (eb : w.cell? b = some cb) :
  W.cell? ⟨g, 3, none⟩ = some c3 ∧ W.cell? ⟨h, 3, none⟩ = some d3 ∧ W.cell? a = some ca ∧ W.cell? b = some cb :=
 ⟨(zAc (zAf h1 hb) 3).trans e3, (zAc (zAf h2 hb) 3).trans f3, pw_cell_below hb ea, pw_cell_below hb eb⟩
theorem keepL {w W : World} {g h : Nat} {C D : Array Value} {c0 c1 c2 d1 d2 : Value} (h1 : w.heap[g]? = some (.cells C 150 (0, 0))) (h2 : w.heap[h]? = some (.cells D 150 (0, 0))) (hb : Below w.heap.size w W) (e0 : C[0]? = some c0) (e1 : C[1]? = some c1) (e2 : C[2]? = some c2) (f1 : D[1]? = some d1) (f2 : D[2]? = some d2) :
  W.cell? ⟨g, 0, none⟩ = some c0 ∧ W.cell? ⟨g, 1, none⟩ = some c1 ∧ W.cell? ⟨g, 2, none⟩ = some c2 ∧ W.cell? ⟨h, 1, none⟩ = some d1 ∧ W.cell? ⟨h, 2, none⟩ = some d2 :=
 ⟨(zAc (zAf h1 hb) 0).trans e0, (zAc (zAf h1 hb) 1).trans e1, (zAc (zAf h1 hb) 2).trans e2, (zAc (zAf h2 hb) 1).trans f1, (zAc (zAf h2 hb) 2).trans f2⟩
theorem RAt_FF {w : World} {base : Nat} {ok ok' : Nat → Prop} {A : Option Addr} {n c : Nat} {ys : List (Hd × List Int)} (h : Kd.R kS 47 w base ok' (.slice A n c) (ys.map (·.1))) (hb : ∀ y ∈ ys, FF (fun W => BAt W y.1 y.2) ok w) (hok : ∀ k, base ≤ k → ok k) : FF (fun W => RAt W A c ys) ok w := fun W hW => by
 obtain ⟨h1, h2, h3⟩ := (R_FF h) W (fun k hk hl => hW k (hok k hk) hl)
 rw [List.length_map] at h2
 subst h2
 exact ⟨h1, h3, fun y hy => hb y hy W hW⟩
set_option maxHeartbeats 16000000 in
set_option maxRecDepth 100000 in
theorem join_eq (N : Nat) (IH : JoinC N) (ok : Nat → Prop) (g1 n : Nat) (js : List Jt) (A : List Kid) (z : Kid) (g2 : Nat) (js2 : List Jt) (y : Kid) (C : List Kid) (w : World) (hN : (partL js (A ++ [z])).length + (partL js2 (y :: C)).length < N + 1) (hok : ∀ k, w.heap.size ≤ k → ok k)
  (h1 : zEa ok w g1 n js ((A ++ [z]).map (·.1)) (hashT (partL js (A ++ [z]))) (partL js (A ++ [z])).length) (L1 : LvOk n ((A ++ [z]).map (·.2)) (js.map Jt.it)) (J1 : js ≠ []) (z1 : ∀ y ∈ A ++ [z], PartAt ok w y.1 y.2)
  (h2 : zEa ok w g2 n js2 ((y :: C).map (·.1)) (hashT (partL js2 (y :: C))) (partL js2 (y :: C)).length) (L2 : LvOk n ((y :: C).map (·.2)) (js2.map Jt.it)) (J2 : js2 ≠ []) (z2 : ∀ x ∈ y :: C, PartAt ok w x.1 x.2)
  (hi : ItOk (partL js (A ++ [z]) ++ partL js2 (y :: C))) :
  Calls Tryz.prog 166 #[.pointer (some ⟨g1, 0, none⟩), .pointer (some ⟨g2, 0, none⟩)] w (JoinPost ok (partL js (A ++ [z]) ++ partL js2 (y :: C)) w) := by
 have hJL := fun o => join_same (o := o) L1 L2
 obtain ⟨adk, ck, adv, cv, adc, cc, As, cs, a1, a2, a3, a4, a5, a6, a7, a8⟩ := h1.data J1 (by have := L1.len; simpa using this)
 obtain ⟨bdk, dk, bdv, dv, bdc, dc, Bs, ds, b1, b2, b3, b4, b5, b6, b7, b8⟩ := h2.data J2 (by have := L2.len; simpa using this)
 have hA : A.length = js.length := by have := L1.len; simpa using this
 have hC : C.length = js2.length := by have := L2.len; simpa using this
 have hzl : z.2.length < (partL js (A ++ [z])).length := zGe L1 J1 z (by simp)
 have hyl : y.2.length < (partL js2 (y :: C)).length := zGe L2 J2 y (by simp)
 have hzc : (((A ++ [z]).map (·.1)).getD js.length none) = z.1 := by rw [List.map_append, List.getD_eq_getElem?_getD, List.getElem?_append_right (by rw [List.length_map, hA]; exact Nat.le_refl _), List.length_map, hA, Nat.sub_self]; rfl
 have hj100 : js.length + js2.length ≤ 100 := by have h7 := zDh L1; have h8 := zDh L2; have h9 := hi.n; rw [List.length_append] at h9; omega
 obtain ⟨m, hm⟩ : ∃ m, js.length = m := ⟨_, rfl⟩
 obtain ⟨q, hq⟩ : ∃ q, js2.length = q := ⟨_, rfl⟩
 obtain ⟨pz, hpz⟩ := zBc z.1
 obtain ⟨py, hpy⟩ := zBc y.1
 rw [hm] at a1 a5 a6 a7 a8 hA hzc hj100
 rw [hq] at b1 b5 b6 b7 b8 hC hj100
 have hcz : w.cell? (adc.add m) = some (.pointer pz) := by rw [← hpz]; exact cell_of_C a4.now.row (by rw [List.length_map, List.length_append, List.length_singleton, hA]; omega) hzc
 have hcy : w.cell? bdc = some (.pointer py) := by rw [← hpy]; exact cell_of_C0 b4.now.row (by simp) rfl
 have H1 := zAa.mk a1
 have H2 := zAa.mk a2
 have H3 := zAa.mk a3
 have H4 := zAa.mk a4
 have G1 := zAa.mk b1
 have G2 := zAa.mk b2
 have G3 := zAa.mk b3
 have G4 := zAa.mk b4
 have HA := zAa.mk hA
 have HC := zAa.mk hC
 have HM := zAa.mk hm
 have HQ := zAa.mk hq
 have HZ := zAa.mk z1
 have HY := zAa.mk z2
 have HI := zAa.mk hi
 have HJL := zAa.mk hJL
 have HN := zAa.mk hN
 have HZL := zAa.mk (And.intro hzl hyl)
 have HOK := zAa.mk hok
 have HPZ := zAa.mk (And.intro hpz hpy)
 have HL1 := zAa.mk L1
 have HL2 := zAa.mk L2
 have hg1 := zAj a1
 have hg2 := zAj b1
 obtain ⟨Xc, hXc⟩ : ∃ X, (if dc = 1 then some bdc else some (⟨bdc.block, bdc.off + 1, none⟩ : Addr)) = X := ⟨_, rfl⟩
 have HTL : zAa (∀ X, Below w.heap.size w X → Kd.C kP X Xc q (List.map (fun x : Kid => x.1) C)) := ⟨fun X hX => by
  have h4 := (G4.out.keep hX).now
  have ht := (h4.drop (i := 1) (by rw [List.length_map, List.length_cons]; omega))
  have he : ((y :: C).map (·.1)).drop 1 = C.map (·.1) := rfl
  rw [he] at ht
  have := ht.row
  rw [List.length_map, HC.out, Option.map_some, add_succ bdc 0, hXc] at this
  exact this⟩
 have HCL : zAa (∀ X, Below w.heap.size w X → Kd.C kP X (some adc) m (List.map (fun x : Kid => x.1) A)) := ⟨fun X hX => by
  have h4 := (H4.out.keep hX).now
  have ht := (h4.take (i := m) (c' := cc) (by rw [List.length_map, List.length_append, HA.out, List.length_singleton]; omega) (by omega))
  have he : ((A ++ [z]).map (·.1)).take m = A.map (·.1) := by rw [List.map_append, List.take_left' (by rw [List.length_map, HA.out])]
  rw [he] at ht
  have := ht.row
  rw [List.length_map, HA.out] at this
  exact this⟩
 have HRE : zAa (∀ X, Below w.heap.size w X → Calls Tryz.prog 166 #[.pointer pz, .pointer py] X (JoinPost ok (z.2 ++ y.2) X)) := ⟨fun X hX => by
  have := IH ok z.1 y.1 z.2 y.2 X (by have := HZL.out; have := HN.out; omega) (fun k hk => HOK.out k (Nat.le_trans hX.size hk)) ((HZ.out z (by simp)).keep hX) ((HY.out y (by simp)).keep hX) (HI.out.sub (by have := HZL.out; simp only [List.length_append]; omega) (fun x hx => by
   rcases List.mem_append.1 hx with hx | hx
   ·exact List.mem_append_left _ ((zDa HL1.out x).2 (.inr ⟨z, by simp, hx⟩))
   ·exact List.mem_append_right _ ((zDa HL2.out x).2 (.inr ⟨y, by simp, hx⟩))))
  rw [HPZ.out.1, HPZ.out.2] at this
  exact this⟩
 have HKA : zAa (∀ X β o p, Below w.heap.size w X → ptrV o = .pointer p → X.heap[β + 1]? = some (.cells #[.slice (some adc) m cc, .slice (some ⟨β, 0, none⟩) 1 1, .slice Xc q (dc - 1)] 148 (0, 0)) → X.heap[β]? = some (.cells #[.pointer p] 110 (0, 0)) → Calls Tryz.prog 161 #[.slice (some ⟨β + 1, 0, none⟩) 3 3] X fun e w' => ∃ v, e = .returned v ∧ Kd.R kP 110 w' X.heap.size (fun _ => True) v (List.map (fun x : Kid => x.1) A ++ o :: List.map (fun x : Kid => x.1) C) ∧ Below X.heap.size X w') := ⟨fun X β o p hX hp h3 h4 => by
  have hAl : (List.map (fun x : Kid => x.1) A).length = m := by rw [List.length_map, HA.out]
  have hCl : (List.map (fun x : Kid => x.1) C).length = q := by rw [List.length_map, HC.out]
  have hr := rowsN (d := kP) (e := 110) (vs := [(some adc, cc), (some ⟨β, 0, none⟩, 1), (Xc, dc - 1)]) (xss := [List.map (fun x : Kid => x.1) A, [o], List.map (fun x : Kid => x.1) C]) h3 (by simp [HA.out, HC.out]) rfl (by simp) (fun u hu => by
   simp only [List.zip_cons_cons, List.zip_nil_right, List.mem_cons, List.not_mem_nil, or_false] at hu
   rcases hu with rfl | rfl | rfl
   ·refine ⟨by simp only [hAl]; omega, ?_⟩
    simp only [hAl]
    exact HCL.out X hX
   ·exact ⟨Nat.le_refl _, C_p1 h4 hp⟩
   ·refine ⟨by simp only [hCl]; omega, ?_⟩
    simp only [hCl]
    exact HTL.out X hX)
  have := concatP_any (some ⟨β + 1, 0, none⟩) 3 _ X hr (by simp) (by simp [HA.out, HC.out]; omega)
  simpa using this⟩
 have hKX : ∀ (P : Jt → Hd × List Int) (a b : Addr) (ka kb : Nat), FF (fun W => RAt W (some a) ka (js.map P)) ok w → FF (fun W => RAt W (some b) kb (js2.map P)) ok w → ∀ X β, Below w.heap.size w X → X.heap[β]? = some (.cells #[.slice (some a) m ka, .slice (some b) q kb] 104 (0, 0)) → Calls Tryz.prog 174 #[.slice (some ⟨β, 0, none⟩) 2 2] X fun e w' => ∃ A c, e = .returned (.slice A (m + q) c) ∧ FF (fun W => RAt W A c ((js ++ js2).map P)) ok w' ∧ Below X.heap.size X w' := fun P a b ka kb hKa hKb X β hX h3 => by
  have r1 := (hKa.keep hX).now
  have r2 := (hKb.keep hX).now
  have l1 : ((js.map P).map (·.1)).length = m := by rw [List.length_map, List.length_map, HM.out]
  have l2 : ((js2.map P).map (·.1)).length = q := by rw [List.length_map, List.length_map, HQ.out]
  have hr := rowsN (d := kS) (e := 47) (vs := [(some a, ka), (some b, kb)]) (xss := [(js.map P).map (·.1), (js2.map P).map (·.1)]) h3 (by simp [HM.out, HQ.out]) rfl (by simp) (fun u hu => by
   simp only [List.zip_cons_cons, List.zip_nil_right, List.mem_cons, List.not_mem_nil, or_false] at hu
   rcases hu with rfl | rfl
   ·refine ⟨?_, ?_⟩
    ·have := r1.c
     simpa using this
    ·have := r1.row
     simpa using this
   ·refine ⟨?_, ?_⟩
    ·have := r2.c
     simpa using this
    ·have := r2.row
     simpa using this)
  have hq := concatS_any (some ⟨β, 0, none⟩) 2 _ X hr (by simp) (by simp [HM.out, HQ.out]; omega)
  refine hq.mono ?_
  rintro e w' ⟨v, rfl, hr1, hb1⟩
  obtain ⟨A', c', e1⟩ := Kd.zAk hr1
  have e2 : ([(js.map P).map (·.1), (js2.map P).map (·.1)] : List (List Hd)).flatten = ((js ++ js2).map P).map (·.1) := by simp
  rw [e2] at hr1 e1
  rw [List.length_map, List.length_map, List.length_append, HM.out, HQ.out] at e1
  subst e1
  refine ⟨A', c', rfl, RAt_FF hr1 (fun u hu => ?_) (fun k hk => HOK.out k (Nat.le_trans hX.size hk)), hb1⟩
  have hX' : Below w.heap.size w w' := hX.trans (hb1.mono hX.size)
  rw [List.map_append] at hu
  rcases List.mem_append.1 hu with hu | hu
  ·exact (hKa.keep hX').imp (fun W h => h.b u hu)
  ·exact (hKb.keep hX').imp (fun W h => h.b u hu)
 have HKK := zAa.mk (hKX (·.1) adk bdk ck dk H2.out G2.out)
 have HKV := zAa.mk (hKX (·.2) adv bdv cv dv H3.out G3.out)
 have HNO : zAa (∀ W o A1 c1 A2 c2, Below w.heap.size w W → PartAt ok W o (z.2 ++ y.2) → FF (fun W => RAt W A1 c1 ((js ++ js2).map (·.1))) ok W → FF (fun W => RAt W A2 c2 ((js ++ js2).map (·.2))) ok W → NodeC ok n A1 A2 c1 c2 (m + q) (m + q + 1) (List.map (fun x : Kid => x.1) A ++ o :: List.map (fun x : Kid => x.1) C) (partL js (A ++ [z]) ++ partL js2 (y :: C)) W) := ⟨fun W o A1 c1 A2 c2 hW ho hk hv => by
  have := node_c (w := W) (m := m + q) (q := m + q + 1) (fun k hk => HOK.out k (Nat.le_trans hW.size hk)) hk hv (zs := A ++ (o, z.2 ++ y.2) :: C) (fun u hu => by
   rcases List.mem_append.1 hu with hu | hu
   ·exact (HZ.out u (List.mem_append_left _ hu)).keep hW
   ·rcases List.mem_cons.1 hu with hu | hu
    ·rw [hu]
     exact ho
    ·exact (HY.out u (List.mem_cons_of_mem _ hu)).keep hW) (HJL.out o).2 (by rw [(HJL.out o).1]; exact HI.out) (by rw [List.length_append, HM.out, HQ.out]) (by rw [List.length_append, List.length_cons, HA.out, HC.out]; omega)
  rw [(HJL.out o).1, List.map_append, List.map_cons] at this
  exact this⟩
 have t1 : decide ((n : Int) < (n : Int)) = false := df (by omega)
 have k1 : (1 : Int) ≤ (dc : Int) := by omega
 have k2 : (1 : Int) ≤ (q : Int) + 1 := by omega
 have k3 : (0 : Int) < (q : Int) + 1 := by omega
 have k4 : (q : Int) + 1 ≤ (dc : Int) := by omega
 have k5 : q + 1 - 1 = q := by omega
 have k6 : (m : Int) ≤ (cc : Int) := by omega
 have k7 : (m : Int) ≤ (m : Int) + 1 := by omega
 have k8 : (m : Int) < (m : Int) + 1 := by omega
 have k9 : (0 : Int) ≤ (m : Int) := by omega
 clear hKX a1 a2 a3 a4 b1 b2 b3 b4 hi hN hok hpz hpy L1 L2 z1 z2 h1 h2 hJL hA hC hm hq hzl hyl hzc J1 J2 IH
 go_enter Tryz.func166, Tryz.ntmps166
 go_upto_region 5 with fail
 go_region_held3 (fun w' => w'.cell? ⟨g1, 0, none⟩ = some (.int .i64 n) ∧ w'.cell? ⟨g2, 0, none⟩ = some (.int .i64 n))
  (first | exact ⟨(zAc (zAf H1.out (zAg (Below.refl _ _))) 0).trans rfl, (zAc (zAf G1.out (zAg (Below.refl _ _))) 0).trans rfl⟩)
  (first | fail)
 go_upto_region 8 with fail
 go_region_held3 (fun w' => w'.cell? ⟨g1, 0, none⟩ = some (.int .i64 n) ∧ w'.cell? ⟨g2, 0, none⟩ = some (.int .i64 n))
  (first | exact ⟨(zAc (zAf H1.out (zAg (zAg (Below.refl _ _)))) 0).trans rfl, (zAc (zAf G1.out (zAg (zAg (Below.refl _ _)))) 0).trans rfl⟩)
  (first | fail)
 have HBx : zAa (Below w.heap.size w w.drew.drew) := ⟨zAg (zAg (Below.refl _ _))⟩
 have HX1 := zAa.mk (zAf H1.out HBx.out)
 have d3 : w.drew.drew.cell? ⟨g1, 3, none⟩ = some (.slice (some adc) (m + 1) cc) := (zAc HX1.out 3).trans rfl
 have hg1' : g1 < w.drew.drew.heap.size := hg1
 have hg2' : g2 < w.drew.drew.heap.size := hg2
 obtain ⟨wd, hwd⟩ : ∃ wd, w.drew.drew = wd := ⟨_, rfl⟩
 have HSZ : zAa (wd.heap.size = w.heap.size) := ⟨by rw [← hwd]; rfl⟩
 rw [hwd] at HBx HX1 d3 hg1' hg2' ⊢
 clear hwd HX1
 go_upto_region 11 with fail
 go_region_held3 (fun w' => w'.cell? ⟨g1, 3, none⟩ = some (.slice (some adc) (m + 1) cc) ∧ w'.cell? ⟨g2, 3, none⟩ = some (.slice (some bdc) (q + 1) dc) ∧ w'.cell? (adc.add m) = some (.pointer pz) ∧ w'.cell? bdc = some (.pointer py))
  (first | exact keepK H1.out G1.out (by repeat (first | exact Below.refl _ _ | exact HBx.out | exact HB4.out | exact HB6.out | exact HB7.out | exact HB8.out | exact HB9.out | exact HBa.out | refine zAg ?_ | refine zAb ?_ _)) rfl rfl hcz hcy)
  (first
   | (go_at_call 166; refine (HRE.out _ (by repeat (first | exact Below.refl _ _ | exact HBx.out | exact HB4.out | exact HB6.out | exact HB7.out | exact HB8.out | exact HB9.out | exact HBa.out | refine zAg ?_ | refine zAb ?_ _))).mono ?_; rintro e W4 ⟨o4, he, hp, hb⟩; obtain ⟨p4, hp4⟩ := zBc o4; rw [hp4] at he; subst he; have HP4' := zAa.mk hp4; have HP4 := zAa.mk hp; have HB4' := zAa.mk (bl_to (w2 := wd) (by repeat (first | exact Below.refl _ _ | refine zAg ?_ | refine zAb ?_ _)) hb); have HB4 := zAa.mk (bl_to HBx.out HB4'.out); clear hp hb hp4)
   | (go_at_call 161; refine (HKA.out _ W4.heap.size o4 p4 (by repeat (first | exact Below.refl _ _ | exact HBx.out | exact HB4.out | exact HB6.out | exact HB7.out | exact HB8.out | exact HB9.out | exact HBa.out | refine zAg ?_ | refine zAb ?_ _)) HP4'.out (hN3 W4 _ _) (hN2 W4 _)).mono ?_; rintro e W7 ⟨v7, rfl, hr, hb⟩; have HR7 := zAa.mk (rl_to (w2 := W4) (by repeat (first | exact Below.refl _ _ | refine zAg ?_ | refine zAb ?_ _)) hr); have HB7' := zAa.mk (bl_to (w2 := W4) (by repeat (first | exact Below.refl _ _ | refine zAg ?_ | refine zAb ?_ _)) hb); have HB7 := zAa.mk (bl_to HB4.out HB7'.out); clear hr hb; obtain ⟨A7, c7, e7⟩ := Kd.zAk HR7.out; rw [List.length_append, List.length_cons, List.length_map, List.length_map, HA.out, HC.out, ← Nat.add_assoc] at e7; subst e7))
 have HP7 := zAa.mk (HP4.out.keep HB7'.out)
 have HF7 := zAa.mk ((PAt_FF HR7.out).mono (fun k hk => HOK.out k (Nat.le_trans HB4.out.size hk)))
 clear HR7 HRE HKA HTL HCL HB4' d3
 go_upto_region 12 with fail
 go_region_held3 (fun w' => w'.cell? ⟨g1, 0, none⟩ = some (.int .i64 n) ∧ w'.cell? ⟨g1, 1, none⟩ = some (.slice (some adk) m ck) ∧ w'.cell? ⟨g1, 2, none⟩ = some (.slice (some adv) m cv) ∧ w'.cell? ⟨g2, 1, none⟩ = some (.slice (some bdk) q dk) ∧ w'.cell? ⟨g2, 2, none⟩ = some (.slice (some bdv) q dv))
  (first | exact keepL H1.out G1.out (by repeat (first | exact Below.refl _ _ | exact HBx.out | exact HB4.out | exact HB6.out | exact HB7.out | exact HB8.out | exact HB9.out | exact HBa.out | refine zAg ?_ | refine zAb ?_ _)) rfl rfl rfl rfl rfl)
  (first
   | (go_at_call 174; refine (HKK.out _ _ (by repeat (first | exact Below.refl _ _ | exact HBx.out | exact HB4.out | exact HB6.out | exact HB7.out | exact HB8.out | exact HB9.out | exact HBa.out | refine zAg ?_ | refine zAb ?_ _)) (by first | exact hN1 W7 _ | exact hN2 W7 _ | exact hN3 W7 _ _)).mono ?_; rintro e W8 ⟨A8, c8, rfl, hf, hb⟩; have HF8 := zAa.mk hf; have HS8 := zAa.mk hb; have HB8' := zAa.mk (bl_to (w2 := W7) (by repeat (first | exact Below.refl _ _ | refine zAg ?_ | refine zAb ?_ _)) hb); have HB8 := zAa.mk (bl_to HB7.out HB8'.out); clear hf hb)
   | (go_at_call 174; refine (HKV.out _ _ (by repeat (first | exact Below.refl _ _ | exact HBx.out | exact HB4.out | exact HB6.out | exact HB7.out | exact HB8.out | exact HB9.out | exact HBa.out | refine zAg ?_ | refine zAb ?_ _)) (by first | exact hN1 W8 _ | exact blk_b HS8.out (hN2 W7 _) | exact blk_b HS8.out (hN3 W7 _ _))).mono ?_; rintro e W9 ⟨A9, c9, rfl, hf, hb⟩; have HF9 := zAa.mk hf; have HS9 := zAa.mk (bl_to (w2 := W8) (by repeat (first | exact Below.refl _ _ | refine zAg ?_ | refine zAb ?_ _)) hb); have HB9' := zAa.mk (bl_to HB8'.out HS9.out); have HB9 := zAa.mk (bl_to HB7.out HB9'.out); clear hf hb)
   | (go_at_call 158; refine (HNO.out _ o4 A8 c8 A9 c9 HB9.out (HP7.out.keep HB9'.out) (HF8.out.keep HS9.out) HF9.out _ _ (HF7.out.keep HB9'.out)).mono ?_; rintro e Wa ⟨oa, he, hp, hb⟩; obtain ⟨pa, hpa⟩ := zBc oa; rw [hpa] at he; subst he; have HPa' := zAa.mk hpa; have HPa := zAa.mk hp; have HBa := zAa.mk (bl_to HB9.out hb); clear hp hb hpa))
 all_goals
  go_wp2_with fail
  go_ret
  exact ⟨oa, by rw [HPa'.out]; rfl, HPa.out, HBa.out⟩
end Go.Proofs.YtpckachmleonlaaGreatDoor
end
section
set_option linter.unusedVariables false
set_option linter.unusedSimpArgs false
namespace Go.Proofs.YtpckachmleonlaaGreatDoor
open Go.RowKit Go.Proofs.YtpckachmleonlaaGreatDoorW.PrintWords
set_option maxHeartbeats 2000000 in
set_option maxRecDepth 100000 in
theorem join_any : ∀ N, JoinC N
  | 0 => fun _ _ _ _ _ _ h => absurd h (Nat.not_lt_zero _)
  | N + 1 => fun ok a b la lb w hN hok ha hb hi => by
    have IH := join_any N
    rcases ha.inv with ⟨rfl, rfl⟩ | ⟨g1, n1, js, zs, rfl, rfl, h1, L1, J1, z1⟩
    · have HB := zAa.mk hb
      obtain ⟨pb, hpb⟩ := zBc b
      have HPB := zAa.mk hpb
      rw [hpb]
      clear ha hb hi hN hok IH hpb
      change Calls Tryz.prog 166 #[.pointer none, .pointer pb] w _
      go_enter Tryz.func166, Tryz.ntmps166
      go_wp2_with fail
      go_ret
      exact ⟨b, by rw [HPB.out]; rfl, HB.out, Below.refl _ _⟩
    · rcases hb.inv with ⟨rfl, rfl⟩ | ⟨g2, n2, js2, zs2, rfl, rfl, h2, L2, J2, z2⟩
      · have HA := zAa.mk ha
        clear ha hb hi hN hok IH h1 L1 J1 z1
        change Calls Tryz.prog 166 #[.pointer (some ⟨g1, 0, none⟩), .pointer none] w _
        go_enter Tryz.func166, Tryz.ntmps166
        go_wp2_with fail
        go_ret
        exact ⟨some g1, rfl, by rw [List.append_nil]; exact HA.out, Below.refl _ _⟩
      · have hz1 : zs.length = js.length + 1 := by have := L1.len; simpa using this
        have hz2 : zs2.length = js2.length + 1 := by have := L2.len; simpa using this
        rcases Nat.lt_trichotomy n1 n2 with hlt | rfl | hlt
        · obtain ⟨z, C, rfl, _⟩ := zs_first hz2
          exact join_low N IH ok g1 n1 js zs g2 n2 js2 z C w hN hok h1 L1 J1 z1 h2 L2 J2 z2 hi hlt
        · obtain ⟨A, z, rfl, _⟩ := zs_last hz1
          obtain ⟨y, C, rfl, _⟩ := zs_first hz2
          exact join_eq N IH ok g1 n1 js A z g2 js2 y C w hN hok h1 L1 J1 z1 h2 L2 J2 z2 hi
        · obtain ⟨A, z, rfl, _⟩ := zs_last hz1
          exact join_high N IH ok g1 n1 js A z g2 n2 js2 zs2 w hN hok h1 L1 J1 z1 h2 L2 J2 z2 hi hlt
end Go.Proofs.YtpckachmleonlaaGreatDoor
end
