/- Words and walks for Split and Tablet: texts of these sessions, and of the kit's print, cut down to what is used (H2 I2 J2 L2). -/
import Derived.Test.YtpckachmleonlaaGreatDoorCv18
section
set_option linter.unusedVariables false
set_option linter.unusedSimpArgs false
namespace Go.Proofs.YtpckachmleonlaaGreatDoor
open Go.RowKit Go.Proofs.YtpckachmleonlaaGreatDoorW.PrintWords
theorem keepP {w W : World} {g : Nat} {C : Array Value} {a b : Addr} {c3 ca cb : Value} (h1 : w.heap[g]? = some (.cells C 150 (0, 0))) (hb : Below w.heap.size w W) (e3 : C[3]? = some c3) (ea : w.cell? a = some ca) (eb : w.cell? b = some cb) :
  W.cell? ⟨g, 3, none⟩ = some c3 ∧ W.cell? a = some ca ∧ W.cell? b = some cb :=
 ⟨(zAc (zAf h1 hb) 3).trans e3, pw_cell_below hb ea, pw_cell_below hb eb⟩
set_option maxHeartbeats 8000000 in
set_option maxRecDepth 100000 in
theorem del_is_w (ok : Nat → Prop) (B : Option Addr) (d : Nat) (key : List Int) (g n : Nat) (P Q : List Jt) (q : Jt) (A C : List Kid) (z y : Kid) (w : World) (hok : ∀ k, w.heap.size ≤ k → ok k)
  (hN : zEa ok w g n (P ++ q :: Q) ((A ++ z :: y :: C).map (·.1)) (hashT (partL (P ++ q :: Q) (A ++ z :: y :: C))) (partL (P ++ q :: Q) (A ++ z :: y :: C)).length) (hL : LvOk n ((A ++ z :: y :: C).map (·.2)) ((P ++ q :: Q).map Jt.it)) (hJ : P ++ q :: Q ≠ []) (hz : ∀ u ∈ A ++ z :: y :: C, PartAt ok w u.1 u.2) (hA : A.length = P.length)
  (hi : ItOk (partL (P ++ q :: Q) (A ++ z :: y :: C))) (hq : q.1.2 = key)
  (hF : Calls Tryz.prog 159 #[.pointer (some ⟨g, 0, none⟩), .slice B key.length d] w fun e w' => e = .returned (.tuple #[.int .i64 P.length, .bool true]) ∧ w' = w) :
  Calls Tryz.prog 154 #[.pointer (some ⟨g, 0, none⟩), .slice B key.length d] w (DelPost ok (partL (P ++ q :: Q) (A ++ z :: y :: C)) key w) := by
 obtain ⟨adk, ck, adv, cv, adc, cc, As, cs, h1, h2, h3, h4, h5, h6, h7, h8⟩ := hN.data hJ (by have := hL.len; simp at this ⊢; omega)
 have hj100 : (P ++ q :: Q).length ≤ 100 := by have := zDh hL; have := hi.n; omega
 have hzl : (A ++ z :: y :: C).length = (P ++ q :: Q).length + 1 := by have := hL.len; simpa using this
 obtain ⟨pz, hpz⟩ := zBc z.1
 obtain ⟨py, hpy⟩ := zBc y.1
 have hT := fun (o : Option Nat) => del_is (o := o) hL hA
 have HT := zAa.mk hT
 obtain ⟨i, hiP⟩ : ∃ i, P.length = i := ⟨_, rfl⟩
 obtain ⟨r, hr⟩ : ∃ r, Q.length = r := ⟨_, rfl⟩
 have hm : (P ++ q :: Q).length = i + r + 1 := by rw [List.length_append, List.length_cons, hiP, hr]; omega
 have hCl : C.length = r := by rw [hm, List.length_append, List.length_cons, List.length_cons, hA, hiP] at hzl; omega
 rw [hm] at h1 h5 h6 h7 h8 hj100 hzl
 rw [hiP] at hF hA
 have hkl0 : ((A ++ z :: y :: C).map (·.1)).length = i + r + 1 + 1 := by rw [List.length_map, hzl]
 have hcz : w.cell? (adc.add i) = some (.pointer pz) := by
  rw [← hpz]
  refine cell_of_C h4.now.row (by rw [hkl0]; omega) ?_
  rw [List.map_append, List.getD_eq_getElem?_getD, List.getElem?_append_right (by rw [List.length_map, hA]; exact Nat.le_refl _), List.length_map, hA, Nat.sub_self]
  rfl
 have hcy : w.cell? ⟨adc.block, adc.off + (i + 1), none⟩ = some (.pointer py) := by
  rw [← hpy, ← add_succ]
  refine cell_of_C h4.now.row (by rw [hkl0]; omega) ?_
  rw [List.map_append, List.getD_eq_getElem?_getD, List.getElem?_append_right (by rw [List.length_map, hA]; omega), List.length_map, hA, show i + 1 - i = 1 by omega]
  rfl
 have HRE : zAa (∀ X, Below w.heap.size w X → Calls Tryz.prog 166 #[.pointer pz, .pointer py] X (JoinPost ok (z.2 ++ y.2) X)) := ⟨fun X hX => by
  have := join_any (z.2.length + y.2.length + 1) ok z.1 y.1 z.2 y.2 X (Nat.lt_succ_self _) (fun k hk => hok k (Nat.le_trans hX.size hk)) ((hz z (by simp)).keep hX) ((hz y (by simp)).keep hX) (hi.sub (by
   have h9 := zDh hL
   have h10 := inter_length hL.len
   rw [h9]
   have h11 : sumK (A ++ z :: y :: C) (A ++ z :: y :: C).length = (A.map fun u => u.2.length).sum + (z.2.length + (y.2.length + (C.map fun u => u.2.length).sum)) := by
    unfold sumK
    rw [List.take_length]
    simp
   rw [h11, List.length_append]
   omega) (fun x hx => by
   rcases List.mem_append.1 hx with hx | hx
   ·exact (zDa hL x).2 (.inr ⟨z, by simp, hx⟩)
   ·exact (zDa hL x).2 (.inr ⟨y, by simp, hx⟩)))
  rw [hpz, hpy] at this
  exact this⟩
 have H1 := zAa.mk h1
 have H2 := zAa.mk h2
 have H3 := zAa.mk h3
 have H4 := zAa.mk h4
 have HF := zAa.mk hF
 have HL := zAa.mk hL
 have HZ := zAa.mk hz
 have HA := zAa.mk hA
 have HI := zAa.mk hi
 have HM := zAa.mk hm
 have HC := zAa.mk hCl
 have HIP := zAa.mk hiP
 have HR := zAa.mk hr
 have HZL := zAa.mk hzl
 have HOK := zAa.mk hok
 have HQK := zAa.mk hq
 have hgl := zAj h1
 obtain ⟨kl, hkl⟩ : ∃ kl, key.length = kl := ⟨_, rfl⟩
 rw [hkl] at HF ⊢
 obtain ⟨Xc, hXc⟩ : ∃ X, (if cc = i + 2 then some adc else some (⟨adc.block, adc.off + (i + 2), none⟩ : Addr)) = X := ⟨_, rfl⟩
 have HTL : zAa (∀ X, Below w.heap.size w X → Kd.C kP X Xc r (List.map (fun x : Kid => x.1) C)) := ⟨fun X hX => by
  have h4 := (H4.out.keep hX).now
  have ht := (h4.drop (i := i + 2) (by rw [List.length_map, HZL.out]; omega))
  have he : ((A ++ z :: y :: C).map (·.1)).drop (i + 2) = C.map (·.1) := by rw [List.map_append, List.map_cons, List.map_cons, ← List.drop_drop, List.drop_left' (by rw [List.length_map, HA.out])]; rfl
  rw [he] at ht
  have := ht.row
  rw [List.length_map, HC.out, Option.map_some, add_succ adc (i + 1), hXc] at this
  exact this⟩
 have HCL : zAa (∀ X, Below w.heap.size w X → Kd.C kP X (some adc) i (List.map (fun x : Kid => x.1) A)) := ⟨fun X hX => by
  have h4 := (H4.out.keep hX).now
  have ht := (h4.take (i := i) (c' := cc) (by rw [List.length_map, HZL.out]; omega) (by omega))
  have he : ((A ++ z :: y :: C).map (·.1)).take i = A.map (·.1) := by rw [List.map_append, List.take_left' (by rw [List.length_map, HA.out])]
  rw [he] at ht
  have := ht.row
  rw [List.length_map, HA.out] at this
  exact this⟩
 have HKA : zAa (∀ X β o p, Below w.heap.size w X → ptrV o = .pointer p → X.heap[β + 1]? = some (.cells #[.slice (some adc) i cc, .slice (some ⟨β, 0, none⟩) 1 1, .slice Xc r (cc - (i + 2))] 148 (0, 0)) → X.heap[β]? = some (.cells #[.pointer p] 110 (0, 0)) → Calls Tryz.prog 161 #[.slice (some ⟨β + 1, 0, none⟩) 3 3] X fun e w' => ∃ v, e = .returned v ∧ Kd.R kP 110 w' X.heap.size (fun _ => True) v (List.map (fun x : Kid => x.1) A ++ o :: List.map (fun x : Kid => x.1) C) ∧ Below X.heap.size X w') := ⟨fun X β o p hX hp h3 h4 => by
  have hAl : (List.map (fun x : Kid => x.1) A).length = i := by rw [List.length_map, HA.out]
  have hCl : (List.map (fun x : Kid => x.1) C).length = r := by rw [List.length_map, HC.out]
  have hr := rowsN (d := kP) (e := 110) (vs := [(some adc, cc), (some ⟨β, 0, none⟩, 1), (Xc, cc - (i + 2))]) (xss := [List.map (fun x : Kid => x.1) A, [o], List.map (fun x : Kid => x.1) C]) h3 (by simp [HA.out, HC.out]) rfl (by simp) (fun u hu => by
   simp only [List.zip_cons_cons, List.zip_nil_right, List.mem_cons, List.not_mem_nil, or_false] at hu
   rcases hu with rfl | rfl | rfl
   ·refine ⟨by simp only [hAl]; omega, ?_⟩
    simp only [hAl]
    exact HCL.out X hX
   ·exact ⟨Nat.le_refl _, C_p1 h4 hp⟩
   ·refine ⟨by simp only [hCl]; omega, ?_⟩
    simp only [hCl]
    exact HTL.out X hX)
  have := concatP_any (some ⟨β + 1, 0, none⟩) 3 _ X hr (by simp) (by simp [HA.out, HC.out]; omega)
  simpa using this⟩
 have hKX : ∀ (F : Jt → Hd × List Int) (a : Addr) (ka : Nat), i + r + 1 ≤ ka → FF (fun W => RAt W (some a) ka ((P ++ q :: Q).map F)) ok w → ∀ X, Below w.heap.size w X → Calls Tryz.prog 160 #[.slice (some a) (i + r + 1) ka] X fun e w' => ∃ A c, e = .returned (.slice A (i + r + 1) c) ∧ Kd.R kS 47 w' X.heap.size (fun _ => True) (.slice A (i + r + 1) c) (((P ++ q :: Q).map F).map (·.1)) ∧ Below X.heap.size X w' := fun F a ka hka hf X hX => by
  have hrow := (hf.keep hX).now
  have hl : (((P ++ q :: Q).map F).map (·.1)).length = i + r + 1 := by rw [List.length_map, List.length_map, HM.out]
  have h9 := cloneS_any (some a) ka (((P ++ q :: Q).map F).map (·.1)) X (by rw [hl]; have := hrow.row; rw [List.length_map, HM.out] at this; exact this) (by rw [hl]; exact hka) (by rw [hl]; omega)
  rw [hl] at h9
  refine h9.mono ?_
  rintro e w' ⟨v, rfl, hr, hb⟩
  obtain ⟨A', c', e1⟩ := Kd.zAk hr
  rw [hl] at e1
  subst e1
  exact ⟨A', c', rfl, hr, hb⟩
 have hDX : ∀ (F : Jt → Hd × List Int) (a : Addr) (ka : Nat), FF (fun W => RAt W (some a) ka ((P ++ q :: Q).map F)) ok w → ∀ (Y : World) (base : Nat) (A : Option Addr) (c : Nat), w.heap.size ≤ base → base ≤ Y.heap.size → Below w.heap.size w Y → Kd.R kS 47 Y base (fun _ => True) (.slice A (i + r + 1) c) (((P ++ q :: Q).map F).map (·.1)) →
   Calls Tryz.prog 167 #[.slice A (i + r + 1) c, .int .i64 i, .int .i64 ((i : Int) + 1)] Y fun e w' => ∃ A' c', e = .returned (.slice A' (i + r) c') ∧ FF (fun W => RAt W A' c' ((P ++ Q).map F)) ok w' ∧ Below base Y w' := fun F a ka hf Y base A c hwb hbY hY hr => by
  refine (deleteS_any Y base A (i + r + 1) c i _ rfl _ hr (by omega) (by omega) hbY).mono ?_
  rintro e w' ⟨A', c', rfl, hr2, hbw⟩
  have e2 : (((P ++ q :: Q).map F).map (·.1)).eraseIdx i = ((P ++ Q).map F).map (·.1) := by
   rw [List.map_append, List.map_append, List.eraseIdx_append_of_length_le (by rw [List.length_map, List.length_map, HIP.out]; exact Nat.le_refl _), List.length_map, List.length_map, HIP.out, Nat.sub_self, List.map_append, List.map_append]
   rfl
  rw [e2] at hr2
  have hW : Below w.heap.size w w' := hY.trans (hbw.mono hwb)
  refine ⟨A', c', rfl, RAt_FF hr2 (fun y hy => ?_) (fun k hk => HOK.out k (Nat.le_trans hwb hk)), hbw⟩
  rw [List.map_append] at hy
  rcases List.mem_append.1 hy with hy | hy
  ·exact (hf.keep hW).imp (fun W h => h.b y (by rw [List.map_append]; exact List.mem_append_left _ hy))
  ·exact (hf.keep hW).imp (fun W h => h.b y (by rw [List.map_append, List.map_cons]; exact List.mem_append_right _ (List.mem_cons_of_mem _ hy)))
 have HCK := zAa.mk (hKX (·.1) adk ck h5 H2.out)
 have HCV := zAa.mk (hKX (·.2) adv cv h6 H3.out)
 have HDK := zAa.mk (hDX (·.1) adk ck H2.out)
 have HDV := zAa.mk (hDX (·.2) adv cv H3.out)
 have HNO : zAa (∀ W o A7 c7 A1 c1 A2 c2, Below w.heap.size w W → PartAt ok W o (z.2 ++ y.2) → FF (fun W => RAt W A1 c1 ((P ++ Q).map (·.1))) ok W → FF (fun W => RAt W A2 c2 ((P ++ Q).map (·.2))) ok W → FF (fun W => PAt W A7 c7 (List.map (fun x : Kid => x.1) A ++ o :: List.map (fun x : Kid => x.1) C)) ok W → Calls Tryz.prog 158 #[.int .i64 n, .slice A1 (i + r) c1, .slice A2 (i + r) c2, .slice A7 (i + r + 1) c7] W fun e' w' => ∃ o', e' = .returned (ptrV o') ∧ PartAt ok w' o' (partL (P ++ Q) (A ++ (o, z.2 ++ y.2) :: C)) ∧ Below W.heap.size W w') := ⟨fun W o A7 c7 A1 c1 A2 c2 hW ho hk hv hc => by
  refine node_c (zs := A ++ (o, z.2 ++ y.2) :: C) (fun k hk => HOK.out k (Nat.le_trans hW.size hk)) hk hv (fun u hu => ?_) (HT.out o).2.2 (HI.out.less (HT.out o).1 (HT.out o).2.1) (by rw [List.length_append, HIP.out, HR.out]) (by rw [List.length_append, List.length_cons, HA.out, HC.out]; omega) _ _ (by rw [List.map_append, List.map_cons]; exact hc)
  rcases List.mem_append.1 hu with hu | hu
  ·exact (HZ.out u (List.mem_append_left _ hu)).keep hW
  ·rcases List.mem_cons.1 hu with rfl | hu
   ·exact ho
   ·exact (HZ.out u (by simp [hu])).keep hW⟩
 have q1 : (i : Int) < (i : Int) + (r : Int) + 1 + 1 := by omega
 have q1' : (i : Int) + 1 < (i : Int) + (r : Int) + 1 + 1 := by omega
 have q2 : (0 : Int) ≤ (i : Int) := by omega
 have q3 : (i : Int) ≤ (cc : Int) := by omega
 have q4 : (i : Int) ≤ (i : Int) + (r : Int) + 1 + 1 := by omega
 have q5 : (i : Int) + 2 ≤ (cc : Int) := by omega
 have q6 : (i : Int) + 2 ≤ (i : Int) + (r : Int) + 1 + 1 := by omega
 have q7 : (0 : Int) ≤ (i : Int) + 1 := by omega
 have q7' : (0 : Int) ≤ (i : Int) + 2 := by omega
 have q8 : ((i : Int) + 1).toNat = i + 1 := by omega
 have q8' : ((i : Int) + 2).toNat = i + 2 := by omega
 have q9 : IntKind.i64.wrap ((i : Int) + 1) = (i : Int) + 1 := IntWalk.i64_in _ (by omega)
 have q9' : IntKind.i64.wrap ((i : Int) + 2) = (i : Int) + 2 := IntWalk.i64_in _ (by omega)
 have q10 : (i : Int) + (r : Int) + 1 + 1 ≤ (cc : Int) := by omega
 have q11 : i + r + 1 + 1 - (i + 2) = r := by omega
 clear hkl h1 h2 h3 h4 hF hL hz hA hi hm hiP hr hzl hpz hpy hok hN hJ hT hq hCl hkl0 hKX hDX
 go_enter Tryz.func154, Tryz.ntmps154
 go_wp2_with fail
 refine HF.out.mono ?_
 rintro e1 w1 ⟨rfl, rfl⟩
 go_upto_region 6 with fail
 go_region_held3 (fun w' => w'.cell? ⟨g, 3, none⟩ = some (.slice (some adc) (i + r + 1 + 1) cc) ∧ w'.cell? (adc.add i) = some (.pointer pz) ∧ w'.cell? ⟨adc.block, adc.off + (i + 1), none⟩ = some (.pointer py))
  (first | exact keepP H1.out (by with_reducible repeat (first | exact Below.refl _ _ | exact HBx.out | exact HB4.out | exact HB7.out | exact HB8.out | exact HB9.out | exact HB10.out | exact HB11.out | exact HBa.out | refine zAg ?_ | refine zAb ?_ _)) rfl hcz hcy)
  (first
   | (go_at_call 166; refine (HRE.out _ (by with_reducible repeat (first | exact Below.refl _ _ | exact HBx.out | exact HB4.out | exact HB7.out | exact HB8.out | exact HB9.out | exact HB10.out | exact HB11.out | exact HBa.out | refine zAg ?_ | refine zAb ?_ _))).mono ?_; rintro e W4 ⟨o4, he, hp, hb⟩; obtain ⟨p4, hp4⟩ := zBc o4; rw [hp4] at he; subst he; have HP4' := zAa.mk hp4; have HP4 := zAa.mk hp; have HB4 := zAa.mk (bl_to (w2 := w1) (by with_reducible repeat (first | exact Below.refl _ _ | refine zAg ?_ | refine zAb ?_ _)) hb); clear hp hb hp4)
   | (go_at_call 161; refine (HKA.out _ W4.heap.size o4 p4 (by with_reducible repeat (first | exact Below.refl _ _ | exact HBx.out | exact HB4.out | exact HB7.out | exact HB8.out | exact HB9.out | exact HB10.out | exact HB11.out | exact HBa.out | refine zAg ?_ | refine zAb ?_ _)) HP4'.out (by exact hN3 W4 _ _) (by exact hN2 W4 _)).mono ?_; rintro e3 W7 ⟨v7, rfl, hr, hb⟩; have HR7 := zAa.mk (rl_to (w2 := W4) (by with_reducible repeat (first | exact Below.refl _ _ | refine zAg ?_ | refine zAb ?_ _)) hr); have HB7' := zAa.mk (bl_to (w2 := W4) (by with_reducible repeat (first | exact Below.refl _ _ | refine zAg ?_ | refine zAb ?_ _)) hb); have HB7 := zAa.mk (bl_to HB4.out HB7'.out); clear hr hb; obtain ⟨A7, c7, e7⟩ := Kd.zAk HR7.out; rw [List.length_append, List.length_cons, List.length_map, List.length_map, HA.out, HC.out, show i + (r + 1) = i + r + 1 by omega] at e7; subst e7))
 have HF7 := zAa.mk ((PAt_FF HR7.out).mono (fun k hk => HOK.out k (Nat.le_trans HB4.out.size hk)))
 have HP7 := zAa.mk (HP4.out.keep HB7'.out)
 clear HR7 HKA HTL HCL HRE HP4 HB7'
 go_upto_region 7 with fail
 go_region_held3 (fun w' => w'.cell? ⟨g, 0, none⟩ = some (.int .i64 n) ∧ w'.cell? ⟨g, 1, none⟩ = some (.slice (some adk) (i + r + 1) ck) ∧ w'.cell? ⟨g, 2, none⟩ = some (.slice (some adv) (i + r + 1) cv))
  (first | exact keepN H1.out (by with_reducible repeat (first | exact Below.refl _ _ | exact HBx.out | exact HB4.out | exact HB7.out | exact HB8.out | exact HB9.out | exact HB10.out | exact HB11.out | exact HBa.out | refine zAg ?_ | refine zAb ?_ _)) rfl rfl rfl)
  (first
   | (go_at_call 160; have h0 := HB9'.out; refine (HCV.out _ (by with_reducible repeat (first | exact Below.refl _ _ | exact HBx.out | exact HB4.out | exact HB7.out | exact HB8.out | exact HB9.out | exact HB10.out | exact HB11.out | exact HBa.out | refine zAg ?_ | refine zAb ?_ _))).mono ?_; rintro e10 W10 ⟨A10, c10, rfl, hr, hb⟩; have HR10 := zAa.mk (rl_to (w2 := W9) (by with_reducible repeat (first | exact Below.refl _ _ | refine zAg ?_ | refine zAb ?_ _)) hr); have HB10'' := zAa.mk (bl_to (w2 := W9) (by with_reducible repeat (first | exact Below.refl _ _ | refine zAg ?_ | refine zAb ?_ _)) hb); have HB10' := zAa.mk (bl_to HB9'.out HB10''.out); have HB10 := zAa.mk (bl_to HB7.out HB10'.out); clear hr hb)
   | (go_at_call 160; refine (HCK.out _ (by with_reducible repeat (first | exact Below.refl _ _ | exact HBx.out | exact HB4.out | exact HB7.out | exact HB8.out | exact HB9.out | exact HB10.out | exact HB11.out | exact HBa.out | refine zAg ?_ | refine zAb ?_ _))).mono ?_; rintro e8 W8 ⟨A8, c8, rfl, hr, hb⟩; have HR8 := zAa.mk (rl_to (w2 := W7) (by with_reducible repeat (first | exact Below.refl _ _ | refine zAg ?_ | refine zAb ?_ _)) hr); have HB8' := zAa.mk (bl_to (w2 := W7) (by with_reducible repeat (first | exact Below.refl _ _ | refine zAg ?_ | refine zAb ?_ _)) hb); have HB8 := zAa.mk (bl_to HB7.out HB8'.out); clear hr hb)
   | (go_at_call 167; refine (HDV.out W10 W9.heap.size A10 c10 (bl_to HB7.out HB9'.out).size HB10''.out.size HB10.out HR10.out).mono ?_; rintro e11 W11 ⟨A11, c11, rfl, hf, hb⟩; have HF11 := zAa.mk hf; have HB11'' := zAa.mk (bl_b (w2 := W9) HB10''.out hb); have HB11' := zAa.mk (bl_to HB9'.out HB11''.out); have HB11 := zAa.mk (bl_to HB7.out HB11'.out); clear hf hb)
   | (go_at_call 167; refine (HDK.out W8 W7.heap.size A8 c8 HB7.out.size HB8'.out.size HB8.out HR8.out).mono ?_; rintro e9 W9 ⟨A9, c9, rfl, hf, hb⟩; have HF9 := zAa.mk hf; have HB9' := zAa.mk (bl_b (w2 := W7) HB8'.out hb); have HB9 := zAa.mk (bl_to HB7.out HB9'.out); clear hf hb)
   | (go_at_call 158; refine (HNO.out _ o4 A7 c7 A9 c9 A11 c11 HB11.out (HP7.out.keep HB11'.out) (HF9.out.keep HB11''.out) HF11.out (HF7.out.keep HB11'.out)).mono ?_; rintro e12 Wa ⟨oa, he, hpx, hb⟩; obtain ⟨pp, hpp⟩ := zBc oa; rw [hpp] at he; subst he; have HPa' := zAa.mk hpp; have HPa := zAa.mk hpx; have HBa := zAa.mk (bl_to HB11.out hb); clear hpx hb hpp))
 go_wp2_with fail
 go_ret
 exact ⟨oa, _, q.it, _, by rw [HPa'.out]; rfl, (HT.out o4).1, HQK.out, by have h9 := HPa.out; rw [(HT.out o4).2.1] at h9; exact h9, HBa.out⟩
end Go.Proofs.YtpckachmleonlaaGreatDoor
end
section
set_option linter.unusedVariables false
set_option linter.unusedSimpArgs false
namespace Go.Proofs.YtpckachmleonlaaGreatDoor
open Go.RowKit Go.Proofs.YtpckachmleonlaaGreatDoorW.PrintWords
theorem in_kid {n : Nat} {P Q : List Jt} {A C : List Kid} {z : Kid} {key : List Int} (hl : LvOk n ((A ++ z :: C).map (·.2)) ((P ++ Q).map Jt.it)) (hA : A.length = P.length) (hs : Sorted (partL (P ++ Q) (A ++ z :: C))) (hP : zFd (P.map Jt.it) key) (hQ : Above key (Q.map Jt.it)) {x : It} (hx : x ∈ partL (P ++ Q) (A ++ z :: C)) (hk : x.1 = key) : x ∈ z.2 := by
  have hC := two_lens hl hA
  have e : partL (P ++ Q) (A ++ z :: C) = inter (A.map (·.2) ++ [[]]) (P.map Jt.it) ++ (z.2 ++ inter ([] :: C.map (·.2)) (Q.map Jt.it)) := by
    rw [← inter_app, List.append_nil]
    simp only [partL, List.map_append, List.map_cons]
    have := zFc (x := []) (y := z.2) (A := A.map (·.2)) (P := P.map Jt.it) (B := C.map (·.2)) (Q := Q.map Jt.it) (by simp [hA])
    simpa using this
  rw [e] at hs hx
  obtain ⟨s1, s2, _⟩ := Sorted.app hs
  obtain ⟨_, s3, _⟩ := Sorted.app s2
  rcases List.mem_append.1 hx with hx | hx
  · have := inter_below (x := []) (k := key) (by simp [hA]) s1 hP (fun y hy => by simp at hy) x hx
    rw [hk] at this
    exact absurd this (ltI_irrefl _)
  · rcases List.mem_append.1 hx with hx | hx
    · exact hx
    · have := inter_above (k := key) (by simp [hC]) s3 hQ (fun y hy => by simp at hy) x hx
      rw [hk] at this
      exact absurd this (ltI_irrefl _)
set_option maxHeartbeats 2000000 in
set_option maxRecDepth 100000 in
theorem del_any (B : Option Addr) (d : Nat) (key : List Int) (hkb : IsB key) : ∀ N, DelC B d key N
  | 0 => fun _ _ _ _ h => absurd h (Nat.not_lt_zero _)
  | N + 1 => fun ok o l w hN hok hpt hi hs hk hin => by
    have IH := del_any B d key hkb N
    rcases hpt.inv with ⟨rfl, rfl⟩ | ⟨g, n, js, zs, rfl, rfl, hNI, hL, hJ, hz⟩
    · obtain ⟨x, hx, _⟩ := hin
      simp at hx
    · have hjk : Sorted (js.map Jt.it) := inter_keys (l := []) hL.len hs
      have hjm : ∀ j ∈ js, j.it ∈ partL js zs := fun j hj => (zDa hL _).2 (.inl (List.mem_map_of_mem hj))
      have hj100 : js.length ≤ 100 := by have := zDh hL; have := hi.n; omega
      obtain ⟨i, b, hF, hC⟩ := find_at ok g n js _ _ _ B d key w hNI hjk (by omega) hk (fun j hj => (hi.k _ (hjm j hj)).2.2) hkb
      have hzl : zs.length = js.length + 1 := by have := hL.len; simpa using this
      cases hF with
      | @there P Q q he hq hPb hQa =>
        subst he
        obtain ⟨A, z, C, rfl, hA⟩ := kids_at (zs := zs) (i := P.length) (by rw [hzl]; simp; omega)
        match C, hzl with
        | y :: C, hzl => exact del_is_w ok B d key g n P Q q A C z y w hok hNI hL hJ hz hA hi hq hC
        | [], hzl => simp at hzl; omega
      | @not_ P Q he hPb hQa =>
        subst he
        obtain ⟨A, z, C, rfl, hA⟩ := kids_at (zs := zs) (i := P.length) (by rw [hzl]; simp; omega)
        obtain ⟨x, hx, hxk⟩ := hin
        exact del_down_w ok B d key g n P Q A C z w hok hNI hL hJ hz hA hi hs hk ⟨x, in_kid hL hA hs hPb hQa hx hxk, hxk⟩ N IH hN hC
end Go.Proofs.YtpckachmleonlaaGreatDoor
end
section
set_option linter.unusedVariables false
set_option linter.unusedSimpArgs false
namespace Go.Proofs.YtpckachmleonlaaGreatDoor
open Go.RowKit Go.Proofs.YtpckachmleonlaaGreatDoorW.PrintWords
def zDk (ok : Nat → Prop) (w : World) (t : Option Nat) (l : List It) : Prop := ∃ o, PartAt ok w o l ∧ ((t = none ∧ o = none) ∨ ∃ b, t = some b ∧ ok b ∧ w.heap[b]? = some (.cells #[ptrV o] 147 (0, 0)))
section
variable {ok ok' : Nat → Prop} {w w' : World} {t : Option Nat} {l : List It}
theorem zDk.step (h : zDk ok w t l) (hs : Same_ ok w w') : zDk ok w' t l := by
  obtain ⟨o, hp, h | ⟨b, h1, h2, h3⟩⟩ := h
  · exact ⟨o, hp.step hs, .inl h⟩
  · exact ⟨o, hp.step hs, .inr ⟨b, h1, h2, (hs b h2 (zAj h3)).trans h3⟩⟩
theorem zDk.keep (h : zDk ok w t l) (hb : Below w.heap.size w w') : zDk ok w' t l := h.step (.of_below hb)
theorem zDk.mono (h : zDk ok w t l) (hk : ∀ k, ok k → ok' k) : zDk ok' w t l := by
  obtain ⟨o, hp, h | ⟨b, h1, h2, h3⟩⟩ := h
  · exact ⟨o, hp.mono hk, .inl h⟩
  · exact ⟨o, hp.mono hk, .inr ⟨b, h1, hk b h2, h3⟩⟩
theorem zDk.lt (h : zDk ok w t l) : zDk (fun k => ok k ∧ k < w.heap.size) w t l := by
  obtain ⟨o, hp, h | ⟨b, h1, h2, h3⟩⟩ := h
  · exact ⟨o, hp.lt, .inl h⟩
  · exact ⟨o, hp.lt, .inr ⟨b, h1, ⟨h2, zAj h3⟩, h3⟩⟩
end
theorem zDk.nil (ok : Nat → Prop) (w : World) : zDk ok w none [] := ⟨none, .nil_, .inl ⟨rfl, rfl⟩⟩
set_option maxHeartbeats 1000000 in
set_option maxRecDepth 100000 in
theorem root_any (ok : Nat → Prop) (t : Option Nat) (l : List It) (w : World) (h : zDk ok w t l) : ∃ o, PartAt ok w o l ∧ Calls Tryz.prog 70 #[ptrV t] w fun e w' => e = .returned (ptrV o) ∧ w' = w := by
  obtain ⟨o, hp, ⟨rfl, rfl⟩ | ⟨b, rfl, _, h3⟩⟩ := h
  · refine ⟨none, hp, ?_⟩
    change Calls Tryz.prog 70 #[.pointer none] w _
    go_enter Tryz.func70, Tryz.ntmps70
    go_wp2_with fail
    go_ret
    exact ⟨rfl, rfl⟩
  · refine ⟨o, hp, ?_⟩
    obtain ⟨p, hpo⟩ := zBc o
    have hc : w.cell? ⟨b, 0, none⟩ = some (.pointer p) := by rw [← hpo]; exact (zAc h3 0).trans rfl
    have hlt := zAj h3
    have HPO := zAa.mk hpo
    clear h3 hp hpo
    change Calls Tryz.prog 70 #[.pointer (some ⟨b, 0, none⟩)] w _
    go_enter Tryz.func70, Tryz.ntmps70
    go_wp2_with fail
    go_ret
    exact ⟨by rw [HPO.out]; rfl, rfl⟩
set_option maxHeartbeats 1000000 in
set_option maxRecDepth 100000 in
theorem len_any (ok : Nat → Prop) (t : Option Nat) (l : List It) (w : World) (h : zDk ok w t l) : Calls Tryz.prog 39 #[ptrV t] w fun e w' => e = .returned (.int .i64 l.length) ∧ w' = w := by
  obtain ⟨o, hp, hr⟩ := root_any ok t l w h
  have HR := zAa.mk hr
  have HP := zAa.mk (many_any ok o l w hp)
  obtain ⟨p, hpt⟩ := zBc t
  rw [hpt] at HR ⊢
  obtain ⟨m, hm⟩ : ∃ m, l.length = m := ⟨_, rfl⟩
  rw [hm] at HP ⊢
  clear hp hr h hpt hm
  go_enter Tryz.func39, Tryz.ntmps39
  go_wp2_with (first | (go_at_call 70; refine HR.out.mono ?_; rintro e w1 ⟨rfl, rfl⟩) | (go_at_call 71; refine HP.out.mono ?_; rintro e w1 ⟨rfl, rfl⟩))
  go_ret
  exact ⟨rfl, rfl⟩
set_option maxHeartbeats 1000000 in
set_option maxRecDepth 100000 in
theorem troot_any (ok : Nat → Prop) (t : Option Nat) (l : List It) (w : World) (h : zDk ok w t l) : Calls Tryz.prog 47 #[ptrV t] w fun e w' => ∃ v, e = .returned v ∧ Kd.R kB 5 w' w.heap.size (fun _ => True) v (hashT l) ∧ Below w.heap.size w w' := by
  obtain ⟨o, hp, hr⟩ := root_any ok t l w h
  have HR := zAa.mk hr
  have HP := zAa.mk (hash_any ok o l w w hp (Below.refl _ _))
  have HL := zAa.mk (hashT_len l)
  obtain ⟨p, hpt⟩ := zBc t
  rw [hpt] at HR ⊢
  obtain ⟨m, hm⟩ : ∃ m, hashT l = m := ⟨_, rfl⟩
  have HM := zAa.mk hm
  rw [hm] at HP HL
  clear hp hr h hpt hm
  go_enter Tryz.func47, Tryz.ntmps47
  go_wp2_with (go_at_call 70; refine HR.out.mono ?_; rintro e w1 ⟨rfl, rfl⟩)
  refine HP.out.mono ?_
  rintro e w2 ⟨A, c, rfl, hb, hh⟩
  have HB := zAa.mk hb
  have HC : zAa (m.length ≤ c ∧ kB.C w2 A m.length m) := ⟨by
    rcases hh with ⟨rfl, h2⟩ | h2
    · exact ⟨h2.now.c, h2.now.row⟩
    · exact R_cap h2⟩
  clear hb hh
  go_wp2_with fail
  refine (cloneB_any A c m w2 HC.out.2 HC.out.1 (by have := HL.out; omega)).mono ?_
  rintro e w3 ⟨v, rfl, hr, hb⟩
  have HR3 := zAa.mk (Kd.zCj hr HB.out.size)
  have HB3 := zAa.mk (bl_to HB.out hb)
  clear hr hb
  obtain ⟨A3, c3, e3⟩ := Kd.zAk HR3.out
  subst e3
  go_wp2_with fail
  go_ret
  exact ⟨_, rfl, by rw [HM.out]; exact HR3.out, HB3.out⟩
end Go.Proofs.YtpckachmleonlaaGreatDoor
end
section
set_option linter.unusedVariables false
set_option linter.unusedSimpArgs false
namespace Go.Proofs.YtpckachmleonlaaGreatDoor
open Go.RowKit Go.Proofs.YtpckachmleonlaaGreatDoorW.PrintWords
set_option maxHeartbeats 1000000 in
set_option maxRecDepth 100000 in
theorem asked_ok (A B : Option Addr) (n c m d : Nat) (w : World) (h0 : 0 < n) (h1 : n ≤ 256) (h2 : m ≤ 1024) : Calls Tryz.prog 140 #[.slice A n c, .slice B m d] w fun e w' => e = .returned (.int .i64 0) ∧ w' = w := by
  have e0 : ((n : Int) == 0) = false := ine (by omega)
  have e1 : decide ((256 : Int) < (n : Int)) = false := df (by omega)
  have e1' : ¬ ((256 : Int) < (n : Int)) := by omega
  have e2 : decide ((1024 : Int) < (m : Int)) = false := df (by omega)
  have e2' : ¬ ((1024 : Int) < (m : Int)) := by omega
  go_enter Tryz.func140, Tryz.ntmps140
  go_wp2
  go_ret
  exact ⟨rfl, rfl⟩
set_option maxHeartbeats 2000000 in
set_option maxRecDepth 100000 in
theorem tput_any (ok : Nat → Prop) (t : Option Nat) (l : List It) (A B : Option Addr) (c d : Nat) (key val : List Int) (w : World) (hok : ∀ k, w.heap.size ≤ k → ok k) (h : zDk ok w t l) (hi : ItOk l) (hn : l.length < 100) (hs : Sorted l) (hk : kB.C w A key.length key) (hkc : key.length ≤ c) (hv : kB.C w B val.length val) (hvc : val.length ≤ d)
    (hk0 : 0 < key.length) (hk1 : key.length ≤ 256) (hv1 : val.length ≤ 1024) (hkb : IsB key) :
    Calls Tryz.prog 113 #[ptrV t, .slice A key.length c, .slice B val.length d] w fun e w' => ∃ t' l', e = .returned (.tuple #[ptrV t', .int .i64 0]) ∧ PutL l key val l' ∧ zDk ok w' t' l' ∧ Below w.heap.size w w' := by
  obtain ⟨o, hp, hr⟩ := root_any ok t l w h
  have HR := zAa.mk hr
  have HP := zAa.mk hp
  have HI := zAa.mk (And.intro hi (And.intro hn hs))
  have HOK := zAa.mk hok
  have HA := zAa.mk (asked_ok A B key.length c val.length d w hk0 hk1 hv1)
  have HLV := zAa.mk (level_any A c key w hk hkc (by omega) (by rw [ofM_len]; decide))
  have HK := zAa.mk (And.intro hk hkc)
  have HV := zAa.mk (And.intro hv hvc)
  have HPI : zAa (PutI key val) := ⟨⟨hk1, by omega, hkb⟩⟩
  obtain ⟨p, hpt⟩ := zBc t
  obtain ⟨po, hpo⟩ := zBc o
  have HPO := zAa.mk hpo
  rw [hpt, hpo] at HR
  rw [hpt]
  have hl64 := levelM_le key
  obtain ⟨lv, hlv⟩ : ∃ lv, zBe key = lv := ⟨_, rfl⟩
  have HLE := zAa.mk hlv
  rw [hlv] at HLV hl64
  obtain ⟨kl, hkl⟩ : ∃ kl, key.length = kl := ⟨_, rfl⟩
  have HKL := zAa.mk hkl
  obtain ⟨vl, hvl⟩ : ∃ vl, val.length = vl := ⟨_, rfl⟩
  have HVL := zAa.mk hvl
  rw [hkl] at HA HLV HK hk1 ⊢
  rw [hvl] at HA HV hv1 ⊢
  clear hp hr h hpt hpo hi hn hs hok hk hkc hv hvc hk0 hkb hlv hkl hvl
  go_enter Tryz.func113, Tryz.ntmps113
  go_wp2_with (first | (go_at_call 140; refine HA.out.mono ?_; rintro e w1 ⟨rfl, rfl⟩) | (go_at_call 70; refine HR.out.mono ?_; rintro e w1 ⟨rfl, rfl⟩))
  refine HLV.out.mono ?_
  rintro e w2 ⟨rfl, hb⟩
  have HB2 := zAa.mk hb
  clear hb
  go_wp2_with fail
  have h87 := cloneB_any A c key w2 (by rw [HKL.out]; exact Kd.zBb HK.out.1 HB2.out) (by rw [HKL.out]; exact HK.out.2) (by rw [HKL.out]; omega)
  rw [HKL.out] at h87
  refine h87.mono ?_
  rintro e w3 ⟨v3, rfl, hr, hb⟩
  obtain ⟨A3, c3, e3⟩ := Kd.zAk hr
  rw [HKL.out] at e3
  subst e3
  have HF3 := zAa.mk (BAt_FF hr)
  have HB3' := zAa.mk hb
  have HB3 := zAa.mk (bl_to HB2.out hb)
  clear hr hb h87
  go_wp2_with fail
  have h87 := cloneB_any B d val w3 (by rw [HVL.out]; exact Kd.zBb HV.out.1 HB3.out) (by rw [HVL.out]; exact HV.out.2) (by rw [HVL.out]; omega)
  rw [HVL.out] at h87
  refine h87.mono ?_
  rintro e w4 ⟨v4, rfl, hr, hb⟩
  obtain ⟨A4, c4, e4⟩ := Kd.zAk hr
  rw [HVL.out] at e4
  subst e4
  have HF4 := zAa.mk (BAt_FF hr)
  have HB4 := zAa.mk (bl_to HB3.out hb)
  have HF3' := zAa.mk (HF3.out.keep hb)
  clear hr hb h87 HF3
  have hput := put_any A3 A4 c3 c4 key val HPI.out (l.length + 1) ok o l w4 (Nat.lt_succ_self _) (fun k hk => HOK.out k (Nat.le_trans HB4.out.size hk)) (HP.out.keep HB4.out) HI.out.1 HI.out.2.1 HI.out.2.2
    (by rw [HKL.out]; exact HF3'.out.mono (fun k hk => HOK.out k (Nat.le_trans HB2.out.size hk))) (by rw [HVL.out]; exact HF4.out.mono (fun k hk => HOK.out k (Nat.le_trans HB3.out.size hk)))
  rw [HPO.out, HLE.out, HKL.out, HVL.out] at hput
  go_wp2_with fail
  refine hput.mono ?_
  rintro e w5 ⟨o5, l5, he, hpl, hpt, hb⟩
  obtain ⟨p5, hp5⟩ := zBc o5
  rw [hp5] at he
  subst he
  have HP5' := zAa.mk hp5
  have HPL := zAa.mk hpl
  have HPT := zAa.mk hpt
  have HB5 := zAa.mk (bl_to HB4.out hb)
  clear hpl hpt hb hput hp5
  go_wp2_with fail
  go_ret2
  refine ⟨some w5.heap.size, l5, rfl, HPL.out, ⟨o5, HPT.out.keep (zAb (Below.refl _ _) _), .inr ⟨_, rfl, HOK.out _ HB5.out.size, ?_⟩⟩, zAb HB5.out _⟩
  rw [HP5'.out]
  exact heap_alloc_new _ _
end Go.Proofs.YtpckachmleonlaaGreatDoor
end
