/- Words and walks for Split and Tablet: texts of these sessions, and of the kit's print, cut down to what is used (E2 F2 G2). -/
import Derived.Test.YtpckachmleonlaaGreatDoorCv17
section
set_option linter.unusedVariables false
set_option linter.unusedSimpArgs false
namespace Go.Proofs.YtpckachmleonlaaGreatDoor
open Go.RowKit Go.Proofs.YtpckachmleonlaaGreatDoorW.PrintWords
theorem keepO {w W : World} {g : Nat} {C : Array Value} {c1 c2 : Value} (h : w.heap[g]? = some (.cells C 150 (0, 0))) (hb : Below w.heap.size w W) (e1 : C[1]? = some c1) (e2 : C[2]? = some c2) :
  W.cell? ⟨g, 1, none⟩ = some c1 ∧ W.cell? ⟨g, 2, none⟩ = some c2 :=
 ⟨(zAc (zAf h hb) 1).trans e1, (zAc (zAf h hb) 2).trans e2⟩
theorem blk_s {Y W : World} {ow : Option Nat} {β t : Nat} {C : Array Value} (hs : ∀ j, j < Y.heap.size → some j ≠ ow → W.heap[j]? = Y.heap[j]?) (hne : some β ≠ ow) (h : Y.heap[β]? = some (.cells C t (0, 0))) : W.heap[β]? = some (.cells C t (0, 0)) := (hs β (zAj h) hne).trans h
theorem hD1 (W : World) (o : Obj) : (W.alloc o).drew.heap[W.heap.size]? = some o := hN1 W o
theorem hD2 (W : World) {C : Array Value} {t : Nat} (o2 : Obj) : ((W.alloc (.cells C t)).alloc o2).drew.heap[W.heap.size]? = some (.cells C t (0, 0)) := hN2 W o2
theorem hD3 (W : World) (o1 o2 : Obj) : ((W.alloc o1).alloc o2).drew.heap[W.heap.size + 1]? = some o2 := hN3 W o1 o2
theorem bl_b {w2 X W : World} (h : Below w2.heap.size w2 X) (hb : Below w2.heap.size X W) : Below w2.heap.size w2 W := h.trans hb
theorem C_p2 {w : World} {β t : Nat} {a b : Option Nat} {va vb : Value} (h : w.heap[β]? = some (.cells #[va, vb] t (0, 0))) (ea : ptrV a = va) (eb : ptrV b = vb) : Kd.C kP w (some ⟨β, 0, none⟩) 2 [a, b] :=
 ((pts2_FF (ok := fun _ => True) h ea eb trivial).now).row
set_option maxHeartbeats 8000000 in
set_option maxRecDepth 100000 in
theorem put_here_w (ok : Nat → Prop) (B V : Option Addr) (d e : Nat) (key val : List Int) (hp : PutI key val) (g n : Nat) (P Q : List Jt) (A C : List Kid) (z : Kid) (w : World) (hok : ∀ k, w.heap.size ≤ k → ok k)
  (hN : zEa ok w g n (P ++ Q) ((A ++ z :: C).map (·.1)) (hashT (partL (P ++ Q) (A ++ z :: C))) (partL (P ++ Q) (A ++ z :: C)).length) (hL : LvOk n ((A ++ z :: C).map (·.2)) ((P ++ Q).map Jt.it)) (hJ : P ++ Q ≠ []) (hz : ∀ y ∈ A ++ z :: C, PartAt ok w y.1 y.2) (hA : A.length = P.length)
  (hi : ItOk (partL (P ++ Q) (A ++ z :: C))) (hn : (partL (P ++ Q) (A ++ z :: C)).length < 100) (hs : Sorted (partL (P ++ Q) (A ++ z :: C))) (hk : FF (fun W => BAt W ⟨B, key.length, d⟩ key) ok w) (hv : FF (fun W => BAt W ⟨V, val.length, e⟩ val) ok w)
  (hP : zFd (P.map Jt.it) key) (hQ : Above key (Q.map Jt.it)) (hF : Calls Tryz.prog 159 #[.pointer (some ⟨g, 0, none⟩), .slice B key.length d] w fun e w' => e = .returned (.tuple #[.int .i64 P.length, .bool false]) ∧ w' = w) (hlv : zBe key = n) :
  Calls Tryz.prog 141 #[.pointer (some ⟨g, 0, none⟩), .int .i64 (zBe key), .slice B key.length d, .slice V val.length e] w (PutPost ok (partL (P ++ Q) (A ++ z :: C)) key val w) := by
 obtain ⟨adk, ck, adv, cv, adc, cc, As, cs, h1, h2, h3, h4, h5, h6, h7, h8⟩ := hN.data hJ (by have := hL.len; simp at this ⊢; omega)
 have hj100 : (P ++ Q).length ≤ 100 := by have := zDh hL; omega
 have hzl : (A ++ z :: C).length = (P ++ Q).length + 1 := by have := hL.len; simpa using this
 have hzc : (((A ++ z :: C).map (·.1)).getD P.length none) = z.1 := by rw [List.map_append, List.map_cons, List.getD_eq_getElem?_getD, List.getElem?_append_right (by rw [List.length_map, hA]; exact Nat.le_refl _), List.length_map, hA, Nat.sub_self]; rfl
 obtain ⟨pz, hpz⟩ := zBc z.1
 have hcz : w.cell? (adc.add P.length) = some (.pointer pz) := by rw [← hpz]; exact cell_of_C h4.now.row (by rw [List.length_map, List.length_append, List.length_cons, hA]; omega) hzc
 have hT := fun (a b : Option Nat) (la lb : List It) (hz : z.2 = la ++ lb) (hla : zFd la key) (hlb : Above key lb) => put_here (j := ((⟨B, key.length, d⟩, key), (⟨V, val.length, e⟩, val))) (a := a) (b := b) hL hA hs rfl hlv hP hQ hz hla hlb
 have HLN := zAa.mk (hlv.symm.trans rfl)
 have HT := zAa.mk hT
 have hzlen : z.2.length < (partL (P ++ Q) (A ++ z :: C)).length := zGe hL hJ z (by simp)
 have HSP : zAa (Calls Tryz.prog 157 #[.pointer pz, .slice B key.length d] w (SplitPost ok z.2 key w)) := ⟨by
  have := split_any ok B d key hp.b (z.2.length + 1) z.1 z.2 w (Nat.lt_succ_self _) hok (hz z (by simp)) (hi.sub (by omega) (fun x hx => (zDa hL x).2 (.inr ⟨z, by simp, hx⟩))) (kid_sorted hL hs z (by simp)) hk.now.row (fun x hx e => by
   have h9 := hL.below z.2 (by simp) x hx
   rw [e, hlv] at h9
   exact absurd h9 (Nat.lt_irrefl _))
  rw [hpz] at this
  exact this⟩
 obtain ⟨i, hiP⟩ : ∃ i, P.length = i := ⟨_, rfl⟩
 obtain ⟨m, hm⟩ : ∃ m, (P ++ Q).length = m := ⟨_, rfl⟩
 have him : i ≤ m := by rw [← hiP, ← hm]; simp
 rw [hm] at h1 h5 h6 h7 h8 hj100 hzl
 rw [hiP] at hF hA hcz
 have H1 := zAa.mk h1
 have H2 := zAa.mk h2
 have H3 := zAa.mk h3
 have H4 := zAa.mk h4
 have HF := zAa.mk hF
 have HP := zAa.mk hp
 have HL := zAa.mk hL
 have HZ := zAa.mk hz
 have HA := zAa.mk hA
 have HI := zAa.mk (And.intro hi hn)
 have HS := zAa.mk hs
 have HK := zAa.mk hk
 have HV := zAa.mk hv
 have HPQ := zAa.mk (And.intro hP hQ)
 have HM := zAa.mk hm
 have HIP := zAa.mk hiP
 have HZL := zAa.mk hzl
 have HPZ := zAa.mk hpz
 have HOK := zAa.mk hok
 have hgl := zAj h1
 have c0 : w.cell? ⟨g, 0, none⟩ = some (.int .i64 n) := (zAc h1 0).trans rfl
 have t1 : decide ((n : Int) < (zBe key : Int)) = false := df (by omega)
 have t2 : ¬ ((n : Int) < (zBe key : Int)) := by omega
 have t3 : ((n : Int) == (zBe key : Int)) = true := by simp [hlv]
 have hl64 := levelM_le key
 obtain ⟨lv, hlve⟩ : ∃ lv, zBe key = lv := ⟨_, rfl⟩
 have HLE := zAa.mk hlve
 rw [hlve] at hl64 t1 t2 t3 ⊢
 obtain ⟨kl, hkl⟩ : ∃ kl, key.length = kl := ⟨_, rfl⟩
 obtain ⟨vl, hvl⟩ : ∃ vl, val.length = vl := ⟨_, rfl⟩
 rw [hkl] at HF HK HSP HT ⊢
 rw [hvl] at HV HT ⊢
 clear hlve hkl hvl h1 h2 h3 h4 hF hp hL hz hA hi hn hs hk hv hP hQ hm hiP hzl hpz hok hN hJ hzc hT hzlen hlv
 go_enter Tryz.func141, Tryz.ntmps141
 go_wp2_with fail
 refine HF.out.mono ?_
 rintro e1 w1 ⟨rfl, rfl⟩
 obtain ⟨r, hr⟩ : ∃ r, m = i + r := ⟨m - i, by omega⟩
 subst hr
 have hCl : C.length = r := by have h9 := HZL.out; rw [List.length_append, List.length_cons, HA.out] at h9; omega
 have HC := zAa.mk hCl
 clear hCl
 have d3 : w1.cell? ⟨g, 3, none⟩ = some (.slice (some adc) (i + r + 1) cc) := (zAc H1.out 3).trans rfl
 have q1 : (i : Int) < (i : Int) + (r : Int) + 1 := by omega
 have q2 : (0 : Int) ≤ (i : Int) := by omega
 have q3 : (i : Int) ≤ (cc : Int) := by omega
 have q4 : (i : Int) ≤ (i : Int) + (r : Int) + 1 := by omega
 have q5 : (i : Int) + 1 ≤ (cc : Int) := by omega
 have q6 : (i : Int) + 1 ≤ (i : Int) + (r : Int) + 1 := by omega
 have q7 : (0 : Int) ≤ (i : Int) + 1 := by omega
 have q8 : ((i : Int) + 1).toNat = i + 1 := by omega
 have q9 : IntKind.i64.wrap ((i : Int) + 1) = (i : Int) + 1 := IntWalk.i64_in _ (by omega)
 have q10 : (i : Int) + (r : Int) + 1 ≤ (cc : Int) := by omega
 have q11 : i + r + 1 - (i + 1) = r := by omega
 have q12 : i + r + 1 - i = r + 1 := by omega
 obtain ⟨Xc, hXc⟩ : ∃ X, (if cc = i + 1 then some adc else some (⟨adc.block, adc.off + (i + 1), none⟩ : Addr)) = X := ⟨_, rfl⟩
 have HTL : zAa (∀ X, Below w1.heap.size w1 X → Kd.C kP X Xc r (List.map (fun x : Kid => x.1) C)) := ⟨fun X hX => by
  have h4 := (H4.out.keep hX).now
  have ht := (h4.drop (i := i + 1) (by rw [List.length_map, HZL.out]; omega))
  have he : ((A ++ z :: C).map (·.1)).drop (i + 1) = C.map (·.1) := by rw [List.map_append, List.map_cons, ← List.drop_drop, List.drop_left' (by rw [List.length_map, HA.out])]; rfl
  rw [he] at ht
  have := ht.row
  rw [List.length_map, HC.out, Option.map_some, add_succ, hXc] at this
  exact this⟩
 have HCL : zAa (∀ X, Below w1.heap.size w1 X → Kd.C kP X (some adc) i (List.map (fun x : Kid => x.1) A)) := ⟨fun X hX => by
  have h4 := (H4.out.keep hX).now
  have ht := (h4.take (i := i) (c' := cc) (by rw [List.length_map, HZL.out]; omega) (by omega))
  have he : ((A ++ z :: C).map (·.1)).take i = A.map (·.1) := by rw [List.map_append, List.take_left' (by rw [List.length_map, HA.out])]
  rw [he] at ht
  have := ht.row
  rw [List.length_map, HA.out] at this
  exact this⟩
 have HKA : zAa (∀ X β a b p p', Below w1.heap.size w1 X → ptrV a = .pointer p → ptrV b = .pointer p' → X.heap[β + 1]? = some (.cells #[.slice (some adc) i cc, .slice (some ⟨β, 0, none⟩) 2 2, .slice Xc r (cc - (i + 1))] 148 (0, 0)) → X.heap[β]? = some (.cells #[.pointer p, .pointer p'] 110 (0, 0)) → Calls Tryz.prog 161 #[.slice (some ⟨β + 1, 0, none⟩) 3 3] X fun e w' => ∃ v, e = .returned v ∧ Kd.R kP 110 w' X.heap.size (fun _ => True) v (List.map (fun x : Kid => x.1) A ++ a :: b :: List.map (fun x : Kid => x.1) C) ∧ Below X.heap.size X w') := ⟨fun X β a b p p' hX hp hp' h3 h4 => by
  have hAl : (List.map (fun x : Kid => x.1) A).length = i := by rw [List.length_map, HA.out]
  have hCl : (List.map (fun x : Kid => x.1) C).length = r := by rw [List.length_map, HC.out]
  have hr := rowsN (d := kP) (e := 110) (vs := [(some adc, cc), (some ⟨β, 0, none⟩, 2), (Xc, cc - (i + 1))]) (xss := [List.map (fun x : Kid => x.1) A, [a, b], List.map (fun x : Kid => x.1) C]) h3 (by simp [HA.out, HC.out]) rfl (by simp) (fun u hu => by
   simp only [List.zip_cons_cons, List.zip_nil_right, List.mem_cons, List.not_mem_nil, or_false] at hu
   rcases hu with rfl | rfl | rfl
   ·refine ⟨by simp only [hAl]; omega, ?_⟩
    simp only [hAl]
    exact HCL.out X hX
   ·exact ⟨Nat.le_refl _, C_p2 h4 hp hp'⟩
   ·refine ⟨by simp only [hCl]; omega, ?_⟩
    simp only [hCl]
    exact HTL.out X hX)
  have := concatP_any (some ⟨β + 1, 0, none⟩) 3 _ X hr (by simp) (by simp [HA.out, HC.out]; omega)
  simpa using this⟩
 go_upto_region 11 with (go_at_call 157; refine HSP.out.mono ?_; rintro e2 w2 ⟨a, b, la, lb, he, hab, hla, hlb, hpa, hpb, hb2⟩; obtain ⟨pa, hPa⟩ := zBc a; obtain ⟨pb, hPb⟩ := zBc b; rw [hPa, hPb] at he; subst he; have HPA' := zAa.mk hPa; have HPB' := zAa.mk hPb; have HTT := zAa.mk (HT.out a b la lb hab hla hlb); have HPA := zAa.mk hpa; have HPB := zAa.mk hpb; have HB2 := zAa.mk hb2; clear hab hla hlb hpa hpb hb2 hPa hPb HSP HT)
 go_region_held3 (fun w' => w'.cell? ⟨g, 3, none⟩ = some (.slice (some adc) (i + r + 1) cc))
  (first | exact (zAc (zAf H1.out (by with_reducible repeat (first | exact Below.refl _ _ | exact HB2.out | exact HB7.out | exact HB8.out | exact HB9.out | exact HB10.out | exact HB11.out | exact HBa.out | refine zAg ?_ | refine zAb ?_ _))) 3).trans rfl)
  (first
   | (go_at_call 161; refine (HKA.out _ w2.heap.size a b pa pb (by with_reducible repeat (first | exact Below.refl _ _ | exact HB2.out | exact HB7.out | exact HB8.out | exact HB9.out | exact HB10.out | exact HB11.out | exact HBa.out | refine zAg ?_ | refine zAb ?_ _)) HPA'.out HPB'.out (by exact hN3 w2 _ _) (by exact hN2 w2 _)).mono ?_; rintro e3 W7 ⟨v7, rfl, hr, hb⟩; have HR7 := zAa.mk (rl_to (w2 := w2) (by with_reducible repeat (first | exact Below.refl _ _ | refine zAg ?_ | refine zAb ?_ _)) hr); have HB7' := zAa.mk (bl_to (w2 := w2) (by with_reducible repeat (first | exact Below.refl _ _ | refine zAg ?_ | refine zAb ?_ _)) hb); have HB7 := zAa.mk (bl_to HB2.out HB7'.out); clear hr hb; obtain ⟨A7, c7, e7⟩ := Kd.zAk HR7.out; rw [List.length_append, List.length_cons, List.length_cons, List.length_map, List.length_map, HA.out, HC.out, show i + (r + 1 + 1) = i + r + 2 by omega] at e7; subst e7))
 have HF7 := zAa.mk ((PAt_FF HR7.out).mono (fun k hk => HOK.out k (Nat.le_trans HB2.out.size hk)))
 have HPA7 := zAa.mk (HPA.out.keep HB7'.out)
 have HPB7 := zAa.mk (HPB.out.keep HB7'.out)
 clear HR7 HKA HTL HCL HPA HPB HB7' d3
 have hKX : ∀ (F : Jt → Hd × List Int) (a : Addr) (ka : Nat), i + r ≤ ka → FF (fun W => RAt W (some a) ka ((P ++ Q).map F)) ok w1 → ∀ X, Below w1.heap.size w1 X → Calls Tryz.prog 160 #[.slice (some a) (i + r) ka] X fun e w' => ∃ A c, e = .returned (.slice A (i + r) c) ∧ Kd.R kS 47 w' X.heap.size (fun _ => True) (.slice A (i + r) c) (((P ++ Q).map F).map (·.1)) ∧ Below X.heap.size X w' := fun F a ka hka hf X hX => by
  have hrow := (hf.keep hX).now
  have hl : (((P ++ Q).map F).map (·.1)).length = i + r := by rw [List.length_map, List.length_map, HM.out]
  have h9 := cloneS_any (some a) ka (((P ++ Q).map F).map (·.1)) X (by rw [hl]; have := hrow.row; rw [List.length_map, HM.out] at this; exact this) (by rw [hl]; exact hka) (by rw [hl]; omega)
  rw [hl] at h9
  refine h9.mono ?_
  rintro e w' ⟨v, rfl, hr, hb⟩
  obtain ⟨A', c', e1⟩ := Kd.zAk hr
  rw [hl] at e1
  subst e1
  exact ⟨A', c', rfl, hr, hb⟩
 have hIX : ∀ (F : Jt → Hd × List Int) (a : Addr) (ka : Nat) (h : Hd) (l : List Int) (j : Jt), F j = (h, l) → FF (fun W => RAt W (some a) ka ((P ++ Q).map F)) ok w1 → FF (fun W => BAt W h l) ok w1 → ∀ (Y : World) (base β : Nat) (A : Option Addr) (c : Nat), w1.heap.size ≤ base → base ≤ Y.heap.size → Below w1.heap.size w1 Y → Kd.R kS 47 Y base (fun _ => True) (.slice A (i + r) c) (((P ++ Q).map F).map (·.1)) → Y.heap[β]? = some (.cells #[.slice h.A h.n h.c] 47 (0, 0)) → some β ≠ (Value.slice A (i + r) c).ownBlock →
   Calls Tryz.prog 162 #[.slice A (i + r) c, .int .i64 i, .slice (some ⟨β, 0, none⟩) 1 1] Y fun e w' => ∃ A' c', e = .returned (.slice A' (i + r + 1) c') ∧ FF (fun W => RAt W A' c' ((P ++ j :: Q).map F)) ok w' ∧ Below base Y w' ∧ ∀ k, k < Y.heap.size → some k ≠ (Value.slice A (i + r) c).ownBlock → w'.heap[k]? = Y.heap[k]? := fun F a ka h l j hF hf hb Y base β A c hwb hbY hY hr hv hne => by
  have hl : (((P ++ Q).map F).map (·.1)).length = i + r := by rw [List.length_map, List.length_map, HM.out]
  refine (insertS_any Y base A (i + r) c i β _ h hr hl h8 hbY hv hne (by omega) (by omega)).mono ?_
  rintro e w' ⟨A', c', rfl, hr2, hbw, hsm⟩
  have e2 : ((((P ++ Q).map F).map (·.1)).take i ++ h :: (((P ++ Q).map F).map (·.1)).drop i) = ((P ++ j :: Q).map F).map (·.1) := by
   have hPl : ((P.map F).map (·.1)).length = i := by rw [List.length_map, List.length_map, HIP.out]
   rw [List.map_append, List.map_append, List.take_left' hPl, List.drop_left' hPl, List.map_append, List.map_append, List.map_cons, List.map_cons, hF]
  rw [e2] at hr2
  have hW : Below w1.heap.size w1 w' := hY.trans (hbw.mono hwb)
  refine ⟨A', c', rfl, RAt_FF hr2 (fun y hy => ?_) (fun k hk => HOK.out k (Nat.le_trans hwb hk)), hbw, hsm⟩
  rw [List.map_append, List.map_cons] at hy
  rcases List.mem_append.1 hy with hy | hy
  ·exact (hf.keep hW).imp (fun W h => h.b y (by rw [List.map_append]; exact List.mem_append_left _ hy))
  ·rcases List.mem_cons.1 hy with rfl | hy
   ·rw [hF]
    exact hb.keep hW
   ·exact (hf.keep hW).imp (fun W h => h.b y (by rw [List.map_append]; exact List.mem_append_right _ hy))
 have HCK := zAa.mk (hKX (·.1) adk ck h5 H2.out)
 have HCV := zAa.mk (hKX (·.2) adv cv h6 H3.out)
 have HIK := zAa.mk (hIX (·.1) adk ck ⟨B, kl, d⟩ key ((⟨B, kl, d⟩, key), (⟨V, vl, e⟩, val)) rfl H2.out HK.out)
 have HIV := zAa.mk (hIX (·.2) adv cv ⟨V, vl, e⟩ val ((⟨B, kl, d⟩, key), (⟨V, vl, e⟩, val)) rfl H3.out HV.out)
 have HNO : zAa (∀ W A1 c1 A2 c2, Below W7.heap.size W7 W → FF (fun W => RAt W A1 c1 ((P ++ ((⟨B, kl, d⟩, key), (⟨V, vl, e⟩, val)) :: Q).map (·.1))) ok W → FF (fun W => RAt W A2 c2 ((P ++ ((⟨B, kl, d⟩, key), (⟨V, vl, e⟩, val)) :: Q).map (·.2))) ok W → Calls Tryz.prog 158 #[.int .i64 lv, .slice A1 (i + r + 1) c1, .slice A2 (i + r + 1) c2, .slice A7 (i + r + 2) c7] W fun e' w' => ∃ o, e' = .returned (ptrV o) ∧ PartAt ok w' o (partL (P ++ ((⟨B, kl, d⟩, key), (⟨V, vl, e⟩, val)) :: Q) (A ++ (a, la) :: (b, lb) :: C)) ∧ Below W.heap.size W w') := ⟨fun W A1 c1 A2 c2 hW hk hv => by
  have hW1 : Below w1.heap.size w1 W := bl_to HB7.out hW
  refine node_c (zs := A ++ (a, la) :: (b, lb) :: C) (fun k hk => HOK.out k (Nat.le_trans hW1.size hk)) hk hv (fun y hy => ?_) (by have h9 := HTT.out.2; rw [HLN.out, HLE.out] at h9; exact h9) (HI.out.1.put HI.out.2 HP.out HTT.out.1) (by have h9 := HM.out; simp only [List.length_append, List.length_cons] at h9 ⊢; omega) (by simp only [List.length_append, List.length_cons, HA.out, HC.out]; omega) _ _ ?_
  ·rcases List.mem_append.1 hy with hy | hy
   ·exact (HZ.out y (List.mem_append_left _ hy)).keep hW1
   ·rcases List.mem_cons.1 hy with rfl | hy
    ·exact HPA7.out.keep hW
    ·rcases List.mem_cons.1 hy with rfl | hy
     ·exact HPB7.out.keep hW
     ·exact (HZ.out y (List.mem_append_right _ (List.mem_cons_of_mem _ hy))).keep hW1
  ·have := HF7.out.keep hW
   rw [List.map_append, List.map_cons, List.map_cons]
   exact this⟩
 clear hKX hIX
 go_upto_region 12 with fail
 go_region_held3 (fun w' => w'.cell? ⟨g, 1, none⟩ = some (.slice (some adk) (i + r) ck) ∧ w'.cell? ⟨g, 2, none⟩ = some (.slice (some adv) (i + r) cv))
  (first | exact keepO H1.out (by with_reducible repeat (first | exact Below.refl _ _ | exact HB2.out | exact HB7.out | exact HB8.out | exact HB9.out | exact HB10.out | exact HB11.out | exact HBa.out | refine zAg ?_ | refine zAb ?_ _)) rfl rfl)
  (first
   | (go_at_call_of 160 (Value.slice (some adk) (i + r) ck); refine (HCK.out _ (by with_reducible repeat (first | exact Below.refl _ _ | exact HB2.out | exact HB7.out | exact HB8.out | exact HB9.out | exact HB10.out | exact HB11.out | exact HBa.out | refine zAg ?_ | refine zAb ?_ _))).mono ?_; rintro e8 W8 ⟨A8, c8, rfl, hr, hb⟩; have HO8 := zAa.mk (own_in hr); have HS8 := zAa.mk hb; have HR8 := zAa.mk (rl_to (w2 := W7) (by with_reducible repeat (first | exact Below.refl _ _ | refine zAg ?_ | refine zAb ?_ _)) hr); have HB8' := zAa.mk (bl_to (w2 := W7) (by with_reducible repeat (first | exact Below.refl _ _ | refine zAg ?_ | refine zAb ?_ _)) hb); have HB8 := zAa.mk (bl_to HB7.out HB8'.out); clear hr hb)
   | (go_at_call 162; refine (HIV.out _ W9.heap.size _ A10 c10 (bl_to HB7.out HB9'.out).size (by have h9 := HB10''.out.size; (try simp); omega) (by with_reducible repeat (first | exact Below.refl _ _ | exact HB2.out | exact HB7.out | exact HB8.out | exact HB9.out | exact HB10.out | exact HB11.out | exact HBa.out | refine zAg ?_ | refine zAb ?_ _)) (by first | exact HR10.out | exact Kd.zEb HR10.out _) (by with_reducible first | exact hN1 W10 _ | exact blk_b HS10.out (hN1 W9 _) | exact blk_b HS10.out (hD1 W9 _) | exact blk_b HS10.out (blk_s HSM.out (fun e => by have h9 := HO8.out _ e.symm; (first | omega | (simp at h9; omega) | (simp at h9; done))) (by with_reducible first | exact hN1 W8 _ | exact hN2 W8 _ | exact hN3 W8 _ _ | exact blk_b HS8.out (hD1 W7 _) | exact blk_b HS8.out (hD2 W7 _) | exact blk_b HS8.out (hD3 W7 _ _) | exact zAi (blk_b HS8.out (hD1 W7 _)) _ | exact zAi (blk_b HS8.out (hD2 W7 _)) _ | exact zAi (blk_b HS8.out (hD3 W7 _ _)) _))) (fun e => by have h9 := HO10.out _ e.symm; (first | omega | (simp at h9; omega) | (simp at h9; done) | (have h10 := HZ9.out; have h11 := HS8.out.size; simp at h9 h10 h11; omega) | (have h10 := HZ9.out; simp at h9 h10; omega) | (have h10 := HZ9.out; have h11 := HS8.out.size; (try simp at h9); (try simp at h10); (try simp at h11); omega)))).mono ?_; rintro e11 W11 ⟨A11, c11, rfl, hf, hb, -⟩; have HF11 := zAa.mk hf; have HB11'' := zAa.mk (bl_b (w2 := W9) (by repeat (first | exact HB10''.out | refine zAg ?_ | refine zAb ?_ _)) hb); have HB11' := zAa.mk (bl_to HB9'.out HB11''.out); have HB11 := zAa.mk (bl_to HB7.out HB11'.out); clear hf hb)
   | (go_at_call 162; refine (HIK.out _ W7.heap.size _ A8 c8 HB7.out.size (by have h9 := HB8'.out.size; (try simp); omega) (by with_reducible repeat (first | exact Below.refl _ _ | exact HB2.out | exact HB7.out | exact HB8.out | exact HB9.out | exact HB10.out | exact HB11.out | exact HBa.out | refine zAg ?_ | refine zAb ?_ _)) (by first | exact HR8.out | exact Kd.zEb HR8.out _ | exact Kd.zEb (Kd.zEb HR8.out _) _) (by with_reducible first | exact hN1 W8 _ | exact hN2 W8 _ | exact hN3 W8 _ _ | exact blk_b HS8.out (hD1 W7 _) | exact blk_b HS8.out (hD2 W7 _) | exact blk_b HS8.out (hD3 W7 _ _) | exact zAi (blk_b HS8.out (hD1 W7 _)) _ | exact zAi (blk_b HS8.out (hD2 W7 _)) _ | exact zAi (blk_b HS8.out (hD3 W7 _ _)) _) (fun e => by have h9 := HO8.out _ e.symm; (first | omega | (simp at h9; omega) | (simp at h9; done)))).mono ?_; rintro e9 W9 ⟨A9, c9, rfl, hf, hb, hsm⟩; have HF9 := zAa.mk hf; have HSM := zAa.mk hsm; have HZ9 := zAa.mk hb.size; have HB9' := zAa.mk (bl_b (w2 := W7) (by repeat (first | exact HB8'.out | refine zAg ?_ | refine zAb ?_ _)) hb); have HB9 := zAa.mk (bl_to HB7.out HB9'.out); clear hf hb hsm)
   | (go_at_call_of 160 (Value.slice (some adv) (i + r) cv); refine (HCV.out _ (by with_reducible repeat (first | exact Below.refl _ _ | exact HB2.out | exact HB7.out | exact HB8.out | exact HB9.out | exact HB10.out | exact HB11.out | exact HBa.out | refine zAg ?_ | refine zAb ?_ _))).mono ?_; rintro e10 W10 ⟨A10, c10, rfl, hr, hb⟩; have HO10 := zAa.mk (own_in hr); have HS10 := zAa.mk hb; have HR10 := zAa.mk (rl_to (w2 := W9) (by with_reducible repeat (first | exact Below.refl _ _ | refine zAg ?_ | refine zAb ?_ _)) hr); have HB10'' := zAa.mk (bl_to (w2 := W9) (by with_reducible repeat (first | exact Below.refl _ _ | refine zAg ?_ | refine zAb ?_ _)) hb); have HB10' := zAa.mk (bl_to HB9'.out HB10''.out); have HB10 := zAa.mk (bl_to HB7.out HB10'.out); clear hr hb)
   | (go_at_call 158; refine (HNO.out _ A9 c9 A11 c11 HB11'.out (HF9.out.keep HB11''.out) HF11.out).mono ?_; rintro e12 Wa ⟨oa, he, hpx, hb⟩; obtain ⟨pp, hpp⟩ := zBc oa; rw [hpp] at he; subst he; have HPa' := zAa.mk hpp; have HPa := zAa.mk hpx; have HBa := zAa.mk (bl_to HB11.out hb); clear hpx hb hpp))
 all_goals
  go_wp2_with fail
  go_ret
  exact ⟨oa, _, by rw [HPa'.out]; rfl, HTT.out.1, HPa.out, HBa.out⟩
end Go.Proofs.YtpckachmleonlaaGreatDoor
end
section
set_option linter.unusedVariables false
set_option linter.unusedSimpArgs false
namespace Go.Proofs.YtpckachmleonlaaGreatDoor
open Go.RowKit Go.Proofs.YtpckachmleonlaaGreatDoorW.PrintWords
set_option maxHeartbeats 2000000 in
set_option maxRecDepth 100000 in
theorem put_any (B V : Option Addr) (d e : Nat) (key val : List Int) (hp : PutI key val) : ∀ N, PutC B V d e key val N
  | 0 => fun _ _ _ _ h => absurd h (Nat.not_lt_zero _)
  | N + 1 => fun ok o l w hN hok hpt hi hn hs hk hv => by
    have IH := put_any B V d e key val hp N
    rcases hpt.inv with ⟨rfl, rfl⟩ | ⟨g, n, js, zs, rfl, rfl, hNI, hL, hJ, hz⟩
    · exact put_lo0 ok B V d e key val hp [] w hok hpt hi hn hs hk hv (fun x hx => by simp at hx)
    · by_cases hlv : n < zBe key
      · obtain ⟨adk, ck, adv, cv, adc, cc, As, cs, h1, -⟩ := hNI.data hJ (by have := hL.len; simpa using this)
        exact put_lo1 ok B V d e key val hp g n _ _ w hok hpt hi hn hs hk hv (fun x hx => Nat.lt_of_le_of_lt (lv_le hL x hx) hlv) h1 rfl hlv
      · have hjk : Sorted (js.map Jt.it) := inter_keys (l := []) hL.len hs
        have hjm : ∀ j ∈ js, j.it ∈ partL js zs := fun j hj => (zDa hL _).2 (.inl (List.mem_map_of_mem hj))
        have hj100 : js.length ≤ 100 := by have := zDh hL; omega
        obtain ⟨i, b, hF, hC⟩ := find_at ok g n js _ _ _ B d key w hNI hjk (by omega) hk.now.row (fun j hj => (hi.k _ (hjm j hj)).2.2) hp.b
        have hzl : zs.length = js.length + 1 := by have := hL.len; simpa using this
        cases hF with
        | @there P Q q he hq hPb hQa =>
          subst he
          obtain ⟨A, z, C, rfl, hA⟩ := kids_at (zs := zs) (i := P.length) (by rw [hzl]; simp; omega)
          exact put_is_w ok B V d e key val hp g n P Q q A C z w hok hNI hL hJ hz hA hi hn hs hk hv hPb hQa hC hq
        | @not_ P Q he hPb hQa =>
          subst he
          obtain ⟨A, z, C, rfl, hA⟩ := kids_at (zs := zs) (i := P.length) (by rw [hzl]; simp; omega)
          rcases Nat.lt_or_ge (zBe key) n with hlt | hge
          · exact put_down_w ok B V d e key val hp g n P Q A C z w hok hNI hL hJ hz hA hi hn hs hk hv hPb hQa hC hlt N IH hN
          · exact put_here_w ok B V d e key val hp g n P Q A C z w hok hNI hL hJ hz hA hi hn hs hk hv hPb hQa hC (by omega)
end Go.Proofs.YtpckachmleonlaaGreatDoor
end
section
set_option linter.unusedVariables false
set_option linter.unusedSimpArgs false
namespace Go.Proofs.YtpckachmleonlaaGreatDoor
open Go.RowKit Go.Proofs.YtpckachmleonlaaGreatDoorW.PrintWords
theorem ItOk.less {l la lb l' : List It} {x : It} (h : ItOk l) (e : l = la ++ x :: lb) (e2 : l' = la ++ lb) : ItOk l' := by
  subst e2
  refine h.sub (by rw [e]; simp) (fun y hy => ?_)
  rw [e]
  rcases List.mem_append.1 hy with hy | hy
  · simp [hy]
  · simp [hy]
def DelPost (ok : Nat → Prop) (l : List It) (key : List Int) (w : World) (e : Ending) (w' : World) : Prop := ∃ o la x lb, e = .returned (ptrV o) ∧ l = la ++ x :: lb ∧ x.1 = key ∧ PartAt ok w' o (la ++ lb) ∧ Below w.heap.size w w'
def DelC (B : Option Addr) (d : Nat) (key : List Int) (N : Nat) : Prop := ∀ (ok : Nat → Prop) (o : Option Nat) (l : List It) (w : World), l.length < N → (∀ k, w.heap.size ≤ k → ok k) → PartAt ok w o l → ItOk l → Sorted l → kB.C w B key.length key → (∃ x ∈ l, x.1 = key) → Calls Tryz.prog 154 #[ptrV o, .slice B key.length d] w (DelPost ok l key w)
set_option maxHeartbeats 8000000 in
set_option maxRecDepth 100000 in
theorem del_down_w (ok : Nat → Prop) (B : Option Addr) (d : Nat) (key : List Int) (g n : Nat) (P Q : List Jt) (A C : List Kid) (z : Kid) (w : World) (hok : ∀ k, w.heap.size ≤ k → ok k)
    (hN : zEa ok w g n (P ++ Q) ((A ++ z :: C).map (·.1)) (hashT (partL (P ++ Q) (A ++ z :: C))) (partL (P ++ Q) (A ++ z :: C)).length) (hL : LvOk n ((A ++ z :: C).map (·.2)) ((P ++ Q).map Jt.it)) (hJ : P ++ Q ≠ []) (hz : ∀ y ∈ A ++ z :: C, PartAt ok w y.1 y.2) (hA : A.length = P.length)
    (hi : ItOk (partL (P ++ Q) (A ++ z :: C))) (hs : Sorted (partL (P ++ Q) (A ++ z :: C))) (hk : kB.C w B key.length key) (hin : ∃ x ∈ z.2, x.1 = key) (N : Nat) (IH : DelC B d key N) (hNl : (partL (P ++ Q) (A ++ z :: C)).length < N + 1)
    (hF : Calls Tryz.prog 159 #[.pointer (some ⟨g, 0, none⟩), .slice B key.length d] w fun e w' => e = .returned (.tuple #[.int .i64 P.length, .bool false]) ∧ w' = w) :
    Calls Tryz.prog 154 #[.pointer (some ⟨g, 0, none⟩), .slice B key.length d] w (DelPost ok (partL (P ++ Q) (A ++ z :: C)) key w) := by
  obtain ⟨adk, ck, adv, cv, adc, cc, As, cs, h1, h2, h3, h4, h5, h6, h7, h8⟩ := hN.data hJ (by have := hL.len; simp at this ⊢; omega)
  have hj100 : (P ++ Q).length ≤ 100 := by have := zDh hL; have := hi.n; omega
  have hzl : (A ++ z :: C).length = (P ++ Q).length + 1 := by have := hL.len; simpa using this
  obtain ⟨pz, hpz⟩ := zBc z.1
  have hzlen : z.2.length < (partL (P ++ Q) (A ++ z :: C)).length := zGe hL hJ z (by simp)
  have HRE : zAa (∀ X, Below w.heap.size w X → Calls Tryz.prog 154 #[.pointer pz, .slice B key.length d] X (DelPost (okM ok w.heap.size X.heap.size) z.2 key X)) := ⟨fun X hX => by
    have := IH (okM ok w.heap.size X.heap.size) z.1 z.2 X (by omega) (fun k hk => .inr hk) ((hz z (by simp)).mid hX) (hi.sub (by omega) (fun x hx => (zDa hL x).2 (.inr ⟨z, by simp, hx⟩))) (kid_sorted hL hs z (by simp)) (Kd.zBb hk hX) hin
    rw [hpz] at this
    exact this⟩
  have hT := fun (o : Option Nat) (l1 l2 : List It) (x : It) (h : z.2 = l1 ++ x :: l2) => del_down (o := o) hL hA h
  have HT := zAa.mk hT
  obtain ⟨i, hiP⟩ : ∃ i, P.length = i := ⟨_, rfl⟩
  obtain ⟨m, hm⟩ : ∃ m, (P ++ Q).length = m := ⟨_, rfl⟩
  have him : i ≤ m := by rw [← hiP, ← hm]; simp
  rw [hm] at h1 h5 h6 h7 h8 hj100 hzl
  rw [hiP] at hF hA
  have H1 := zAa.mk h1
  have H2 := zAa.mk h2
  have H3 := zAa.mk h3
  have H4 := zAa.mk h4
  have HF := zAa.mk hF
  have HL := zAa.mk hL
  have HZ := zAa.mk hz
  have HA := zAa.mk hA
  have HI := zAa.mk hi
  have HM := zAa.mk hm
  have HZL := zAa.mk hzl
  have HPZ := zAa.mk hpz
  have HOK := zAa.mk hok
  have hgl := zAj h1
  obtain ⟨kl, hkl⟩ : ∃ kl, key.length = kl := ⟨_, rfl⟩
  rw [hkl] at HF HRE ⊢
  have d3 : w.cell? ⟨g, 3, none⟩ = some (.slice (some adc) (m + 1) cc) := (zAc h1 3).trans rfl
  have hzl2 : ((A ++ z :: C).map (·.1)).length = m + 1 := by rw [List.length_map, hzl]
  have HCV := zAa.mk (cloneP_any (some adc) cc ((A ++ z :: C).map (·.1)) w h4.now.row (by rw [hzl2]; exact h7) (by rw [hzl2]; omega))
  rw [hzl2] at HCV
  clear hkl h1 h2 h3 h4 hF hL hz hA hi hs hk hm hiP hzl hpz hok hN hJ hT hin IH hNl hzlen
  go_enter Tryz.func154, Tryz.ntmps154
  go_wp2_with fail
  refine HF.out.mono ?_
  rintro e1 w1 ⟨rfl, rfl⟩
  go_wp2_with fail
  refine HCV.out.mono ?_
  rintro e3 w3 ⟨v3, rfl, hr, hb⟩
  obtain ⟨A3, c3, e3⟩ := Kd.zAk hr
  rw [hzl2] at e3
  subst e3
  obtain ⟨g3, C3, rfl, b1, b2, b3, b4, b5, b6⟩ := own_block hr (by omega)
  have hql : ((A ++ z :: C).map (·.1))[i]? = some z.1 := by rw [List.map_append, List.getElem?_append_right (by rw [List.length_map, HA.out]; exact Nat.le_refl _), List.length_map, HA.out, Nat.sub_self]; rfl
  have c7 : w3.cell? ⟨g3, i, none⟩ = some (.pointer pz) := by rw [← HPZ.out]; exact (zAc b1 i).trans (b6 i _ hql)
  have l7 := zAj b1
  have k1 : (i : Int) < (m : Int) + 1 := by omega
  have HB3 := zAa.mk hb
  have HG3 := zAa.mk b1
  have HC3 := zAa.mk b6
  have HW3 := zAa.mk (And.intro b2 (And.intro b4 b5))
  clear hr hb b1 b2 b3 b4 b5 b6 hql HCV hzl2
  go_wp2_with fail
  refine (HRE.out w3 HB3.out).mono ?_
  rintro e4 w4 ⟨o4, l1, x4, l2, he, hpl, hx4, hpp, hb⟩
  obtain ⟨p4, hp4⟩ := zBc o4
  rw [hp4] at he
  subst he
  have HP4' := zAa.mk hp4
  have HPL := zAa.mk (HT.out o4 l1 l2 x4 hpl)
  have HX4 := zAa.mk hx4
  have HPP := zAa.mk hpp
  have hG4 := zAf HG3.out hb
  have c8 : w4.cell? ⟨g3, i, none⟩ = some (.pointer pz) := (zAc hG4 i).trans ((zAc HG3.out i).symm.trans c7)
  have f8 := zAd hG4 i
  have l8 := zAj hG4
  have HG4 := zAa.mk hG4
  have HB4 := zAa.mk (bl_to HB3.out hb)
  have HL7 : zAa (g3 < w3.heap.size) := ⟨l7⟩
  clear hpl hpp hb hG4 hp4 c7 l7 hx4
  have HB5 : zAa (Below w1.heap.size w1 (w4.setCell ⟨g3, i, none⟩ (.pointer p4))) := ⟨HB4.out.setCell HW3.out.1 _⟩
  have HPT : zAa (PartAt ok (w4.setCell ⟨g3, i, none⟩ (.pointer p4)) o4 (l1 ++ l2)) := ⟨(HPP.out.step (w' := w4.setCell ⟨g3, i, none⟩ (.pointer p4)) (fun k hk _ => Below.heap_setCell w4 ⟨g3, i, none⟩ (.pointer p4) k (fun e => by
    have h8 : k = g3 := e
    have h9 := HL7.out
    have h10 := HW3.out.1
    rcases hk with ⟨_, h7⟩ | h7 <;> omega))).unmid HOK.out HB3.out.size⟩
  have HV5 : zAa (FF (fun W => PAt W (some ⟨g3, 0, none⟩) c3 ((A ++ (o4, l1 ++ l2) :: C).map (·.1))) ok (w4.setCell ⟨g3, i, none⟩ (.pointer p4))) := ⟨by
    have hln : ((A ++ (o4, l1 ++ l2) :: C).map (·.1)).length = m + 1 := by have h9 := HZL.out; simp only [List.length_map, List.length_append, List.length_cons] at h9 ⊢; omega
    refine rowP_FF (zBh HG4.out i (.pointer p4)) (fun j y hy => ?_) (by rw [hln]; exact HW3.out.2.1) (by rw [hln]; omega) (HOK.out _ HW3.out.1)
    rw [Array.getElem?_setIfInBounds]
    rw [List.map_append, List.map_cons] at hy
    by_cases hij : i = j
    · subst hij
      rw [if_pos rfl, if_pos (by have := HW3.out.2.2; omega)]
      rw [List.getElem?_append_right (by rw [List.length_map, HA.out]; exact Nat.le_refl _), List.length_map, HA.out, Nat.sub_self] at hy
      injection hy with hy
      rw [← hy, HP4'.out]
    · rw [if_neg hij]
      refine HC3.out j y ?_
      rw [List.map_append, List.map_cons]
      rcases Nat.lt_or_ge j i with h9 | h9
      · rw [List.getElem?_append_left (by rw [List.length_map, HA.out]; exact h9)] at hy ⊢
        exact hy
      · rw [List.getElem?_append_right (by rw [List.length_map, HA.out]; exact h9), List.length_map, HA.out] at hy ⊢
        obtain ⟨x, hx⟩ : ∃ x, j - i = x + 1 := ⟨j - i - 1, by omega⟩
        rw [hx] at hy ⊢
        exact hy⟩
  have HNO : zAa (∀ W, Below (w4.setCell ⟨g3, i, none⟩ (.pointer p4)).heap.size (w4.setCell ⟨g3, i, none⟩ (.pointer p4)) W → Calls Tryz.prog 158 #[.int .i64 n, .slice (some adk) m ck, .slice (some adv) m cv, .slice (some ⟨g3, 0, none⟩) (m + 1) c3] W fun e' w' => ∃ o, e' = .returned (ptrV o) ∧ PartAt ok w' o (partL (P ++ Q) (A ++ (o4, l1 ++ l2) :: C)) ∧ Below W.heap.size W w') := ⟨fun W hW => by
    have hW1 : Below w1.heap.size w1 W := bl_to HB5.out hW
    exact node_c (zs := A ++ (o4, l1 ++ l2) :: C) (fun k hk => HOK.out k (Nat.le_trans hW1.size hk)) (H2.out.keep hW1) (H3.out.keep hW1) (fun y hy => by
      rcases List.mem_append.1 hy with hy | hy
      · exact (HZ.out y (List.mem_append_left _ hy)).keep hW1
      · rcases List.mem_cons.1 hy with rfl | hy
        · exact HPT.out.keep hW
        · exact (HZ.out y (List.mem_append_right _ (List.mem_cons_of_mem _ hy))).keep hW1) HPL.out.2.2 (HI.out.less HPL.out.1 HPL.out.2.1) HM.out (by have h9 := HZL.out; simp only [List.length_append, List.length_cons] at h9 ⊢; omega) _ _ (HV5.out.keep hW)⟩
  clear HV5 HPT HPP
  go_upto_region 5 with fail
  generalize w4.setCell ⟨g3, i, none⟩ (.pointer p4) = w5 at HB5 HNO ⊢
  go_region_held3 (fun w' => w'.cell? ⟨g, 0, none⟩ = some (.int .i64 n) ∧ w'.cell? ⟨g, 1, none⟩ = some (.slice (some adk) m ck) ∧ w'.cell? ⟨g, 2, none⟩ = some (.slice (some adv) m cv))
    (first | exact keepN H1.out (by with_reducible repeat (first | exact Below.refl _ _ | exact HBx.out | exact HB3.out | exact HB4.out | exact HB5.out | exact HB7.out | exact HB8.out | exact HB9.out | exact HB10.out | exact HB11.out | exact HBa.out | refine zAg ?_ | refine zAb ?_ _)) rfl rfl rfl)
    (first
      | (go_at_call 158; refine (HNO.out _ (by with_reducible repeat (first | exact Below.refl _ _ | refine zAg ?_ | refine zAb ?_ _))).mono ?_; rintro e8 Wa ⟨oa, he, hpx, hb⟩; obtain ⟨pa, hpa⟩ := zBc oa; rw [hpa] at he; subst he; have HPa' := zAa.mk hpa; have HPa := zAa.mk hpx; have HBa := zAa.mk (bl_to (X := w5.drew) (zAg HB5.out) hb); clear hpx hb hpa))
  go_wp2_with fail
  go_ret
  exact ⟨oa, _, x4, _, by rw [HPa'.out]; rfl, HPL.out.1, HX4.out, by have h9 := HPa.out; rw [HPL.out.2.1] at h9; exact h9, HBa.out⟩
end Go.Proofs.YtpckachmleonlaaGreatDoor
end
