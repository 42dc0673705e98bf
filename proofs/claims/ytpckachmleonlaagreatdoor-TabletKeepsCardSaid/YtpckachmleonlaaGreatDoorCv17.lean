/- Words and walks for Split and Tablet: texts of these sessions, and of the kit's print, cut down to what is used (C2 D2). -/
import Derived.Test.YtpckachmleonlaaGreatDoorCv16
section
set_option linter.unusedVariables false
set_option linter.unusedSimpArgs false
namespace Go.Proofs.YtpckachmleonlaaGreatDoor
open Go.RowKit Go.Proofs.YtpckachmleonlaaGreatDoorW.PrintWords
theorem keepM {w W : World} {g : Nat} {C : Array Value} {c0 c1 c3 : Value} (h : w.heap[g]? = some (.cells C 150 (0, 0))) (hb : Below w.heap.size w W) (e0 : C[0]? = some c0) (e1 : C[1]? = some c1) (e3 : C[3]? = some c3) :
    W.cell? ⟨g, 0, none⟩ = some c0 ∧ W.cell? ⟨g, 1, none⟩ = some c1 ∧ W.cell? ⟨g, 3, none⟩ = some c3 :=
  ⟨(zAc (zAf h hb) 0).trans e0, (zAc (zAf h hb) 1).trans e1, (zAc (zAf h hb) 3).trans e3⟩
set_option maxHeartbeats 8000000 in
set_option maxRecDepth 100000 in
theorem put_is_w (ok : Nat → Prop) (B V : Option Addr) (d e : Nat) (key val : List Int) (hp : PutI key val) (g n : Nat) (P Q : List Jt) (q : Jt) (A C : List Kid) (z : Kid) (w : World) (hok : ∀ k, w.heap.size ≤ k → ok k)
    (hN : zEa ok w g n (P ++ q :: Q) ((A ++ z :: C).map (·.1)) (hashT (partL (P ++ q :: Q) (A ++ z :: C))) (partL (P ++ q :: Q) (A ++ z :: C)).length) (hL : LvOk n ((A ++ z :: C).map (·.2)) ((P ++ q :: Q).map Jt.it)) (hJ : P ++ q :: Q ≠ []) (hz : ∀ y ∈ A ++ z :: C, PartAt ok w y.1 y.2) (hA : A.length = P.length)
    (hi : ItOk (partL (P ++ q :: Q) (A ++ z :: C))) (hn : (partL (P ++ q :: Q) (A ++ z :: C)).length < 100) (hs : Sorted (partL (P ++ q :: Q) (A ++ z :: C))) (hk : FF (fun W => BAt W ⟨B, key.length, d⟩ key) ok w) (hv : FF (fun W => BAt W ⟨V, val.length, e⟩ val) ok w)
    (hP : zFd (P.map Jt.it) key) (hQ : Above key (Q.map Jt.it)) (hF : Calls Tryz.prog 159 #[.pointer (some ⟨g, 0, none⟩), .slice B key.length d] w fun e w' => e = .returned (.tuple #[.int .i64 P.length, .bool true]) ∧ w' = w) (hq : q.1.2 = key) :
    Calls Tryz.prog 141 #[.pointer (some ⟨g, 0, none⟩), .int .i64 (zBe key), .slice B key.length d, .slice V val.length e] w (PutPost ok (partL (P ++ q :: Q) (A ++ z :: C)) key val w) := by
  obtain ⟨adk, ck, adv, cv, adc, cc, As, cs, h1, h2, h3, h4, h5, h6, h7, h8⟩ := hN.data hJ (by have := hL.len; simp at this ⊢; omega)
  have hj100 : (P ++ q :: Q).length ≤ 100 := by have := zDh hL; omega
  have hzl : (A ++ z :: C).length = (P ++ q :: Q).length + 1 := by have := hL.len; simpa using this
  have hzc : (((A ++ z :: C).map (·.1)).getD P.length none) = z.1 := by rw [List.map_append, List.map_cons, List.getD_eq_getElem?_getD, List.getElem?_append_right (by rw [List.length_map, hA]; exact Nat.le_refl _), List.length_map, hA, Nat.sub_self]; rfl
  obtain ⟨pz, hpz⟩ := zBc z.1
  have hcz : w.cell? (adc.add P.length) = some (.pointer pz) := by rw [← hpz]; exact cell_of_C h4.now.row (by rw [List.length_map, List.length_append, List.length_cons, hA]; omega) hzc
  have hqn : zBe key = n := by
    have := hL.keys q.it (by simp)
    rw [show q.it.1 = q.1.2 from rfl, hq] at this
    exact this
  have hT := put_is (j := (q.1, (⟨V, val.length, e⟩, val))) hL hA hs hq (show Jt.it (q.1, (⟨V, val.length, e⟩, val)) = (key, val) by rw [← hq]; rfl) hP hQ
  have HT := zAa.mk hT
  obtain ⟨i, hiP⟩ : ∃ i, P.length = i := ⟨_, rfl⟩
  obtain ⟨m, hm⟩ : ∃ m, (P ++ q :: Q).length = m := ⟨_, rfl⟩
  have him : i < m := by rw [← hiP, ← hm]; simp
  rw [hm] at h1 h5 h6 h7 h8 hj100 hzl
  rw [hiP] at hF hA hcz
  have H1 := zAa.mk h1
  have H2 := zAa.mk h2
  have H3 := zAa.mk h3
  have H4 := zAa.mk h4
  have HF := zAa.mk hF
  have HP := zAa.mk hp
  have HL := zAa.mk hL
  have HZ := zAa.mk hz
  have HA := zAa.mk hA
  have HI := zAa.mk (And.intro hi hn)
  have HS := zAa.mk hs
  have HK := zAa.mk hk
  have HV := zAa.mk hv
  have HPQ := zAa.mk (And.intro hP hQ)
  have HM := zAa.mk hm
  have HIP := zAa.mk hiP
  have HZL := zAa.mk hzl
  have HPZ := zAa.mk hpz
  have HOK := zAa.mk hok
  have hgl := zAj h1
  have c0 : w.cell? ⟨g, 0, none⟩ = some (.int .i64 n) := (zAc h1 0).trans rfl
  have t1 : decide ((n : Int) < (zBe key : Int)) = false := df (by omega)
  have t2 : ¬ ((n : Int) < (zBe key : Int)) := by omega
  have hl64 := levelM_le key
  obtain ⟨lv, hlve⟩ : ∃ lv, zBe key = lv := ⟨_, rfl⟩
  have HLE := zAa.mk hlve
  rw [hlve] at hl64 t1 t2 ⊢
  obtain ⟨kl, hkl⟩ : ∃ kl, key.length = kl := ⟨_, rfl⟩
  obtain ⟨vl, hvl⟩ : ∃ vl, val.length = vl := ⟨_, rfl⟩
  rw [hkl] at HF HK ⊢
  rw [hvl] at HV HT ⊢
  clear hlve hkl hvl h1 h2 h3 h4 hF hp hL hz hA hi hn hs hk hv hP hQ hm hiP hzl hpz hok hN hJ hzc hT hqn hq
  go_enter Tryz.func141, Tryz.ntmps141
  go_wp2_with fail
  refine HF.out.mono ?_
  rintro e1 w1 ⟨rfl, rfl⟩
  have d2 : w1.cell? ⟨g, 2, none⟩ = some (.slice (some adv) m cv) := (zAc H1.out 2).trans rfl
  have HCV := zAa.mk (cloneS_any (some adv) cv (((P ++ q :: Q).map (·.2)).map (·.1)) w1 (by have := H3.out.now.row; rw [List.length_map] at this ⊢; rw [List.length_map]; exact this) (by rw [List.length_map, List.length_map, HM.out]; exact h6) (by rw [List.length_map, List.length_map, HM.out]; omega))
  rw [List.length_map, List.length_map, HM.out] at HCV
  go_wp2_with fail
  refine HCV.out.mono ?_
  rintro e3 w3 ⟨v3, rfl, hr, hb⟩
  obtain ⟨A3, c3, e3⟩ := Kd.zAk hr
  rw [List.length_map, List.length_map, HM.out] at e3
  subst e3
  obtain ⟨g3, C3, rfl, b1, b2, b3, b4, b5, b6⟩ := own_block hr h8
  have hql : (((P ++ q :: Q).map (·.2)).map (·.1))[i]? = some q.2.1 := by rw [List.map_append, List.map_append, List.getElem?_append_right (by rw [List.length_map, List.length_map, HIP.out]; exact Nat.le_refl _), List.length_map, List.length_map, HIP.out, Nat.sub_self]; rfl
  have c7 : w3.cell? ⟨g3, i, none⟩ = some q.2.1.v := (zAc b1 i).trans (b6 i _ hql)
  have f7 := zAd b1 i
  have l7 := zAj b1
  have k1 : (i : Int) < (m : Int) := by omega
  have HB3 := zAa.mk hb
  have HG3 := zAa.mk b1
  have HC3 := zAa.mk b6
  have HW3 := zAa.mk b2
  have HB4 : zAa (Below w1.heap.size w1 (w3.setCell ⟨g3, i, none⟩ (.slice V vl e))) := ⟨hb.setCell b2 _⟩
  have HV4 : zAa (FF (fun W => RAt W (some ⟨g3, 0, none⟩) c3 ((P ++ (q.1, (⟨V, vl, e⟩, val)) :: Q).map (·.2))) ok (w3.setCell ⟨g3, i, none⟩ (.slice V vl e))) := ⟨by
    refine rowH_FF (zBh b1 i (.slice V vl e)) (fun j y hy => ?_) (by rw [List.length_map, List.length_append, List.length_cons]; have h9 := HM.out; rw [List.length_append, List.length_cons] at h9; omega) (by rw [List.length_map, List.length_append, List.length_cons]; have h9 := HM.out; rw [List.length_append, List.length_cons] at h9; omega) (fun y hy => ?_) (HOK.out _ b2)
    · rw [Array.getElem?_setIfInBounds]
      rw [List.map_append, List.map_cons] at hy
      by_cases hij : i = j
      · subst hij
        rw [if_pos rfl, if_pos (by omega)]
        rw [List.getElem?_append_right (by rw [List.length_map, HIP.out]; exact Nat.le_refl _), List.length_map, HIP.out, Nat.sub_self] at hy
        injection hy with hy
        rw [← hy]
        rfl
      · rw [if_neg hij]
        refine b6 j y.1 ?_
        rw [List.getElem?_map, List.map_append, List.map_cons]
        have : (P.map (·.2) ++ q.2 :: Q.map (·.2))[j]? = some y := by
          rcases Nat.lt_or_ge j i with h9 | h9
          · rw [List.getElem?_append_left (by rw [List.length_map, HIP.out]; exact h9)] at hy ⊢
            exact hy
          · rw [List.getElem?_append_right (by rw [List.length_map, HIP.out]; exact h9), List.length_map, HIP.out] at hy ⊢
            obtain ⟨x, hx⟩ : ∃ x, j - i = x + 1 := ⟨j - i - 1, by omega⟩
            rw [hx] at hy ⊢
            exact hy
        rw [this]
        rfl
    · rw [List.map_append, List.map_cons] at hy
      rcases List.mem_append.1 hy with hy | hy
      · exact (H3.out.keep HB4.out).imp (fun W h => h.b y (by rw [List.map_append]; exact List.mem_append_left _ hy))
      · rcases List.mem_cons.1 hy with rfl | hy
        · exact HV.out.keep HB4.out
        · exact (H3.out.keep HB4.out).imp (fun W h => h.b y (by rw [List.map_append, List.map_cons]; exact List.mem_append_right _ (List.mem_cons_of_mem _ hy)))⟩
  have HNO : zAa (∀ W, Below (w3.setCell ⟨g3, i, none⟩ (.slice V vl e)).heap.size (w3.setCell ⟨g3, i, none⟩ (.slice V vl e)) W → Calls Tryz.prog 158 #[.int .i64 n, .slice (some adk) m ck, .slice (some ⟨g3, 0, none⟩) m c3, .slice (some adc) (m + 1) cc] W fun e' w' => ∃ o, e' = .returned (ptrV o) ∧ PartAt ok w' o (partL (P ++ (q.1, (⟨V, vl, e⟩, val)) :: Q) (A ++ z :: C)) ∧ Below W.heap.size W w') := ⟨fun W hW => by
    have hW1 : Below w1.heap.size w1 W := bl_to HB4.out hW
    refine node_c (fun k hk => HOK.out k (Nat.le_trans hW1.size hk)) ?_ (HV4.out.keep hW) (fun y hy => (HZ.out y hy).keep hW1) HT.out.2 (HI.out.1.put HI.out.2 HP.out HT.out.1) (by have h9 := HM.out; simp only [List.length_append, List.length_cons] at h9 ⊢; omega) HZL.out _ _ (H4.out.keep hW1)
    have := H2.out.keep hW1
    rw [List.map_append, List.map_cons] at this ⊢
    exact this⟩
  clear hr hb b1 b2 b3 b4 b5 b6 hql HCV HV4
  go_upto_region 8 with fail
  generalize w3.setCell ⟨g3, i, none⟩ (.slice V vl e) = w4 at HB4 HNO ⊢
  go_region_held3 (fun w' => w'.cell? ⟨g, 0, none⟩ = some (.int .i64 n) ∧ w'.cell? ⟨g, 1, none⟩ = some (.slice (some adk) m ck) ∧ w'.cell? ⟨g, 3, none⟩ = some (.slice (some adc) (m + 1) cc))
    (first | exact keepM H1.out (by repeat (first | exact Below.refl _ _ | exact HBx.out | exact HB3.out | exact HB4.out | exact HB5.out | exact HB6.out | exact HB7.out | exact HB8.out | exact HB9.out | exact HBa.out | exact HBb.out | refine zAg ?_ | refine zAb ?_ _)) rfl rfl rfl)
    (first
      | (go_at_call 158; refine (HNO.out _ (by repeat (first | exact Below.refl _ _ | refine zAg ?_ | refine zAb ?_ _))).mono ?_; rintro e8 Wa ⟨oa, he, hpx, hb⟩; obtain ⟨pa, hpa⟩ := zBc oa; rw [hpa] at he; subst he; have HPa' := zAa.mk hpa; have HPa := zAa.mk hpx; have HBa := zAa.mk (bl_to (X := w4.drew) (zAg HB4.out) hb); clear hpx hb hpa))
  go_wp2_with fail
  go_ret
  exact ⟨oa, _, by rw [HPa'.out]; rfl, HT.out.1, HPa.out, HBa.out⟩
end Go.Proofs.YtpckachmleonlaaGreatDoor
end
section
set_option linter.unusedVariables false
set_option linter.unusedSimpArgs false
namespace Go.Proofs.YtpckachmleonlaaGreatDoor
open Go.RowKit Go.Proofs.YtpckachmleonlaaGreatDoorW.PrintWords
def PutC (B V : Option Addr) (d e : Nat) (key val : List Int) (N : Nat) : Prop := ∀ (ok : Nat → Prop) (o : Option Nat) (l : List It) (w : World), l.length < N → (∀ k, w.heap.size ≤ k → ok k) → PartAt ok w o l → ItOk l → l.length < 100 → Sorted l → FF (fun W => BAt W ⟨B, key.length, d⟩ key) ok w → FF (fun W => BAt W ⟨V, val.length, e⟩ val) ok w →
  Calls Tryz.prog 141 #[ptrV o, .int .i64 (zBe key), .slice B key.length d, .slice V val.length e] w (PutPost ok l key val w)
theorem keepN {w W : World} {g : Nat} {C : Array Value} {c0 c1 c2 : Value} (h : w.heap[g]? = some (.cells C 150 (0, 0))) (hb : Below w.heap.size w W) (e0 : C[0]? = some c0) (e1 : C[1]? = some c1) (e2 : C[2]? = some c2) :
    W.cell? ⟨g, 0, none⟩ = some c0 ∧ W.cell? ⟨g, 1, none⟩ = some c1 ∧ W.cell? ⟨g, 2, none⟩ = some c2 :=
  ⟨(zAc (zAf h hb) 0).trans e0, (zAc (zAf h hb) 1).trans e1, (zAc (zAf h hb) 2).trans e2⟩
set_option maxHeartbeats 8000000 in
set_option maxRecDepth 100000 in
theorem put_down_w (ok : Nat → Prop) (B V : Option Addr) (d e : Nat) (key val : List Int) (hp : PutI key val) (g n : Nat) (P Q : List Jt) (A C : List Kid) (z : Kid) (w : World) (hok : ∀ k, w.heap.size ≤ k → ok k)
    (hN : zEa ok w g n (P ++ Q) ((A ++ z :: C).map (·.1)) (hashT (partL (P ++ Q) (A ++ z :: C))) (partL (P ++ Q) (A ++ z :: C)).length) (hL : LvOk n ((A ++ z :: C).map (·.2)) ((P ++ Q).map Jt.it)) (hJ : P ++ Q ≠ []) (hz : ∀ y ∈ A ++ z :: C, PartAt ok w y.1 y.2) (hA : A.length = P.length)
    (hi : ItOk (partL (P ++ Q) (A ++ z :: C))) (hn : (partL (P ++ Q) (A ++ z :: C)).length < 100) (hs : Sorted (partL (P ++ Q) (A ++ z :: C))) (hk : FF (fun W => BAt W ⟨B, key.length, d⟩ key) ok w) (hv : FF (fun W => BAt W ⟨V, val.length, e⟩ val) ok w)
    (hP : zFd (P.map Jt.it) key) (hQ : Above key (Q.map Jt.it)) (hF : Calls Tryz.prog 159 #[.pointer (some ⟨g, 0, none⟩), .slice B key.length d] w fun e w' => e = .returned (.tuple #[.int .i64 P.length, .bool false]) ∧ w' = w) (hlt : zBe key < n) (N : Nat) (IH : PutC B V d e key val N) (hNl : (partL (P ++ Q) (A ++ z :: C)).length < N + 1) :
    Calls Tryz.prog 141 #[.pointer (some ⟨g, 0, none⟩), .int .i64 (zBe key), .slice B key.length d, .slice V val.length e] w (PutPost ok (partL (P ++ Q) (A ++ z :: C)) key val w) := by
  obtain ⟨adk, ck, adv, cv, adc, cc, As, cs, h1, h2, h3, h4, h5, h6, h7, h8⟩ := hN.data hJ (by have := hL.len; simp at this ⊢; omega)
  have hj100 : (P ++ Q).length ≤ 100 := by have := zDh hL; omega
  have hzl : (A ++ z :: C).length = (P ++ Q).length + 1 := by have := hL.len; simpa using this
  have hzc : (((A ++ z :: C).map (·.1)).getD P.length none) = z.1 := by rw [List.map_append, List.map_cons, List.getD_eq_getElem?_getD, List.getElem?_append_right (by rw [List.length_map, hA]; exact Nat.le_refl _), List.length_map, hA, Nat.sub_self]; rfl
  obtain ⟨pz, hpz⟩ := zBc z.1
  have hcz : w.cell? (adc.add P.length) = some (.pointer pz) := by rw [← hpz]; exact cell_of_C h4.now.row (by rw [List.length_map, List.length_append, List.length_cons, hA]; omega) hzc
  have hT := fun (o : Option Nat) (l' : List It) (h : PutL z.2 key val l') => put_down (o := o) hL hA hs hlt hP hQ h
  have HT := zAa.mk hT
  have hzlen : z.2.length < (partL (P ++ Q) (A ++ z :: C)).length := zGe hL hJ z (by simp)
  have HRE : zAa (∀ X, Below w.heap.size w X → Calls Tryz.prog 141 #[.pointer pz, .int .i64 (zBe key), .slice B key.length d, .slice V val.length e] X (PutPost (okM ok w.heap.size X.heap.size) z.2 key val X)) := ⟨fun X hX => by
    have := IH (okM ok w.heap.size X.heap.size) z.1 z.2 X (by omega) (fun k hk => .inr hk) ((hz z (by simp)).mid hX) (hi.sub (by omega) (fun x hx => (zDa hL x).2 (.inr ⟨z, by simp, hx⟩))) (by omega) (kid_sorted hL hs z (by simp)) ((hk.lt.keep hX).mono (fun k hk => .inl hk)) ((hv.lt.keep hX).mono (fun k hk => .inl hk))
    rw [hpz] at this
    exact this⟩
  obtain ⟨i, hiP⟩ : ∃ i, P.length = i := ⟨_, rfl⟩
  obtain ⟨m, hm⟩ : ∃ m, (P ++ Q).length = m := ⟨_, rfl⟩
  have him : i ≤ m := by rw [← hiP, ← hm]; simp
  rw [hm] at h1 h5 h6 h7 h8 hj100 hzl
  rw [hiP] at hF hA hcz
  have H1 := zAa.mk h1
  have H2 := zAa.mk h2
  have H3 := zAa.mk h3
  have H4 := zAa.mk h4
  have HF := zAa.mk hF
  have HP := zAa.mk hp
  have HL := zAa.mk hL
  have HZ := zAa.mk hz
  have HA := zAa.mk hA
  have HI := zAa.mk (And.intro hi hn)
  have HS := zAa.mk hs
  have HK := zAa.mk hk
  have HV := zAa.mk hv
  have HPQ := zAa.mk (And.intro hP hQ)
  have HM := zAa.mk hm
  have HIP := zAa.mk hiP
  have HZL := zAa.mk hzl
  have HPZ := zAa.mk hpz
  have HOK := zAa.mk hok
  have hgl := zAj h1
  have c0 : w.cell? ⟨g, 0, none⟩ = some (.int .i64 n) := (zAc h1 0).trans rfl
  have t1 : decide ((n : Int) < (zBe key : Int)) = false := df (by omega)
  have t2 : ¬ ((n : Int) < (zBe key : Int)) := by omega
  have t3 : ((n : Int) == (zBe key : Int)) = false := ine (by omega)
  have hl64 := levelM_le key
  obtain ⟨lv, hlve⟩ : ∃ lv, zBe key = lv := ⟨_, rfl⟩
  have HLE := zAa.mk hlve
  rw [hlve] at hl64 t1 t2 t3 HRE ⊢
  obtain ⟨kl, hkl⟩ : ∃ kl, key.length = kl := ⟨_, rfl⟩
  obtain ⟨vl, hvl⟩ : ∃ vl, val.length = vl := ⟨_, rfl⟩
  rw [hkl] at HF HK HRE ⊢
  rw [hvl] at HV HRE ⊢
  clear hlve hkl hvl h1 h2 h3 h4 hF hp hL hz hA hi hn hs hk hv hP hQ hm hiP hzl hpz hok hN hJ hzc hT hlt IH hNl hzlen
  go_enter Tryz.func141, Tryz.ntmps141
  go_wp2_with fail
  refine HF.out.mono ?_
  rintro e1 w1 ⟨rfl, rfl⟩
  have d3 : w1.cell? ⟨g, 3, none⟩ = some (.slice (some adc) (m + 1) cc) := (zAc H1.out 3).trans rfl
  have hzl2 : ((A ++ z :: C).map (·.1)).length = m + 1 := by rw [List.length_map, HZL.out]
  have HCV := zAa.mk (cloneP_any (some adc) cc ((A ++ z :: C).map (·.1)) w1 H4.out.now.row (by rw [hzl2]; exact h7) (by rw [hzl2]; omega))
  rw [hzl2] at HCV
  go_wp2_with fail
  refine HCV.out.mono ?_
  rintro e3 w3 ⟨v3, rfl, hr, hb⟩
  obtain ⟨A3, c3, e3⟩ := Kd.zAk hr
  rw [hzl2] at e3
  subst e3
  obtain ⟨g3, C3, rfl, b1, b2, b3, b4, b5, b6⟩ := own_block hr (by omega)
  have hql : ((A ++ z :: C).map (·.1))[i]? = some z.1 := by rw [List.map_append, List.getElem?_append_right (by rw [List.length_map, HA.out]; exact Nat.le_refl _), List.length_map, HA.out, Nat.sub_self]; rfl
  have c7 : w3.cell? ⟨g3, i, none⟩ = some (.pointer pz) := by rw [← HPZ.out]; exact (zAc b1 i).trans (b6 i _ hql)
  have l7 := zAj b1
  have k1 : (i : Int) < (m : Int) + 1 := by omega
  have HB3 := zAa.mk hb
  have HG3 := zAa.mk b1
  have HC3 := zAa.mk b6
  have HW3 := zAa.mk (And.intro b2 (And.intro b4 b5))
  clear hr hb b1 b2 b3 b4 b5 b6 hql HCV hzl2
  go_wp2_with fail
  refine (HRE.out w3 HB3.out).mono ?_
  rintro e4 w4 ⟨o4, l4, he, hpl, hpp, hb⟩
  obtain ⟨p4, hp4⟩ := zBc o4
  rw [hp4] at he
  subst he
  have HP4' := zAa.mk hp4
  have HPL := zAa.mk (HT.out o4 l4 hpl)
  have HPP := zAa.mk hpp
  have hG4 := zAf HG3.out hb
  have c8 : w4.cell? ⟨g3, i, none⟩ = some (.pointer pz) := (zAc hG4 i).trans ((zAc HG3.out i).symm.trans c7)
  have f8 := zAd hG4 i
  have l8 := zAj hG4
  have HG4 := zAa.mk hG4
  have HB4 := zAa.mk (bl_to HB3.out hb)
  have HL7 : zAa (g3 < w3.heap.size) := ⟨l7⟩
  clear hpl hpp hb hG4 hp4 c7 l7
  have HB5 : zAa (Below w1.heap.size w1 (w4.setCell ⟨g3, i, none⟩ (.pointer p4))) := ⟨HB4.out.setCell HW3.out.1 _⟩
  have HPT : zAa (PartAt ok (w4.setCell ⟨g3, i, none⟩ (.pointer p4)) o4 l4) := ⟨(HPP.out.step (w' := w4.setCell ⟨g3, i, none⟩ (.pointer p4)) (fun k hk _ => Below.heap_setCell w4 ⟨g3, i, none⟩ (.pointer p4) k (fun e => by
    have h8 : k = g3 := e
    have h9 := HL7.out
    have h10 := HW3.out.1
    rcases hk with ⟨_, h7⟩ | h7 <;> omega))).unmid HOK.out HB3.out.size⟩
  have HV5 : zAa (FF (fun W => PAt W (some ⟨g3, 0, none⟩) c3 ((A ++ (o4, l4) :: C).map (·.1))) ok (w4.setCell ⟨g3, i, none⟩ (.pointer p4))) := ⟨by
    have hln : ((A ++ (o4, l4) :: C).map (·.1)).length = m + 1 := by have h9 := HZL.out; simp only [List.length_map, List.length_append, List.length_cons] at h9 ⊢; omega
    refine rowP_FF (zBh HG4.out i (.pointer p4)) (fun j y hy => ?_) (by rw [hln]; exact HW3.out.2.1) (by rw [hln]; omega) (HOK.out _ HW3.out.1)
    rw [Array.getElem?_setIfInBounds]
    rw [List.map_append, List.map_cons] at hy
    by_cases hij : i = j
    · subst hij
      rw [if_pos rfl, if_pos (by have := HW3.out.2.2; omega)]
      rw [List.getElem?_append_right (by rw [List.length_map, HA.out]; exact Nat.le_refl _), List.length_map, HA.out, Nat.sub_self] at hy
      injection hy with hy
      rw [← hy, HP4'.out]
    · rw [if_neg hij]
      refine HC3.out j y ?_
      rw [List.map_append, List.map_cons]
      rcases Nat.lt_or_ge j i with h9 | h9
      · rw [List.getElem?_append_left (by rw [List.length_map, HA.out]; exact h9)] at hy ⊢
        exact hy
      · rw [List.getElem?_append_right (by rw [List.length_map, HA.out]; exact h9), List.length_map, HA.out] at hy ⊢
        obtain ⟨x, hx⟩ : ∃ x, j - i = x + 1 := ⟨j - i - 1, by omega⟩
        rw [hx] at hy ⊢
        exact hy⟩
  have HNO : zAa (∀ W, Below (w4.setCell ⟨g3, i, none⟩ (.pointer p4)).heap.size (w4.setCell ⟨g3, i, none⟩ (.pointer p4)) W → Calls Tryz.prog 158 #[.int .i64 n, .slice (some adk) m ck, .slice (some adv) m cv, .slice (some ⟨g3, 0, none⟩) (m + 1) c3] W fun e' w' => ∃ o, e' = .returned (ptrV o) ∧ PartAt ok w' o (partL (P ++ Q) (A ++ (o4, l4) :: C)) ∧ Below W.heap.size W w') := ⟨fun W hW => by
    have hW1 : Below w1.heap.size w1 W := bl_to HB5.out hW
    exact node_c (zs := A ++ (o4, l4) :: C) (fun k hk => HOK.out k (Nat.le_trans hW1.size hk)) (H2.out.keep hW1) (H3.out.keep hW1) (fun y hy => by
      rcases List.mem_append.1 hy with hy | hy
      · exact (HZ.out y (List.mem_append_left _ hy)).keep hW1
      · rcases List.mem_cons.1 hy with rfl | hy
        · exact HPT.out.keep hW
        · exact (HZ.out y (List.mem_append_right _ (List.mem_cons_of_mem _ hy))).keep hW1) HPL.out.2 (HI.out.1.put HI.out.2 HP.out HPL.out.1) HM.out (by have h9 := HZL.out; simp only [List.length_append, List.length_cons] at h9 ⊢; omega) _ _ (HV5.out.keep hW)⟩
  clear HV5 HPT HPP
  go_upto_region 15 with fail
  generalize w4.setCell ⟨g3, i, none⟩ (.pointer p4) = w5 at HB5 HNO ⊢
  go_region_held3 (fun w' => w'.cell? ⟨g, 0, none⟩ = some (.int .i64 n) ∧ w'.cell? ⟨g, 1, none⟩ = some (.slice (some adk) m ck) ∧ w'.cell? ⟨g, 2, none⟩ = some (.slice (some adv) m cv))
    (first | exact keepN H1.out (by repeat (first | exact Below.refl _ _ | exact HBx.out | exact HB3.out | exact HB4.out | exact HB5.out | exact HB6.out | exact HB7.out | exact HB8.out | exact HB9.out | exact HBa.out | exact HBb.out | refine zAg ?_ | refine zAb ?_ _)) rfl rfl rfl)
    (first
      | (go_at_call 158; refine (HNO.out _ (by repeat (first | exact Below.refl _ _ | refine zAg ?_ | refine zAb ?_ _))).mono ?_; rintro e8 Wa ⟨oa, he, hpx, hb⟩; obtain ⟨pa, hpa⟩ := zBc oa; rw [hpa] at he; subst he; have HPa' := zAa.mk hpa; have HPa := zAa.mk hpx; have HBa := zAa.mk (bl_to (X := w5.drew) (zAg HB5.out) hb); clear hpx hb hpa))
  go_wp2_with fail
  go_ret
  exact ⟨oa, _, by rw [HPa'.out]; rfl, HPL.out.1, HPa.out, HBa.out⟩
end Go.Proofs.YtpckachmleonlaaGreatDoor
end
