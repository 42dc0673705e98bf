/- Words and walks for Split and Tablet: texts of these sessions, and of the kit's print, cut down to what is used (T U). -/
import Derived.Test.YtpckachmleonlaaGreatDoorCv12
section
set_option linter.unusedVariables false
set_option linter.unusedSimpArgs false
namespace Go.Proofs.YtpckachmleonlaaGreatDoor
open Go.RowKit Go.Proofs.YtpckachmleonlaaGreatDoorW.PrintWords
theorem zEa.data {ok : Nat → Prop} {w : World} {g n : Nat} {js : List Jt} {ks : List (Option Nat)} {h : List Int} {m : Nat} (hN : zEa ok w g n js ks h m) (hj : js ≠ []) (hk : ks.length = js.length + 1) :
    ∃ adk ck adv cv adc cc As cs, w.heap[g]? = some (.cells #[.int .i64 n, .slice (some adk) js.length ck, .slice (some adv) js.length cv, .slice (some adc) (js.length + 1) cc, .slice As h.length cs, .int .i64 m] 150 (0, 0)) ∧
      FF (fun W => RAt W (some adk) ck (js.map (·.1))) ok w ∧ FF (fun W => RAt W (some adv) cv (js.map (·.2))) ok w ∧ FF (fun W => PAt W (some adc) cc ks) ok w ∧ js.length ≤ ck ∧ js.length ≤ cv ∧ js.length + 1 ≤ cc ∧ 0 < js.length := by
  obtain ⟨Ak, ck, Av, cv, Ac, cc, As, cs, h1, h2, h3, h4, -⟩ := hN.ex
  have hpos : 0 < js.length := List.length_pos_iff.2 hj
  obtain ⟨adk, hAk, -⟩ := h2.now.row.2.2 (by rw [List.length_map]; exact hpos)
  obtain ⟨adv, hAv, -⟩ := h3.now.row.2.2 (by rw [List.length_map]; exact hpos)
  obtain ⟨adc, hAc, -⟩ := h4.now.row.2.2 (by rw [hk]; omega)
  subst hAk
  subst hAv
  subst hAc
  rw [hk] at h1
  exact ⟨adk, ck, adv, cv, adc, cc, As, cs, h1, h2, h3, h4, by have := h2.now.c; rwa [List.length_map] at this, by have := h3.now.c; rwa [List.length_map] at this, by have := h4.now.c; rwa [hk] at this, hpos⟩
theorem lv_le {n : Nat} {js : List Jt} {zs : List Kid} (h : LvOk n (zs.map (·.2)) (js.map Jt.it)) : ∀ x ∈ partL js zs, zBe x.1 ≤ n := fun x hx => by
  rcases (mem_inter h.len x).1 hx with h1 | ⟨s, h1, h2⟩
  · exact Nat.le_of_eq (h.keys x h1)
  · exact Nat.le_of_lt (h.below s h1 x h2)
theorem zs_last {zs : List Kid} {m : Nat} (h : zs.length = m + 1) : ∃ A z, zs = A ++ [z] ∧ A.length = m := by
  obtain ⟨A, z, C, e, hA⟩ := kids_at (zs := zs) (i := m) (by omega)
  have hC : C = [] := by
    have := congrArg List.length e
    simp at this
    exact List.eq_nil_of_length_eq_zero (by omega)
  subst hC
  exact ⟨A, z, e, hA⟩
theorem zs_first {zs : List Kid} {m : Nat} (h : zs.length = m + 1) : ∃ z C, zs = z :: C ∧ C.length = m := by
  match zs, h with
  | z :: C, h => exact ⟨z, C, rfl, by simpa using h⟩
theorem join_last {n : Nat} {js : List Jt} {A : List Kid} {z : Kid} {lb : List It} {o : Option Nat} (h : LvOk n ((A ++ [z]).map (·.2)) (js.map Jt.it)) (hb : ∀ x ∈ lb, zBe x.1 < n) :
    partL js (A ++ [(o, z.2 ++ lb)]) = partL js (A ++ [z]) ++ lb ∧ LvOk n ((A ++ [(o, z.2 ++ lb)]).map (·.2)) (js.map Jt.it) := by
  have hl := h.len
  refine ⟨?_, by simpa using hl, h.keys, fun s hs x hx => ?_⟩
  · have := zFc (x := z.2) (y := lb) (B := []) (Q := []) (A := A.map (·.2)) (P := js.map Jt.it) (by simp at hl; simp; omega)
    simpa [partL, inter] using this
  · rw [List.map_append] at hs
    rcases List.mem_append.1 hs with hs | hs
    · exact h.below s (by rw [List.map_append]; exact List.mem_append_left _ hs) x hx
    · simp only [List.map_cons, List.map_nil, List.mem_singleton] at hs
      subst hs
      rcases List.mem_append.1 hx with hx | hx
      · exact h.below z.2 (by simp) x hx
      · exact hb x hx
theorem join_first {n : Nat} {js : List Jt} {C : List Kid} {z : Kid} {la : List It} {o : Option Nat} (h : LvOk n ((z :: C).map (·.2)) (js.map Jt.it)) (ha : ∀ x ∈ la, zBe x.1 < n) :
    partL js ((o, la ++ z.2) :: C) = la ++ partL js (z :: C) ∧ LvOk n (((o, la ++ z.2) :: C).map (·.2)) (js.map Jt.it) := by
  have hl := h.len
  refine ⟨?_, by simpa using hl, h.keys, fun s hs x hx => ?_⟩
  · have := zFc (x := la) (y := z.2) (B := C.map (·.2)) (Q := js.map Jt.it) (A := []) (P := []) rfl
    simpa [partL, inter] using this
  · rw [List.map_cons] at hs
    rcases List.mem_cons.1 hs with hs | hs
    · subst hs
      rcases List.mem_append.1 hx with hx | hx
      · exact ha x hx
      · exact h.below z.2 (by simp) x hx
    · exact h.below s (by rw [List.map_cons]; exact List.mem_cons_of_mem _ hs) x hx
theorem join_same {n : Nat} {js js2 : List Jt} {A C : List Kid} {z y : Kid} {o : Option Nat} (h : LvOk n ((A ++ [z]).map (·.2)) (js.map Jt.it)) (k : LvOk n ((y :: C).map (·.2)) (js2.map Jt.it)) :
    partL (js ++ js2) (A ++ (o, z.2 ++ y.2) :: C) = partL js (A ++ [z]) ++ partL js2 (y :: C) ∧ LvOk n ((A ++ (o, z.2 ++ y.2) :: C).map (·.2)) ((js ++ js2).map Jt.it) := by
  have hl := h.len
  have hk := k.len
  refine ⟨?_, by simp at hl hk ⊢; omega, fun i hi => ?_, fun s hs x hx => ?_⟩
  · have := zFc (x := z.2) (y := y.2) (B := C.map (·.2)) (Q := js2.map Jt.it) (A := A.map (·.2)) (P := js.map Jt.it) (by simp at hl; simp; omega)
    simpa [partL] using this
  · rw [List.map_append] at hi
    rcases List.mem_append.1 hi with hi | hi
    · exact h.keys i hi
    · exact k.keys i hi
  · rw [List.map_append, List.map_cons] at hs
    rcases List.mem_append.1 hs with hs | hs
    · exact h.below s (by rw [List.map_append]; exact List.mem_append_left _ hs) x hx
    · rcases List.mem_cons.1 hs with hs | hs
      · subst hs
        rcases List.mem_append.1 hx with hx | hx
        · exact h.below z.2 (by simp) x hx
        · exact k.below y.2 (by simp) x hx
      · exact k.below s (by rw [List.map_cons]; exact List.mem_cons_of_mem _ hs) x hx
theorem PartAt.grown {ok : Nat → Prop} {w w1 : World} {row : Option Nat} {o : Option Nat} {l : List It} (h : PartAt ok w o l) (hg : w.grownBy w1 row) (hok : ∀ k, ok k → some k ≠ row) : PartAt ok w1 o l := h.step fun k hk hl => hg.block k hl (hok k hk)
theorem own_in {α : Type} {d : Kd α} {e base : Nat} {w : World} {ok : Nat → Prop} {v : Value} {xs : List α} (h : Kd.R d e w base ok v xs) : ∀ k, v.ownBlock = some k → base ≤ k ∧ k < w.heap.size := by
  obtain ⟨inner, ho⟩ := Kd.R_own h
  exact fun k hk => ⟨own_base ho k hk, own_lt ho k hk⟩
end Go.Proofs.YtpckachmleonlaaGreatDoor
end
section
set_option linter.unusedVariables false
set_option linter.unusedSimpArgs false
namespace Go.Proofs.YtpckachmleonlaaGreatDoor
open Go.RowKit Go.Proofs.YtpckachmleonlaaGreatDoorW.PrintWords
theorem zBc (o : Option Nat) : ∃ p, ptrV o = .pointer p := ⟨_, rfl⟩
def JoinPost (ok : Nat → Prop) (l : List It) (w : World) (e : Ending) (w' : World) : Prop := ∃ o, e = .returned (ptrV o) ∧ PartAt ok w' o l ∧ Below w.heap.size w w'
def JoinC (N : Nat) : Prop := ∀ (ok : Nat → Prop) (a b : Option Nat) (la lb : List It) (w : World), la.length + lb.length < N → (∀ k, w.heap.size ≤ k → ok k) → PartAt ok w a la → PartAt ok w b lb → ItOk (la ++ lb) → Calls Tryz.prog 166 #[ptrV a, ptrV b] w (JoinPost ok (la ++ lb) w)
def NodeC (ok : Nat → Prop) (n : Nat) (Ak Av : Option Addr) (ck cv m q : Nat) (ks : List (Option Nat)) (l : List It) (w : World) : Prop := ∀ A c, FF (fun W => PAt W A c ks) ok w → Calls Tryz.prog 158 #[.int .i64 n, .slice Ak m ck, .slice Av m cv, .slice A q c] w fun e w' => ∃ o, e = .returned (ptrV o) ∧ PartAt ok w' o l ∧ Below w.heap.size w w'
theorem node_c {ok : Nat → Prop} {n : Nat} {Ak Av : Option Addr} {ck cv m q : Nat} {js : List Jt} {zs : List Kid} {w : World} (hok : ∀ k, w.heap.size ≤ k → ok k)
    (hk : FF (fun W => RAt W Ak ck (js.map (·.1))) ok w) (hv : FF (fun W => RAt W Av cv (js.map (·.2))) ok w) (hz : ∀ z ∈ zs, PartAt ok w z.1 z.2) (hl : LvOk n (zs.map (·.2)) (js.map Jt.it)) (hi : ItOk (partL js zs)) (hm : js.length = m) (hq : zs.length = q) :
    NodeC ok n Ak Av ck cv m q (zs.map (·.1)) (partL js zs) w := fun A c hr => by
  subst hm hq
  exact node_any ok n Ak Av A ck cv c js zs w hok hk hv hr hz hl hi
theorem keep5 {w W : World} {g : Nat} {C : Array Value} {a : Addr} {c0 c1 c2 c3 c4 : Value} (h : w.heap[g]? = some (.cells C 150 (0, 0))) (hb : Below w.heap.size w W) (e0 : C[0]? = some c0) (e1 : C[1]? = some c1) (e2 : C[2]? = some c2) (e3 : C[3]? = some c3) (e4 : w.cell? a = some c4) :
    W.cell? ⟨g, 0, none⟩ = some c0 ∧ W.cell? ⟨g, 1, none⟩ = some c1 ∧ W.cell? ⟨g, 2, none⟩ = some c2 ∧ W.cell? ⟨g, 3, none⟩ = some c3 ∧ W.cell? a = some c4 :=
  ⟨(zAc (zAf h hb) 0).trans e0, (zAc (zAf h hb) 1).trans e1, (zAc (zAf h hb) 2).trans e2, (zAc (zAf h hb) 3).trans e3, pw_cell_below hb e4⟩
def okM (ok : Nat → Prop) (X Y : Nat) (k : Nat) : Prop := (ok k ∧ k < X) ∨ Y ≤ k
theorem PartAt.mid {ok : Nat → Prop} {w w1 : World} {Y : Nat} {o : Option Nat} {l : List It} (h : PartAt ok w o l) (hb : Below w.heap.size w w1) : PartAt (okM ok w.heap.size Y) w1 o l := (h.lt.keep hb).mono fun k hk => .inl hk
theorem PartAt.unmid {ok : Nat → Prop} {w : World} {X Y : Nat} {o : Option Nat} {l : List It} (h : PartAt (okM ok X Y) w o l) (hok : ∀ k, X ≤ k → ok k) (hXY : X ≤ Y) : PartAt ok w o l := h.mono fun k hk => by
  rcases hk with ⟨h1, _⟩ | h1
  · exact h1
  · exact hok k (by omega)
theorem cell_of_C {w : World} {ad : Addr} {n i : Nat} {ks : List (Option Nat)} {o : Option Nat} (h : kP.C w (some ad) n ks) (h1 : i < n) (ho : ks.getD i none = o) : w.cell? (ad.add i) = some (ptrV o) := by
  obtain ⟨ad2, e, _, hc⟩ := kP_at h i h1
  injection e with e
  subst e
  rw [hc, ho]
set_option maxHeartbeats 8000000 in
set_option maxRecDepth 100000 in
theorem join_high (N : Nat) (IH : JoinC N) (ok : Nat → Prop) (g1 n1 : Nat) (js : List Jt) (A : List Kid) (z : Kid) (g2 n2 : Nat) (js2 : List Jt) (zs2 : List Kid) (w : World) (hN : (partL js (A ++ [z])).length + (partL js2 zs2).length < N + 1) (hok : ∀ k, w.heap.size ≤ k → ok k)
    (h1 : zEa ok w g1 n1 js ((A ++ [z]).map (·.1)) (hashT (partL js (A ++ [z]))) (partL js (A ++ [z])).length) (L1 : LvOk n1 ((A ++ [z]).map (·.2)) (js.map Jt.it)) (J1 : js ≠ []) (z1 : ∀ y ∈ A ++ [z], PartAt ok w y.1 y.2)
    (h2 : zEa ok w g2 n2 js2 (zs2.map (·.1)) (hashT (partL js2 zs2)) (partL js2 zs2).length) (L2 : LvOk n2 (zs2.map (·.2)) (js2.map Jt.it)) (J2 : js2 ≠ []) (z2 : ∀ y ∈ zs2, PartAt ok w y.1 y.2)
    (hi : ItOk (partL js (A ++ [z]) ++ partL js2 zs2)) (hlt : n2 < n1) :
    Calls Tryz.prog 166 #[.pointer (some ⟨g1, 0, none⟩), .pointer (some ⟨g2, 0, none⟩)] w (JoinPost ok (partL js (A ++ [z]) ++ partL js2 zs2) w) := by
  have hb : ∀ x ∈ partL js2 zs2, zBe x.1 < n1 := fun x hx => Nat.lt_of_le_of_lt (lv_le L2 x hx) hlt
  have hJL := fun o => join_last (o := o) L1 hb
  have hb2 : PartAt ok w (some g2) (partL js2 zs2) := .node_ h2 L2 J2 z2
  obtain ⟨_, _, _, _, _, _, _, _, b1, -⟩ := h2.data J2 (by have := L2.len; simpa using this)
  obtain ⟨adk, ck, adv, cv, adc, cc, As, cs, a1, a2, a3, a4, a5, a6, a7, a8⟩ := h1.data J1 (by have := L1.len; simpa using this)
  have hA : A.length = js.length := by have := L1.len; simpa using this
  have hzl : z.2.length < (partL js (A ++ [z])).length := zGe L1 J1 z (by simp)
  have hzc : (((A ++ [z]).map (·.1)).getD js.length none) = z.1 := by rw [List.map_append, List.getD_eq_getElem?_getD, List.getElem?_append_right (by rw [List.length_map, hA]; exact Nat.le_refl _), List.length_map, hA, Nat.sub_self]; rfl
  have hj100 : js.length ≤ 100 := by have h8 := zDh L1; have h9 := hi.n; rw [List.length_append] at h9; omega
  obtain ⟨m, hm⟩ : ∃ m, js.length = m := ⟨_, rfl⟩
  obtain ⟨pz, hpz⟩ := zBc z.1
  rw [hm] at a1 a5 a6 a7 a8 hA hzc hj100
  have hcz : w.cell? (adc.add m) = some (.pointer pz) := by rw [← hpz]; exact cell_of_C a4.now.row (by rw [List.length_map, List.length_append, List.length_singleton, hA]; omega) hzc
  have H1 := zAa.mk a1
  have H2 := zAa.mk a2
  have H3 := zAa.mk a3
  have H4 := zAa.mk a4
  have HG2 := zAa.mk b1
  have HA := zAa.mk hA
  have HM := zAa.mk hm
  have HZ := zAa.mk z1
  have HB2 := zAa.mk hb2
  have HI := zAa.mk hi
  have HJL := zAa.mk hJL
  have HN := zAa.mk hN
  have HZL := zAa.mk hzl
  have HOK := zAa.mk hok
  have HPZ := zAa.mk hpz
  have HL1 := zAa.mk L1
  have hg1 := zAj a1
  have hg2 := zAj b1
  have HCL : zAa (∀ X, Below w.heap.size w X → Calls Tryz.prog 163 #[.slice (some adc) m cc] X fun e w' => ∃ v, e = .returned v ∧ Kd.R kP 110 w' X.heap.size (fun _ => True) v (A.map (·.1)) ∧ Below X.heap.size X w') := ⟨fun X hX => by
    have h4 := (H4.out.keep hX).now
    have ht := (h4.take (i := m) (c' := cc) (by rw [List.length_map, List.length_append, HA.out, List.length_singleton]; omega) (by omega))
    have he : ((A ++ [z]).map (·.1)).take m = A.map (·.1) := by rw [List.map_append, List.take_left' (by rw [List.length_map, HA.out])]
    rw [he] at ht
    have hq := cloneP_any (some adc) cc (A.map (·.1)) X ht.row (by rw [List.length_map, HA.out]; omega) (by rw [List.length_map, HA.out]; omega)
    rw [List.length_map, HA.out] at hq
    exact hq⟩
  have HRE : zAa (∀ X, Below w.heap.size w X → Calls Tryz.prog 166 #[.pointer pz, .pointer (some ⟨g2, 0, none⟩)] X (JoinPost (okM ok w.heap.size X.heap.size) (z.2 ++ partL js2 zs2) X)) := ⟨fun X hX => by
    have := IH (okM ok w.heap.size X.heap.size) z.1 (some g2) z.2 (partL js2 zs2) X (by have := HZL.out; have := HN.out; omega) (fun k hk => .inr hk) ((HZ.out z (by simp)).mid hX) (HB2.out.mid hX) (HI.out.sub (by have := HZL.out; simp only [List.length_append]; omega) (fun x hx => by
      rcases List.mem_append.1 hx with hx | hx
      · exact List.mem_append_left _ ((zDa HL1.out x).2 (.inr ⟨z, by simp, hx⟩))
      · exact List.mem_append_right _ hx))
    rw [HPZ.out] at this
    exact this⟩
  have HNO : zAa (∀ W o, Below w.heap.size w W → PartAt ok W o (z.2 ++ partL js2 zs2) → NodeC ok n1 (some adk) (some adv) ck cv m (m + 1) (A.map (·.1) ++ [o]) (partL js (A ++ [z]) ++ partL js2 zs2) W) := ⟨fun W o hW ho => by
    have := node_c (w := W) (m := m) (q := m + 1) (fun k hk => HOK.out k (Nat.le_trans hW.size hk)) (H2.out.keep hW) (H3.out.keep hW) (zs := A ++ [(o, z.2 ++ partL js2 zs2)]) (fun y hy => by
      rcases List.mem_append.1 hy with hy | hy
      · exact (HZ.out y (List.mem_append_left _ hy)).keep hW
      · rw [List.mem_singleton.1 hy]
        exact ho) (HJL.out o).2 (by rw [(HJL.out o).1]; exact HI.out) HM.out (by rw [List.length_append, HA.out]; rfl)
    rw [(HJL.out o).1, List.map_append] at this
    exact this⟩
  have c1 := (zAc H1.out 0).trans rfl
  have t1 : decide ((n2 : Int) < (n1 : Int)) = true := dt (by omega)
  have t2 : (n2 : Int) < (n1 : Int) := by omega
  have k1 : (m : Int) ≤ (cc : Int) := by omega
  have k2 : (m : Int) ≤ (m : Int) + 1 := by omega
  have k3 : (0 : Int) ≤ (m : Int) := by omega
  have k4 : (m : Int) < (m : Int) + 1 := by omega
  clear c1 a1 a2 a3 a4 b1 hi hN hok hpz L1 L2 z1 z2 h1 h2 hb hb2 hJL hA hm hzl hzc J1 J2 IH
  go_enter Tryz.func166, Tryz.ntmps166
  go_upto_region 5 with fail
  go_region_held3 (fun w' => w'.cell? ⟨g1, 0, none⟩ = some (.int .i64 n1) ∧ w'.cell? ⟨g2, 0, none⟩ = some (.int .i64 n2))
    (first | exact ⟨(zAc (zAf H1.out (zAg (Below.refl _ _))) 0).trans rfl, (zAc (zAf HG2.out (zAg (Below.refl _ _))) 0).trans rfl⟩)
    (first | fail)
  have HBx : zAa (Below w.heap.size w w.drew) := ⟨zAg (Below.refl _ _)⟩
  have HX1 := zAa.mk (zAf H1.out HBx.out)
  have d3 : w.drew.cell? ⟨g1, 3, none⟩ = some (.slice (some adc) (m + 1) cc) := (zAc HX1.out 3).trans rfl
  have hg1' : g1 < w.drew.heap.size := hg1
  obtain ⟨wd, hwd⟩ : ∃ wd, w.drew = wd := ⟨_, rfl⟩
  have HSZ : zAa (wd.heap.size = w.heap.size) := ⟨by rw [← hwd]; rfl⟩
  rw [hwd] at HBx HX1 d3 hg1' ⊢
  clear hwd HX1
  go_upto_region 7 with fail
  go_region_held3 (fun w' => w'.cell? ⟨g1, 0, none⟩ = some (.int .i64 n1) ∧ w'.cell? ⟨g1, 1, none⟩ = some (.slice (some adk) m ck) ∧ w'.cell? ⟨g1, 2, none⟩ = some (.slice (some adv) m cv) ∧ w'.cell? ⟨g1, 3, none⟩ = some (.slice (some adc) (m + 1) cc) ∧ w'.cell? (adc.add m) = some (.pointer pz))
    (first | exact keep5 H1.out (by repeat (first | exact Below.refl _ _ | exact HBx.out | exact HB3.out | exact HB4.out | exact HB6.out | exact HB8.out | refine zAg ?_ | refine zAb ?_ _)) rfl rfl rfl rfl hcz)
    (first
      | (go_at_call 163; refine (HCL.out _ (by repeat (first | exact Below.refl _ _ | exact HBx.out | exact HB3.out | exact HB4.out | exact HB6.out | exact HB8.out | refine zAg ?_ | refine zAb ?_ _))).mono ?_; rintro e W3 ⟨v3, rfl, hr, hb⟩; have HR3 := zAa.mk (rl_to (w2 := wd) (by repeat (first | exact Below.refl _ _ | refine zAg ?_ | refine zAb ?_ _)) hr); have HB3' := zAa.mk (bl_to (w2 := wd) (by repeat (first | exact Below.refl _ _ | refine zAg ?_ | refine zAb ?_ _)) hb); have HB3 := zAa.mk (bl_to HBx.out HB3'.out); clear hr hb; obtain ⟨A3, c3, e3⟩ := Kd.zAk HR3.out; rw [List.length_map, HA.out] at e3; subst e3)
      | (go_at_call 166; refine (HRE.out _ HB3.out).mono ?_; rintro e W4 ⟨o4, he, hp, hb⟩; obtain ⟨p4, hp4⟩ := zBc o4; rw [hp4] at he; subst he; have HP4' := zAa.mk hp4; have HP4 := zAa.mk hp; have HR4 := zAa.mk (Kd.zFa HR3.out hb); have HB4' := zAa.mk (bl_to HB3'.out hb); have HB4 := zAa.mk (bl_to HBx.out HB4'.out); have HO3 := zAa.mk (own_in HR3.out); clear hp hb hp4)
      | (refine Kd.R_append_rows_step kP (Rr := kP.K W4) (w0 := wd) wd.heap.size (by rfl) (.tmp 50) (.tmp 60) 148 110 (.pointer none) 8 rfl Tryz.underlying148 info110 rfl (by decide) (by omega) (.slice A3 m c3) (List.map (fun x : Kid => x.1) A) [o4] _ 1 1 (fun _ => True) (fun _ => False) rfl rfl (Kd.zEb HR4.out _) (C_p1 (heap_alloc_new _ _) HP4'.out) (fun x cs h => h) (fun _ hk => hk.elim) (fun _ _ => trivial) (zAb HB4'.out _) (zAb HB4'.out _).size (by rw [List.length_map, HA.out]; omega) ?_; intro v6 W6 ho hb hg hat; have HR6 := zAa.mk ho; have HB6' := zAa.mk hb; have HB6 := zAa.mk (bl_to HBx.out hb); have HP6 : zAa (PartAt ok W6 o4 (z.2 ++ partL js2 zs2)) := ⟨((HP4.out.keep (zAb (Below.refl _ _) _)).grown hg (fun k hk e => by have h9 := HO3.out k e.symm; have := HSZ.out; rcases hk with ⟨_, h7⟩ | h7 <;> omega)).unmid HOK.out HB3.out.size⟩; clear ho hb hg hat; obtain ⟨A6, c6, e6⟩ := Kd.zAk HR6.out; rw [List.length_append, List.length_singleton, List.length_map, HA.out] at e6; subst e6)
      | (go_at_call 158; refine (HNO.out _ _ HB6.out HP6.out _ _ ((PAt_FF HR6.out).mono (fun k hk => HOK.out k (by have := HSZ.out; omega)))).mono ?_; rintro e W8 ⟨o8, he, hp, hb⟩; obtain ⟨p8, hp8⟩ := zBc o8; rw [hp8] at he; subst he; have HP8' := zAa.mk hp8; have HP8 := zAa.mk hp; have HB8 := zAa.mk (bl_to HB6.out hb); clear hp hb hp8))
  go_wp2_with fail
  go_ret
  exact ⟨o8, by rw [HP8'.out]; rfl, HP8.out, HB8.out⟩
theorem cell_of_C0 {w : World} {ad : Addr} {n : Nat} {ks : List (Option Nat)} {o : Option Nat} (h : kP.C w (some ad) n ks) (h1 : 0 < n) (ho : ks.getD 0 none = o) : w.cell? ad = some (ptrV o) := by
  have := cell_of_C h h1 ho
  simpa [Addr.add] using this
set_option maxHeartbeats 8000000 in
set_option maxRecDepth 100000 in
theorem join_low (N : Nat) (IH : JoinC N) (ok : Nat → Prop) (g1 n1 : Nat) (js : List Jt) (zs : List Kid) (g2 n2 : Nat) (js2 : List Jt) (z : Kid) (C : List Kid) (w : World) (hN : (partL js zs).length + (partL js2 (z :: C)).length < N + 1) (hok : ∀ k, w.heap.size ≤ k → ok k)
    (h1 : zEa ok w g1 n1 js (zs.map (·.1)) (hashT (partL js zs)) (partL js zs).length) (L1 : LvOk n1 (zs.map (·.2)) (js.map Jt.it)) (J1 : js ≠ []) (z1 : ∀ y ∈ zs, PartAt ok w y.1 y.2)
    (h2 : zEa ok w g2 n2 js2 ((z :: C).map (·.1)) (hashT (partL js2 (z :: C))) (partL js2 (z :: C)).length) (L2 : LvOk n2 ((z :: C).map (·.2)) (js2.map Jt.it)) (J2 : js2 ≠ []) (z2 : ∀ y ∈ z :: C, PartAt ok w y.1 y.2)
    (hi : ItOk (partL js zs ++ partL js2 (z :: C))) (hlt : n1 < n2) :
    Calls Tryz.prog 166 #[.pointer (some ⟨g1, 0, none⟩), .pointer (some ⟨g2, 0, none⟩)] w (JoinPost ok (partL js zs ++ partL js2 (z :: C)) w) := by
  have hb : ∀ x ∈ partL js zs, zBe x.1 < n2 := fun x hx => Nat.lt_of_le_of_lt (lv_le L1 x hx) hlt
  have hJL := fun o => join_first (o := o) L2 hb
  have hb1 : PartAt ok w (some g1) (partL js zs) := .node_ h1 L1 J1 z1
  obtain ⟨_, _, _, _, _, _, _, _, b1, -⟩ := h1.data J1 (by have := L1.len; simpa using this)
  obtain ⟨adk, ck, adv, cv, adc, cc, As, cs, a1, a2, a3, a4, a5, a6, a7, a8⟩ := h2.data J2 (by have := L2.len; simpa using this)
  have hC : C.length = js2.length := by have := L2.len; simpa using this
  have hzl : z.2.length < (partL js2 (z :: C)).length := zGe L2 J2 z (by simp)
  have hj100 : js2.length ≤ 100 := by have h8 := zDh L2; have h9 := hi.n; rw [List.length_append] at h9; omega
  obtain ⟨m, hm⟩ : ∃ m, js2.length = m := ⟨_, rfl⟩
  obtain ⟨pz, hpz⟩ := zBc z.1
  rw [hm] at a1 a5 a6 a7 a8 hC hj100
  have hcz : w.cell? adc = some (.pointer pz) := by rw [← hpz]; exact cell_of_C0 a4.now.row (by simp) rfl
  have H1 := zAa.mk a1
  have H2 := zAa.mk a2
  have H3 := zAa.mk a3
  have H4 := zAa.mk a4
  have HG2 := zAa.mk b1
  have HA := zAa.mk hC
  have HM := zAa.mk hm
  have HZ := zAa.mk z2
  have HB1 := zAa.mk hb1
  have HI := zAa.mk hi
  have HJL := zAa.mk hJL
  have HN := zAa.mk hN
  have HZL := zAa.mk hzl
  have HOK := zAa.mk hok
  have HPZ := zAa.mk hpz
  have HL2 := zAa.mk L2
  have hg1 := zAj b1
  have hg2 := zAj a1
  obtain ⟨Xc, hXc⟩ : ∃ X, (if cc = 1 then some adc else some (⟨adc.block, adc.off + 1, none⟩ : Addr)) = X := ⟨_, rfl⟩
  have HTL : zAa (∀ X, Below w.heap.size w X → Kd.C kP X Xc m (List.map (fun x : Kid => x.1) C)) := ⟨fun X hX => by
    have h4 := (H4.out.keep hX).now
    have ht := (h4.drop (i := 1) (by rw [List.length_map, List.length_cons]; omega))
    have he : ((z :: C).map (·.1)).drop 1 = C.map (·.1) := rfl
    rw [he] at ht
    have := ht.row
    rw [List.length_map, HA.out, Option.map_some, add_succ adc 0, hXc] at this
    exact this⟩
  have HRE : zAa (∀ X, Below w.heap.size w X → Calls Tryz.prog 166 #[.pointer (some ⟨g1, 0, none⟩), .pointer pz] X (JoinPost ok (partL js zs ++ z.2) X)) := ⟨fun X hX => by
    have := IH ok (some g1) z.1 (partL js zs) z.2 X (by have := HZL.out; have := HN.out; omega) (fun k hk => HOK.out k (Nat.le_trans hX.size hk)) (HB1.out.keep hX) ((HZ.out z (by simp)).keep hX) (HI.out.sub (by have := HZL.out; simp only [List.length_append]; omega) (fun x hx => by
      rcases List.mem_append.1 hx with hx | hx
      · exact List.mem_append_left _ hx
      · exact List.mem_append_right _ ((zDa HL2.out x).2 (.inr ⟨z, by simp, hx⟩))))
    rw [HPZ.out] at this
    exact this⟩
  have HNO : zAa (∀ W o, Below w.heap.size w W → PartAt ok W o (partL js zs ++ z.2) → NodeC ok n2 (some adk) (some adv) ck cv m (m + 1) (o :: C.map (·.1)) (partL js zs ++ partL js2 (z :: C)) W) := ⟨fun W o hW ho => by
    have := node_c (w := W) (m := m) (q := m + 1) (fun k hk => HOK.out k (Nat.le_trans hW.size hk)) (H2.out.keep hW) (H3.out.keep hW) (zs := (o, partL js zs ++ z.2) :: C) (fun y hy => by
      rcases List.mem_cons.1 hy with hy | hy
      · rw [hy]
        exact ho
      · exact (HZ.out y (List.mem_cons_of_mem _ hy)).keep hW) (HJL.out o).2 (by rw [(HJL.out o).1]; exact HI.out) HM.out (by rw [List.length_cons, HA.out])
    rw [(HJL.out o).1, List.map_cons] at this
    exact this⟩
  have t1 : decide ((n2 : Int) < (n1 : Int)) = false := df (by omega)
  have t1' : ¬ ((n2 : Int) < (n1 : Int)) := by omega
  have t2 : decide ((n1 : Int) < (n2 : Int)) = true := dt (by omega)
  have t3 : (n1 : Int) < (n2 : Int) := by omega
  have k1 : (1 : Int) ≤ (cc : Int) := by omega
  have k2 : (1 : Int) ≤ (m : Int) + 1 := by omega
  have k3 : (0 : Int) < (m : Int) + 1 := by omega
  have k4 : (m : Int) + 1 ≤ (cc : Int) := by omega
  have k5 : m + 1 - 1 = m := by omega
  clear a1 a2 a3 a4 b1 hi hN hok hpz L1 L2 z1 z2 h1 h2 hb hb1 hJL hC hm hzl J1 J2 IH
  go_enter Tryz.func166, Tryz.ntmps166
  go_upto_region 5 with fail
  go_region_held3 (fun w' => w'.cell? ⟨g1, 0, none⟩ = some (.int .i64 n1) ∧ w'.cell? ⟨g2, 0, none⟩ = some (.int .i64 n2))
    (first | exact ⟨(zAc (zAf HG2.out (zAg (Below.refl _ _))) 0).trans rfl, (zAc (zAf H1.out (zAg (Below.refl _ _))) 0).trans rfl⟩)
    (first | fail)
  go_upto_region 8 with fail
  go_region_held3 (fun w' => w'.cell? ⟨g1, 0, none⟩ = some (.int .i64 n1) ∧ w'.cell? ⟨g2, 0, none⟩ = some (.int .i64 n2))
    (first | exact ⟨(zAc (zAf HG2.out (zAg (zAg (Below.refl _ _)))) 0).trans rfl, (zAc (zAf H1.out (zAg (zAg (Below.refl _ _)))) 0).trans rfl⟩)
    (first | fail)
  have HBx : zAa (Below w.heap.size w w.drew.drew) := ⟨zAg (zAg (Below.refl _ _))⟩
  have hg1' : g1 < w.drew.drew.heap.size := hg1
  have hg2' : g2 < w.drew.drew.heap.size := hg2
  obtain ⟨wd, hwd⟩ : ∃ wd, w.drew.drew = wd := ⟨_, rfl⟩
  have HSZ : zAa (wd.heap.size = w.heap.size) := ⟨by rw [← hwd]; rfl⟩
  rw [hwd] at HBx hg1' hg2' ⊢
  clear hwd
  go_upto_region 9 with fail
  go_region_held3 (fun w' => w'.cell? ⟨g2, 0, none⟩ = some (.int .i64 n2) ∧ w'.cell? ⟨g2, 1, none⟩ = some (.slice (some adk) m ck) ∧ w'.cell? ⟨g2, 2, none⟩ = some (.slice (some adv) m cv) ∧ w'.cell? ⟨g2, 3, none⟩ = some (.slice (some adc) (m + 1) cc) ∧ w'.cell? adc = some (.pointer pz))
    (first | exact keep5 H1.out (by repeat (first | exact Below.refl _ _ | exact HBx.out | exact HB3.out | exact HB4.out | exact HB6.out | exact HB8.out | refine zAg ?_ | refine zAb ?_ _)) rfl rfl rfl rfl hcz)
    (first
      | (go_at_call 166; refine (HRE.out _ (by repeat (first | exact Below.refl _ _ | exact HBx.out | exact HB3.out | exact HB4.out | exact HB6.out | exact HB8.out | refine zAg ?_ | refine zAb ?_ _))).mono ?_; rintro e W4 ⟨o4, he, hp, hb⟩; obtain ⟨p4, hp4⟩ := zBc o4; rw [hp4] at he; subst he; have HP4' := zAa.mk hp4; have HP4 := zAa.mk hp; have HB4' := zAa.mk (bl_to (w2 := wd) (by repeat (first | exact Below.refl _ _ | refine zAg ?_ | refine zAb ?_ _)) hb); have HB4 := zAa.mk (bl_to HBx.out HB4'.out); clear hp hb hp4)
      | (refine Kd.R_append_rows_step kP (Rr := kP.K W4) (w0 := W4) W4.heap.size (by rfl) (.tmp 93) (.tmp 98) 148 110 (.pointer none) 8 rfl Tryz.underlying148 info110 rfl (by decide) (by omega) (.slice (some ⟨W4.heap.size, 0, none⟩) 1 1) [o4] (List.map (fun x : Kid => x.1) C) _ m _ (fun _ => True) (fun _ => False) rfl rfl (own1 HP4'.out (Nat.le_refl _)) (HTL.out (W4.alloc (.cells #[.pointer p4] 110)) (by repeat (first | exact Below.refl _ _ | exact HBx.out | exact HB3.out | exact HB4.out | exact HB6.out | exact HB8.out | refine zAg ?_ | refine zAb ?_ _))) (fun x cs h => h) (fun _ hk => hk.elim) (fun _ _ => trivial) (zAb (Below.refl _ _) _) (by simp) (by simp; omega) ?_; intro v6 W6 ho hb hg hat; have HR6 := zAa.mk ho; have HB6 := zAa.mk (bl_to HB4.out hb); have HP6 := zAa.mk (HP4.out.keep hb); clear ho hb hg hat; obtain ⟨A6, c6, e6⟩ := Kd.zAk HR6.out; rw [List.length_append, List.length_singleton, show (List.map (fun x : Kid => x.1) C).length = m from (HTL.out _ (Below.refl _ _)).1, Nat.add_comm] at e6; subst e6)
      | (go_at_call 158; refine (HNO.out _ _ HB6.out HP6.out _ _ ((PAt_FF HR6.out).mono (fun k hk => HOK.out k (Nat.le_trans HB4.out.size hk)))).mono ?_; rintro e W8 ⟨o8, he, hp, hb⟩; obtain ⟨p8, hp8⟩ := zBc o8; rw [hp8] at he; subst he; have HP8' := zAa.mk hp8; have HP8 := zAa.mk hp; have HB8 := zAa.mk (bl_to HB6.out hb); clear hp hb hp8))
  go_wp2_with fail
  go_ret
  exact ⟨o8, by rw [HP8'.out]; rfl, HP8.out, HB8.out⟩
end Go.Proofs.YtpckachmleonlaaGreatDoor
end
