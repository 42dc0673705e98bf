/- Words and walks for Split and Tablet: texts of these sessions, and of the kit's print, cut down to what is used (P2 Q2). -/
import Derived.Test.YtpckachmleonlaaGreatDoorCv20
section
set_option linter.unusedVariables false
set_option linter.unusedSimpArgs false
namespace Go.Proofs.YtpckachmleonlaaGreatDoor
open Go.RowKit Go.Proofs.YtpckachmleonlaaGreatDoorW.PrintWords
def eachV (g : Nat) : Value := .func (.func 126) #[] #[.pointer (some ⟨g, 0, none⟩), .pointer (some ⟨g + 1, 0, none⟩), .pointer (some ⟨g + 3, 0, none⟩), .pointer (some ⟨g + 2, 0, none⟩), .pointer (some ⟨g + 4, 0, none⟩)]
def preL : List Jt → List Kid → Nat → List It
 | _, _, 0 => []
 | j :: js, z :: zs, i + 1 => z.2 ++ j.it :: preL js zs i
 | [], z :: _, _ + 1 => z.2
 | _, [], _ + 1 => []
theorem preL_succ : ∀ (i : Nat) (js : List Jt) (zs : List Kid) (h : i < zs.length), zs.length = js.length + 1 → preL js zs (i + 1) = preL js zs i ++ zs[i].2 ++ (if hj : i < js.length then [js[i].it] else [])
 | 0, j :: js, z :: zs, h, hl => by
  cases zs <;> simp [preL]
 | 0, [], z :: zs, h, hl => by simp [preL]
 | i + 1, j :: js, z :: zs, h, hl => by
  have := preL_succ i js zs (by simpa using h) (by simpa using hl)
  simp only [preL, this, List.getElem_cons_succ, List.length_cons, Nat.add_lt_add_iff_right, List.append_assoc, List.cons_append]
 | i + 1, [], z :: zs, h, hl => by simp at hl; subst hl; simp at h
 | _, _, [], h, _ => by simp at h
theorem preL_all : ∀ (js : List Jt) (zs : List Kid), zs.length = js.length + 1 → preL js zs (js.length + 1) = partL js zs
 | [], [z], _ => by simp [preL, partL, inter]
 | j :: js, z :: zs, h => by
  have := preL_all js zs (by simpa using h)
  simp only [List.length_cons]
  rw [preL, this]
  simp [partL, inter]
 | [], _ :: _ :: _, h => by simp at h
 | _, [], h => by simp at h
theorem preL_len {js : List Jt} {zs : List Kid} (hl : zs.length = js.length + 1) : ∀ i, i ≤ js.length + 1 → (preL js zs i).length ≤ (partL js zs).length := by
 have hm : ∀ i, i < zs.length → (preL js zs i).length ≤ (preL js zs (i + 1)).length := fun i hi => by
  rw [preL_succ i js zs hi hl]
  simp only [List.length_append]
  omega
 have h2 : ∀ k i, i + k = js.length + 1 → (preL js zs i).length ≤ (partL js zs).length := by
  intro k
  induction k with
  | zero => intro i hi; rw [← preL_all js zs hl]; rw [Nat.add_zero] at hi; rw [hi]; exact Nat.le_refl _
  | succ k ih => intro i hi; exact Nat.le_trans (hm i (by omega)) (ih (i + 1) (by omega))
 intro i hi
 exact h2 (js.length + 1 - i) i (by omega)
def filtI (lo hi : List Int) (l : List It) : List It := l.filter fun x => insB lo hi x.1
theorem filtI_app (lo hi : List Int) (a b : List It) : filtI lo hi (a ++ b) = filtI lo hi a ++ filtI lo hi b := List.filter_append ..
theorem filtI_le (lo hi : List Int) (a : List It) : (filtI lo hi a).length ≤ a.length := List.length_filter_le ..
theorem ItInv.drew {w0 W : World} {lo hi : List Int} {most : Nat} {acc : List It} (h : ItInv w0 lo hi most W acc) : ItInv w0 lo hi most W.drew acc := by
 obtain ⟨v, h1, h2⟩ := h.o
 exact ⟨h.toItR.keep (zAg (Below.refl _ _)), v, h1, Kd.zGd h2⟩
theorem keepW {w W : World} {g : Nat} {C : Array Value} {a b : Addr} {c1 c2 ca cb : Value} (h : w.heap[g]? = some (.cells C 150 (0, 0))) (hb : Below w.heap.size w W) (e1 : C[1]? = some c1) (e2 : C[2]? = some c2) (ea : w.cell? a = some ca) (eb : w.cell? b = some cb) :
  W.cell? ⟨g, 1, none⟩ = some c1 ∧ W.cell? ⟨g, 2, none⟩ = some c2 ∧ W.cell? a = some ca ∧ W.cell? b = some cb :=
 ⟨(zAc (zAf h hb) 1).trans e1, (zAc (zAf h hb) 2).trans e2, pw_cell_below hb ea, pw_cell_below hb eb⟩
def WalkC (w0 : World) (lo hi : List Int) (most N : Nat) : Prop := ∀ (o : Option Nat) (l : List It) (W : World) (acc : List It), l.length < N → PartAt (fun k => k < w0.heap.size) w0 o l → ItOk l → ItInv w0 lo hi most W acc → acc.length + l.length ≤ most →
 Calls Tryz.prog 125 #[ptrV o, eachV w0.heap.size] W fun e w' => e = .returned (.bool true) ∧ ItInv w0 lo hi most w' (acc ++ filtI lo hi l)
set_option maxHeartbeats 8000000 in
set_option maxRecDepth 100000 in
theorem walk_any (w0 : World) (lo hi : List Int) (most : Nat) (hmost : most ≤ 1000) : ∀ N, WalkC w0 lo hi most N
 | 0 => fun _ _ _ _ h => absurd h (Nat.not_lt_zero _)
 | N + 1 => fun o l W acc hN hp hi' hinv hlen => by
  have IH := walk_any w0 lo hi most hmost N
  rcases hp.inv with ⟨rfl, rfl⟩ | ⟨g, n, js, zs, rfl, rfl, hNI, hL, hJ, hz⟩
  ·have HI := zAa.mk hinv
   clear hp hi' hinv hlen hN IH
   change Calls Tryz.prog 125 #[.pointer none, eachV w0.heap.size] W _
   go_enter Tryz.func125, Tryz.ntmps125
   go_wp2_with fail
   go_ret
   exact ⟨rfl, by rw [show filtI lo hi [] = [] from rfl, List.append_nil]; exact HI.out⟩
  ·have hzl : zs.length = js.length + 1 := by have := hL.len; simpa using this
   obtain ⟨adk, ck, adv, cv, adc, cc, As, cs, h1, h2, h3, h4, h5, h6, h7, h8⟩ := hNI.data hJ (by simpa using hzl)
   have hj100 : js.length ≤ 100 := by have := zDh hL; have := hi'.n; omega
   obtain ⟨m, hm⟩ : ∃ m, js.length = m := ⟨_, rfl⟩
   rw [hm] at h1 h5 h6 h7 h8 hj100
   have H1 := zAa.mk h1
   have H2 := zAa.mk h2.now
   have H3 := zAa.mk h3.now
   have H4 := zAa.mk h4.now
   have HM := zAa.mk hm
   have HL := zAa.mk hL
   have HZ := zAa.mk hz
   have HZL := zAa.mk hzl
   have HI := zAa.mk hi'
   have HV := zAa.mk hinv
   have HLE := zAa.mk hlen
   have HKL := zAa.mk (zGe hL hJ)
   have HIH := zAa.mk IH
   have HNN := zAa.mk hN
   have HMO := zAa.mk hmost
   have d3 : W.cell? ⟨g, 3, none⟩ = some (.slice (some adc) (m + 1) cc) := (zAc (zAf h1 hinv.below) 3).trans rfl
   have hgl := zAj (zAf h1 hinv.below)
   obtain ⟨g0, hg0⟩ : ∃ g0, w0.heap.size = g0 := ⟨_, rfl⟩
   have HG0 := zAa.mk hg0
   rw [hg0]
   clear h1 h2 h3 h4 hm hL hz hzl hi' hinv hlen hN hp hNI hJ IH hmost hg0
   change Calls Tryz.prog 125 #[.pointer (some ⟨g, 0, none⟩), .func (.func 126) #[] #[.pointer (some ⟨g0, 0, none⟩), .pointer (some ⟨g0 + 1, 0, none⟩), .pointer (some ⟨g0 + 3, 0, none⟩), .pointer (some ⟨g0 + 2, 0, none⟩), .pointer (some ⟨g0 + 4, 0, none⟩)]] W _
   go_enter Tryz.func125, Tryz.ntmps125
   go_wp2_with fail
   go_loopw [14] (fun v14 w' => ∃ i : Nat, i ≤ m + 1 ∧ v14 = .int .i64 i ∧ zAa (ItInv w0 lo hi most w' (acc ++ filtI lo hi (preL js zs i)))) (fun v14 _ => m + 1 - (intOf v14).toNat)
   case atStart => exact ⟨0, by omega, rfl, ⟨by rw [preL, show filtI lo hi [] = [] from rfl, List.append_nil]; exact HV.out⟩⟩
   case round =>
    obtain ⟨i, him, rfl, HW⟩ := hrel
    by_cases hlt : i < m + 1
    ·have hiz : i < zs.length := by have := HZL.out; have := HM.out; omega
     have hzc : ((zs.map (·.1)).getD i none) = zs[i].1 := by simp [List.getD_eq_getElem?_getD, hiz]
     obtain ⟨pz, hpz⟩ := zBc zs[i].1
     have hcz0 : w0.cell? (adc.add i) = some (.pointer pz) := by rw [← hpz]; exact cell_of_C H4.out.row (by rw [List.length_map]; exact hiz) hzc
     have hcz := pw_cell_below HW.out.below hcz0
     have hiI : (i : Int) < (m : Int) + 1 := by omega
     have hzlen := HKL.out zs[i] (List.getElem_mem hiz)
     have hpre : (preL js zs i).length + zs[i].2.length ≤ (partL js zs).length := by
      have h9 := preL_len HZL.out (i + 1) (by have := HM.out; omega)
      rw [preL_succ i js zs hiz HZL.out, List.length_append, List.length_append] at h9
      omega
     have hfle := filtI_le lo hi (preL js zs i)
     have HREC : zAa (Calls Tryz.prog 125 #[.pointer pz, .func (.func 126) #[] #[.pointer (some ⟨g0, 0, none⟩), .pointer (some ⟨g0 + 1, 0, none⟩), .pointer (some ⟨g0 + 3, 0, none⟩), .pointer (some ⟨g0 + 2, 0, none⟩), .pointer (some ⟨g0 + 4, 0, none⟩)]] wr.drew fun e w' => e = .returned (.bool true) ∧ ItInv w0 lo hi most w' (acc ++ filtI lo hi (preL js zs i ++ zs[i].2))) := ⟨by
      have h9 := HIH.out zs[i].1 zs[i].2 wr.drew (acc ++ filtI lo hi (preL js zs i)) (by have := HNN.out; omega) (HZ.out _ (List.getElem_mem hiz)) (HI.out.sub (by omega) (fun x hx => (zDa HL.out x).2 (.inr ⟨zs[i], List.getElem_mem hiz, hx⟩))) HW.out.drew (by have h8 := HLE.out; rw [List.length_append]; omega)
      rw [hpz, List.append_assoc, ← filtI_app, eachV, HG0.out] at h9
      exact h9⟩
     have HBr := zAa.mk HW.out.below
     have HSU := zAa.mk (preL_succ i js zs hiz HZL.out)
     have HPRE := zAa.mk hpre
     clear hzc hpz hcz0 hzlen hpre hfle
     by_cases hlt2 : i < m
     ·have hij : i < js.length := by rw [HM.out]; exact hlt2
      have hiI2 : (i : Int) < (m : Int) := by omega
      have hdI : decide ((i : Int) < (m : Int)) = true := dt hiI2
      have hdN : decide (i < m) = true := dt hlt2
      obtain ⟨a1, A1, n1, e1, b1, k1, k2, k3⟩ := rowAt H2.out.deep i (by rw [List.length_map, List.length_map]; exact hij)
      obtain ⟨a2, A2, n2, e2, b2, l1, l2, l3⟩ := rowAt H3.out.deep i (by rw [List.length_map, List.length_map]; exact hij)
      injection e1 with e1
      injection e2 with e2
      subst e1 e2
      have g1 : rd_L ((js.map (·.1)).map (·.2)) i = js[i].1.2 := by simp [rd_L, List.getD_eq_getElem?_getD, hij]
      have g2 : rd_L ((js.map (·.2)).map (·.2)) i = js[i].2.2 := by simp [rd_L, List.getD_eq_getElem?_getD, hij]
      rw [g1] at k1 k2 k3
      rw [g2] at l1 l2 l3
      have hin : js[i].it ∈ partL js zs := (zDa HL.out _).2 (.inl (List.mem_map_of_mem (List.getElem_mem hij)))
      have hik := HI.out.k _ hin
      have HSJ := zAa.mk HSU.out
      rw [dif_pos hij] at HSJ
      have hfin : (filtI lo hi (preL js zs i ++ zs[i].2)).length ≤ (preL js zs i ++ zs[i].2).length := filtI_le _ _ _
      have hpl : (preL js zs i ++ zs[i].2).length + 1 ≤ (partL js zs).length := by
       have h9 := preL_len HZL.out (i + 1) (by have := HM.out; omega)
       rw [HSJ.out, List.length_append, List.length_singleton] at h9
       exact h9
      have hEQ : acc ++ filtI lo hi (preL js zs (i + 1)) = (if insB lo hi js[i].1.2 then (acc ++ filtI lo hi (preL js zs i ++ zs[i].2)) ++ [(js[i].1.2, js[i].2.2)] else acc ++ filtI lo hi (preL js zs i ++ zs[i].2)) := by
       rw [HSJ.out, filtI_app]
       by_cases h9 : insB lo hi js[i].1.2 = true
       ·rw [if_pos h9, List.append_assoc]
        congr 2
        simp [filtI, Jt.it, h9]
       ·rw [if_neg h9]
        have : filtI lo hi [js[i].it] = [] := by simp [filtI, Jt.it, h9]
        rw [this, List.append_nil]
      obtain ⟨kl, hkl⟩ : ∃ kl, js[i].1.2.length = kl := ⟨_, rfl⟩
      obtain ⟨vl, hvl⟩ : ∃ vl, js[i].2.2.length = vl := ⟨_, rfl⟩
      have HEA : zAa (∀ X, ItInv w0 lo hi most X (acc ++ filtI lo hi (preL js zs i ++ zs[i].2)) → Calls Tryz.prog 126 #[.slice A1 kl n1, .slice A2 vl n2, .pointer (some ⟨g0, 0, none⟩), .pointer (some ⟨g0 + 1, 0, none⟩), .pointer (some ⟨g0 + 3, 0, none⟩), .pointer (some ⟨g0 + 2, 0, none⟩), .pointer (some ⟨g0 + 4, 0, none⟩)] X fun e w' => e = .returned (.bool true) ∧ ItInv w0 lo hi most w' (acc ++ filtI lo hi (preL js zs (i + 1)))) := ⟨fun X hX => by
       have h9 := each_any w0 lo hi most X _ A1 A2 n1 n2 js[i].1.2 js[i].2.2 hX k3 k2 l3 l2 hik.1 hik.2.1 (fun _ => by have h8 := HLE.out; rw [List.length_append]; omega) HMO.out _ hEQ.symm
       rw [HG0.out, hkl, hvl] at h9
       exact h9⟩
      rw [hkl] at k1
      rw [hvl] at l1
      clear k2 k3 l2 l3 g1 g2 hin hik hfin hpl hEQ hkl hvl HSU HSJ HPRE
      generalize acc ++ filtI lo hi (preL js zs i ++ zs[i].2) = BB at HREC HEA
      clear hij hiz
      go_upto_region 6 with fail
      go_region_held3 (fun w' => w'.cell? ⟨g, 1, none⟩ = some (.slice (some adk) m ck) ∧ w'.cell? ⟨g, 2, none⟩ = some (.slice (some adv) m cv) ∧ w'.cell? (adk.add i) = some (.slice A1 kl n1) ∧ w'.cell? (adv.add i) = some (.slice A2 vl n2))
       (first | exact keepW H1.out (by with_reducible repeat (first | exact HBr.out | exact HB1.out.below | exact HB2.out.below | refine zAg ?_)) rfl rfl k1 l1)
       (first
        | (go_at_call 125; refine HREC.out.mono ?_; rintro e3 W1 ⟨rfl, hI1⟩; have HB1 := zAa.mk hI1; clear hI1)
        | (go_at_call 126; refine (HEA.out _ HB1.out).mono ?_; rintro e4 W2 ⟨rfl, hI2⟩; have HB2 := zAa.mk hI2; clear hI2))
      go_wp2_with fail
      go_roundw
      case rel => exact ⟨i + 1, by omega, by go_num, HB2⟩
      case measure => simp [intOf]; omega
     ·obtain rfl : i = m := by omega
      have HSJ := zAa.mk HSU.out
      rw [dif_neg (by rw [HM.out]; exact Nat.lt_irrefl _), List.append_nil] at HSJ
      rw [← HSJ.out] at HREC
      have hiI2 : ¬ ((i : Int) < (i : Int)) := by omega
      have hdI : decide ((i : Int) < (i : Int)) = false := df hiI2
      have hdN : decide (i < i) = false := df (Nat.lt_irrefl _)
      clear HSU HSJ HPRE hiz
      go_upto_region 6 with fail
      refine wp_region_held_drew (S := fun w' => w'.cell? ⟨g, 1, none⟩ = some (.slice (some adk) i ck) ∧ w'.cell? ⟨g, 2, none⟩ = some (.slice (some adv) i cv)) (by kernel_rfl) (keepO H1.out (zAg HBr.out) rfl rfl) (fun hHeld => ?_)
      (refine wpAnyH_take (i := 0) (v := ?_) rfl (by kernel_rfl) (by kernel_rfl) (by kernel_rfl) (fun _ _ _ h => h) (Or.inl ⟨by rfl, ?_⟩) (by assumption) ?_; rotate_left; (focus (intro w hSw; (try dsimp only at hSw); go_simp; (try with_reducible rfl))); (try simp only [Act.put, List.getElem_toArray, List.getElem_cons_zero, List.getElem_cons_succ, List.setIfInBounds_toArray, List.set_cons_zero, List.set_cons_succ]))
      (refine wpAnyH_take (i := 1) (v := ?_) rfl (by kernel_rfl) (by kernel_rfl) (by kernel_rfl) (fun _ _ _ h => h) (Or.inl ⟨by rfl, ?_⟩) (by assumption) ?_; rotate_left; (focus (intro w hSw; (try dsimp only at hSw); go_simp; (try with_reducible rfl))); (try simp only [Act.put, List.getElem_toArray, List.getElem_cons_zero, List.getElem_cons_succ, List.setIfInBounds_toArray, List.set_cons_zero, List.set_cons_succ]))
      refine wpAnyH_ready (rs := [2]) (by kernel_rfl) (by simp) ?_
      refine AllReadyH.cons rfl (fun K hK => ?_) AllReadyH.nil
      go_simp
      refine HREC.out.mono ?_
      rintro e3 W1 ⟨rfl, hI1⟩
      have HB1 := zAa.mk hI1
      clear hI1
      refine hK.out _ _ (keepO H1.out HB1.out.below rfl rfl) (fun hHeld2 => ?_)
      clear hK K hHeld
      (try simp only [Act.put, List.getElem_toArray, List.getElem_cons_zero, List.getElem_cons_succ, List.setIfInBounds_toArray, List.set_cons_zero, List.set_cons_succ])
      (refine wpAnyH_take (i := 3) (v := ?_) rfl (by kernel_rfl) (by kernel_rfl) (by kernel_rfl) (fun _ _ _ h => h) (Or.inl ⟨by rfl, ?_⟩) (by assumption) ?_; rotate_left; (focus (intro w hSw; (try dsimp only at hSw); go_simp; (try with_reducible rfl))); (try simp only [Act.put, List.getElem_toArray, List.getElem_cons_zero, List.getElem_cons_succ, List.setIfInBounds_toArray, List.set_cons_zero, List.set_cons_succ]))
      (refine wpAnyH_take (i := 4) (v := ?_) rfl (by kernel_rfl) (by kernel_rfl) (by kernel_rfl) (fun _ _ _ h => h) (Or.inl ⟨by rfl, ?_⟩) (by assumption) ?_; rotate_left; (focus (intro w hSw; (try dsimp only at hSw); go_simp; (try with_reducible rfl))); (try simp only [Act.put, List.getElem_toArray, List.getElem_cons_zero, List.getElem_cons_succ, List.setIfInBounds_toArray, List.set_cons_zero, List.set_cons_succ]))
      (refine wpAnyH_take (i := 5) (v := ?_) rfl (by kernel_rfl) (by kernel_rfl) (by kernel_rfl) (fun _ _ _ h => h) (Or.inl ⟨by rfl, ?_⟩) (by assumption) ?_; rotate_left; (focus (intro w hSw; (try dsimp only at hSw); go_simp; (try with_reducible rfl))); (try simp only [Act.put, List.getElem_toArray, List.getElem_cons_zero, List.getElem_cons_succ, List.setIfInBounds_toArray, List.set_cons_zero, List.set_cons_succ]))
      (refine wpAnyH_take (i := 6) (v := ?_) rfl (by kernel_rfl) (by kernel_rfl) (by kernel_rfl) (fun _ _ _ h => h) (Or.inl ⟨by rfl, ?_⟩) (by assumption) ?_; rotate_left; (focus (intro w hSw; (try dsimp only at hSw); go_simp; (try with_reducible rfl))); (try simp only [Act.put, List.getElem_toArray, List.getElem_cons_zero, List.getElem_cons_succ, List.setIfInBounds_toArray, List.set_cons_zero, List.set_cons_succ]))
      (refine wpAnyH_take (i := 7) (v := ?_) rfl (by kernel_rfl) (by kernel_rfl) (by kernel_rfl) (fun _ _ _ h => h) (Or.inl ⟨by rfl, ?_⟩) (by assumption) ?_; rotate_left; (focus (intro w hSw; (try dsimp only at hSw); go_simp; (try with_reducible rfl))); (try simp only [Act.put, List.getElem_toArray, List.getElem_cons_zero, List.getElem_cons_succ, List.setIfInBounds_toArray, List.set_cons_zero, List.set_cons_succ]))
      (refine wpAnyH_take (i := 8) (v := ?_) rfl (by kernel_rfl) (by kernel_rfl) (by kernel_rfl) (fun _ _ _ h => h) (Or.inl ⟨by rfl, ?_⟩) (by assumption) ?_; rotate_left; (focus (intro w hSw; (try dsimp only at hSw); go_simp; (try with_reducible rfl))); (try simp only [Act.put, List.getElem_toArray, List.getElem_cons_zero, List.getElem_cons_succ, List.setIfInBounds_toArray, List.set_cons_zero, List.set_cons_succ]))
      (refine wpAnyH_take (i := 9) (v := ?_) rfl (by kernel_rfl) (by kernel_rfl) (by kernel_rfl) (fun _ _ _ h => h) (Or.inl ⟨by rfl, ?_⟩) (by assumption) ?_; rotate_left; (focus (intro w hSw; (try dsimp only at hSw); go_simp; (try with_reducible rfl))); (try simp only [Act.put, List.getElem_toArray, List.getElem_cons_zero, List.getElem_cons_succ, List.setIfInBounds_toArray, List.set_cons_zero, List.set_cons_succ]))
      (refine wpAnyH_take (i := 10) (v := ?_) rfl (by kernel_rfl) (by kernel_rfl) (by kernel_rfl) (fun _ _ _ h => h) (Or.inl ⟨by rfl, ?_⟩) (by assumption) ?_; rotate_left; (focus (intro w hSw; (try dsimp only at hSw); go_simp; (try with_reducible rfl))); (try simp only [Act.put, List.getElem_toArray, List.getElem_cons_zero, List.getElem_cons_succ, List.setIfInBounds_toArray, List.set_cons_zero, List.set_cons_succ]))
      (refine wpAnyH_take (i := 11) (v := ?_) rfl (by kernel_rfl) (by kernel_rfl) (by kernel_rfl) (fun _ _ _ h => h) (Or.inl ⟨by rfl, ?_⟩) (by assumption) ?_; rotate_left; (focus (intro w hSw; (try dsimp only at hSw); go_simp; (try with_reducible rfl))); (try simp only [Act.put, List.getElem_toArray, List.getElem_cons_zero, List.getElem_cons_succ, List.setIfInBounds_toArray, List.set_cons_zero, List.set_cons_succ]))
      (refine wpAnyH_take (i := 12) (v := ?_) rfl (by kernel_rfl) (by kernel_rfl) (by kernel_rfl) (fun _ _ _ h => h) (Or.inl ⟨by rfl, ?_⟩) (by assumption) ?_; rotate_left; (focus (intro w hSw; (try dsimp only at hSw); go_simp; (try with_reducible rfl))); (try simp only [Act.put, List.getElem_toArray, List.getElem_cons_zero, List.getElem_cons_succ, List.setIfInBounds_toArray, List.set_cons_zero, List.set_cons_succ]))
      (refine wpAnyH_take (i := 13) (v := undef) rfl (by kernel_rfl) (by kernel_rfl) (by kernel_rfl) (fun _ _ _ h => h) (Or.inr ⟨by rfl, rfl⟩) (by assumption) ?_; (try simp only [Act.put, List.getElem_toArray, List.getElem_cons_zero, List.getElem_cons_succ, List.setIfInBounds_toArray, List.set_cons_zero, List.set_cons_succ]))
      (refine wpAnyH_take (i := 14) (v := undef) rfl (by kernel_rfl) (by kernel_rfl) (by kernel_rfl) (fun _ _ _ h => h) (Or.inr ⟨by rfl, rfl⟩) (by assumption) ?_; (try simp only [Act.put, List.getElem_toArray, List.getElem_cons_zero, List.getElem_cons_succ, List.setIfInBounds_toArray, List.set_cons_zero, List.set_cons_succ]))
      (refine wpAnyH_take (i := 15) (v := undef) rfl (by kernel_rfl) (by kernel_rfl) (by kernel_rfl) (fun _ _ _ h => h) (Or.inr ⟨by rfl, rfl⟩) (by assumption) ?_; (try simp only [Act.put, List.getElem_toArray, List.getElem_cons_zero, List.getElem_cons_succ, List.setIfInBounds_toArray, List.set_cons_zero, List.set_cons_succ]))
      (refine wpAnyH_take (i := 16) (v := undef) rfl (by kernel_rfl) (by kernel_rfl) (by kernel_rfl) (fun _ _ _ h => h) (Or.inr ⟨by rfl, rfl⟩) (by assumption) ?_; (try simp only [Act.put, List.getElem_toArray, List.getElem_cons_zero, List.getElem_cons_succ, List.setIfInBounds_toArray, List.set_cons_zero, List.set_cons_succ]))
      (refine wpAnyH_take (i := 17) (v := undef) rfl (by kernel_rfl) (by kernel_rfl) (by kernel_rfl) (fun _ _ _ h => h) (Or.inr ⟨by rfl, rfl⟩) (by assumption) ?_; (try simp only [Act.put, List.getElem_toArray, List.getElem_cons_zero, List.getElem_cons_succ, List.setIfInBounds_toArray, List.set_cons_zero, List.set_cons_succ]))
      (refine wpAnyH_take (i := 18) (v := undef) rfl (by kernel_rfl) (by kernel_rfl) (by kernel_rfl) (fun _ _ _ h => h) (Or.inr ⟨by rfl, rfl⟩) (by assumption) ?_; (try simp only [Act.put, List.getElem_toArray, List.getElem_cons_zero, List.getElem_cons_succ, List.setIfInBounds_toArray, List.set_cons_zero, List.set_cons_succ]))
      (refine wpAnyH_take (i := 19) (v := undef) rfl (by kernel_rfl) (by kernel_rfl) (by kernel_rfl) (fun _ _ _ h => h) (Or.inr ⟨by rfl, rfl⟩) (by assumption) ?_; (try simp only [Act.put, List.getElem_toArray, List.getElem_cons_zero, List.getElem_cons_succ, List.setIfInBounds_toArray, List.set_cons_zero, List.set_cons_succ]))
      (refine wpAnyH_take (i := 20) (v := undef) rfl (by kernel_rfl) (by kernel_rfl) (by kernel_rfl) (fun _ _ _ h => h) (Or.inr ⟨by rfl, rfl⟩) (by assumption) ?_; (try simp only [Act.put, List.getElem_toArray, List.getElem_cons_zero, List.getElem_cons_succ, List.setIfInBounds_toArray, List.set_cons_zero, List.set_cons_succ]))
      (refine wpAnyH_take (i := 21) (v := undef) rfl (by kernel_rfl) (by kernel_rfl) (by kernel_rfl) (fun _ _ _ h => h) (Or.inr ⟨by rfl, rfl⟩) (by assumption) ?_; (try simp only [Act.put, List.getElem_toArray, List.getElem_cons_zero, List.getElem_cons_succ, List.setIfInBounds_toArray, List.set_cons_zero, List.set_cons_succ]))
      (refine wpAnyH_take (i := 22) (v := undef) rfl (by kernel_rfl) (by kernel_rfl) (by kernel_rfl) (fun _ _ _ h => h) (Or.inr ⟨by rfl, rfl⟩) (by assumption) ?_; (try simp only [Act.put, List.getElem_toArray, List.getElem_cons_zero, List.getElem_cons_succ, List.setIfInBounds_toArray, List.set_cons_zero, List.set_cons_succ]))
      (refine wpAnyH_take (i := 23) (v := undef) rfl (by kernel_rfl) (by kernel_rfl) (by kernel_rfl) (fun _ _ _ h => h) (Or.inr ⟨by rfl, rfl⟩) (by assumption) ?_; (try simp only [Act.put, List.getElem_toArray, List.getElem_cons_zero, List.getElem_cons_succ, List.setIfInBounds_toArray, List.set_cons_zero, List.set_cons_succ]))
      (refine wpAnyH_take (i := 24) (v := undef) rfl (by kernel_rfl) (by kernel_rfl) (by kernel_rfl) (fun _ _ _ h => h) (Or.inr ⟨by rfl, rfl⟩) (by assumption) ?_; (try simp only [Act.put, List.getElem_toArray, List.getElem_cons_zero, List.getElem_cons_succ, List.setIfInBounds_toArray, List.set_cons_zero, List.set_cons_succ]))
      (refine wpAnyH_take (i := 25) (v := undef) rfl (by kernel_rfl) (by kernel_rfl) (by kernel_rfl) (fun _ _ _ h => h) (Or.inr ⟨by rfl, rfl⟩) (by assumption) ?_; (try simp only [Act.put, List.getElem_toArray, List.getElem_cons_zero, List.getElem_cons_succ, List.setIfInBounds_toArray, List.set_cons_zero, List.set_cons_succ]))
      (refine wpAnyH_take (i := 26) (v := undef) rfl (by kernel_rfl) (by kernel_rfl) (by kernel_rfl) (fun _ _ _ h => h) (Or.inr ⟨by rfl, rfl⟩) (by assumption) ?_; (try simp only [Act.put, List.getElem_toArray, List.getElem_cons_zero, List.getElem_cons_succ, List.setIfInBounds_toArray, List.set_cons_zero, List.set_cons_succ]))
      (refine wpAnyH_take (i := 27) (v := undef) rfl (by kernel_rfl) (by kernel_rfl) (by kernel_rfl) (fun _ _ _ h => h) (Or.inr ⟨by rfl, rfl⟩) (by assumption) ?_; (try simp only [Act.put, List.getElem_toArray, List.getElem_cons_zero, List.getElem_cons_succ, List.setIfInBounds_toArray, List.set_cons_zero, List.set_cons_succ]))
      (refine wpAnyH_take (i := 28) (v := undef) rfl (by kernel_rfl) (by kernel_rfl) (by kernel_rfl) (fun _ _ _ h => h) (Or.inr ⟨by rfl, rfl⟩) (by assumption) ?_; (try simp only [Act.put, List.getElem_toArray, List.getElem_cons_zero, List.getElem_cons_succ, List.setIfInBounds_toArray, List.set_cons_zero, List.set_cons_succ]))
      (refine wpAnyH_take (i := 29) (v := undef) rfl (by kernel_rfl) (by kernel_rfl) (by kernel_rfl) (fun _ _ _ h => h) (Or.inr ⟨by rfl, rfl⟩) (by assumption) ?_; (try simp only [Act.put, List.getElem_toArray, List.getElem_cons_zero, List.getElem_cons_succ, List.setIfInBounds_toArray, List.set_cons_zero, List.set_cons_succ]))
      (refine wpAnyH_take (i := 30) (v := ?_) rfl (by kernel_rfl) (by kernel_rfl) (by kernel_rfl) (fun _ _ _ h => h) (Or.inl ⟨by rfl, ?_⟩) (by assumption) ?_; rotate_left; (focus (intro w hSw; (try dsimp only at hSw); go_simp; (try with_reducible rfl))); (try simp only [Act.put, List.getElem_toArray, List.getElem_cons_zero, List.getElem_cons_succ, List.setIfInBounds_toArray, List.set_cons_zero, List.set_cons_succ]))
      (refine wpAnyH_take (i := 31) (v := ?_) rfl (by kernel_rfl) (by kernel_rfl) (by kernel_rfl) (fun _ _ _ h => h) (Or.inl ⟨by rfl, ?_⟩) (by assumption) ?_; rotate_left; (focus (intro w hSw; (try dsimp only at hSw); go_simp; (try with_reducible rfl))); (try simp only [Act.put, List.getElem_toArray, List.getElem_cons_zero, List.getElem_cons_succ, List.setIfInBounds_toArray, List.set_cons_zero, List.set_cons_succ]))
      refine wpAnyH_done (by kernel_rfl) ?_ _
      clear hHeld2
      go_wp2_with fail
      go_roundw
      case rel => exact ⟨i + 1, by omega, by go_num, HB1⟩
      case measure => first | (simp [intOf]; done) | (simp [intOf]; omega)
    ·obtain rfl : i = m + 1 := by omega
     go_wp2_with fail
     go_ret
     exact ⟨rfl, by have h9 := HW.out; rw [← HM.out, preL_all js zs HZL.out] at h9; exact h9⟩
end Go.Proofs.YtpckachmleonlaaGreatDoor
end
section
set_option linter.unusedVariables false
set_option linter.unusedSimpArgs false
namespace Go.Proofs.YtpckachmleonlaaGreatDoor
open Go.RowKit Go.Proofs.YtpckachmleonlaaGreatDoorW.PrintWords
set_option maxHeartbeats 1000000 in
theorem root_o (t o : Option Nat) (w : World) (h : (t = none ∧ o = none) ∨ ∃ b, t = some b ∧ w.heap[b]? = some (.cells #[ptrV o] 147 (0, 0))) : Calls Tryz.prog 70 #[ptrV t] w fun e w' => e = .returned (ptrV o) ∧ w' = w := by
  rcases h with ⟨rfl, rfl⟩ | ⟨b, rfl, h3⟩
  · change Calls Tryz.prog 70 #[.pointer none] w _
    go_enter Tryz.func70, Tryz.ntmps70
    go_wp2_with fail
    go_ret
    exact ⟨rfl, rfl⟩
  · obtain ⟨p, hpo⟩ := zBc o
    have hc : w.cell? ⟨b, 0, none⟩ = some (.pointer p) := by rw [← hpo]; exact (zAc h3 0).trans rfl
    have hlt := zAj h3
    have HPO := zAa.mk hpo
    clear h3 hpo
    change Calls Tryz.prog 70 #[.pointer (some ⟨b, 0, none⟩)] w _
    go_enter Tryz.func70, Tryz.ntmps70
    go_wp2_with fail
    go_ret
    exact ⟨by rw [HPO.out]; rfl, rfl⟩
set_option maxHeartbeats 4000000 in
set_option maxRecDepth 100000 in
theorem items_any (ok : Nat → Prop) (t : Option Nat) (l : List It) (A B : Option Addr) (c d most : Nat) (lo hi : List Int) (w : World) (h : zDk ok w t l) (hi' : ItOk l) (hl : kB.C w A lo.length lo) (hh : kB.C w B hi.length hi) (hm : l.length ≤ most) (hm2 : most ≤ 1000) :
    Calls Tryz.prog 95 #[ptrV t, .slice A lo.length c, .slice B hi.length d, .int .i64 most] w fun e w' => ∃ v, e = .returned (.tuple #[v, .bool false]) ∧ Kd.R kI 129 w' w.heap.size (fun _ => True) v (filtI lo hi l) ∧ Below w.heap.size w w' := by
  have HH := zAa.mk h
  have HI := zAa.mk hi'
  have HL := zAa.mk (And.intro hl hh)
  have HM := zAa.mk (And.intro hm hm2)
  obtain ⟨pt, hpt⟩ := zBc t
  have HPT := zAa.mk hpt
  rw [hpt]
  obtain ⟨nl, hnl⟩ : ∃ nl, lo.length = nl := ⟨_, rfl⟩
  obtain ⟨nh, hnh⟩ : ∃ nh, hi.length = nh := ⟨_, rfl⟩
  have HNL := zAa.mk hnl
  have HNH := zAa.mk hnh
  rw [hnl, hnh]
  clear h hi' hl hh hm hm2 hpt hnl hnh
  go_enter Tryz.func95, Tryz.ntmps95
  go_wp2_with fail
  obtain ⟨W0, hW0⟩ : ∃ W0, W0 = ((((w.alloc (.cells #[.slice A nl c] 47)).alloc (.cells #[.slice B nh d] 47)).alloc (.cells #[.int .i64 most] 3)).alloc (.cells #[.slice none 0 0] 88)).alloc (.cells #[.bool false] 4) := ⟨_, rfl⟩
  have hb0 : Below w.heap.size w W0 := by rw [hW0]; exact zAb (zAb (zAb (zAb (zAb (Below.refl _ _) _) _) _) _) _
  have hsz : w.heap.size = w.heap.toList.length := by simp
  have HV : zAa (ItInv w lo hi most W0 []) := ⟨by
    rw [hW0]
    refine ⟨⟨zAb (zAb (zAb (zAb (zAb (Below.refl _ _) _) _) _) _) _, ⟨A, c, ?_, HL.out.1⟩, ⟨B, d, ?_, HL.out.2⟩, ?_, ?_⟩, .slice none 0 0, ?_, Kd.R_nil _ _ _ _ _⟩
    · rw [HNL.out]
      exact zAi (zAi (zAi (zAi (heap_alloc_new _ _) _) _) _) _
    · rw [HNH.out]
      exact zAi (zAi (zAi (hN3 w _ _) _) _) _
    · exact zAi (zAi (hM3 w _ _ _) _) _
    · have h9 := heap_alloc_new ((((w.alloc (.cells #[.slice A nl c] 47)).alloc (.cells #[.slice B nh d] 47)).alloc (.cells #[.int .i64 most] 3)).alloc (.cells #[.slice none 0 0] 88)) (.cells #[.bool false] 4)
      rw [World.size_alloc, World.size_alloc, World.size_alloc, World.size_alloc] at h9
      exact h9
    · refine zAi ?_ _
      have h9 := heap_alloc_new (((w.alloc (.cells #[.slice A nl c] 47)).alloc (.cells #[.slice B nh d] 47)).alloc (.cells #[.int .i64 most] 3)) (.cells #[.slice none 0 0] 88)
      rw [World.size_alloc, World.size_alloc, World.size_alloc] at h9
      exact h9⟩
  rw [← hW0]
  obtain ⟨o', hp', hcase⟩ := HH.out
  have hr := root_o t o' W0 (by
    rcases hcase with h9 | ⟨b, h9, _, h10⟩
    · exact .inl h9
    · exact .inr ⟨b, h9, zAf h10 hb0⟩)
  obtain ⟨po, hpo⟩ := zBc o'
  rw [HPT.out, hpo] at hr
  have HR := zAa.mk hr
  have hwk := walk_any w lo hi most HM.out.2 (l.length + 1) o' l W0 [] (Nat.lt_succ_self _) (hp'.lt.mono (fun k hk => hk.2)) HI.out HV.out (by have := HM.out.1; simpa using this)
  rw [hpo, eachV, List.nil_append] at hwk
  have HWK := zAa.mk hwk
  clear hW0 hb0 hsz hr hp' hwk hpo hcase
  obtain ⟨g, hg⟩ : ∃ g, w.heap.size = g := ⟨_, rfl⟩
  have HG := zAa.mk hg
  rw [hg] at HWK ⊢
  clear hg
  go_wp2_with (go_at_call 70; refine HR.out.mono ?_; rintro e1 w1 ⟨rfl, hw⟩; have hw2 := hw.symm; subst hw2; clear hw)
  refine HWK.out.mono ?_
  rintro e2 W2 ⟨rfl, hI⟩
  obtain ⟨v, o1, o2⟩ := hI.o
  obtain ⟨Ao, co, eo⟩ := Kd.zAk o2
  subst eo
  have HI2 := zAa.mk hI
  have hq := hI.q
  rw [HG.out] at o1 o2 hq
  have HO := zAa.mk (And.intro o1 o2)
  have HQ := zAa.mk hq
  obtain ⟨n, hn⟩ : ∃ n, (filtI lo hi l).length = n := ⟨_, rfl⟩
  have HN := zAa.mk hn
  rw [hn] at o1 HO
  have c3 : W2.cell? ⟨g + 1 + 1 + 1, 0, none⟩ = some (.slice Ao n co) := (zAc o1 0).trans rfl
  have c4 : W2.cell? ⟨g + 1 + 1 + 1 + 1, 0, none⟩ = some (.bool false) := (zAc hq 0).trans rfl
  have f3 : W2.drew.frozen? ⟨g + 1 + 1 + 1, 0, none⟩ = false := zAd (w := W2.drew) o1 0
  have f4 : W2.drew.frozen? ⟨g + 1 + 1 + 1 + 1, 0, none⟩ = false := zAd (w := W2.drew) hq 0
  have f3' : W2.frozen? ⟨g + 1 + 1 + 1, 0, none⟩ = false := zAd (w := W2) o1 0
  have f4' : W2.frozen? ⟨g + 1 + 1 + 1 + 1, 0, none⟩ = false := zAd (w := W2) hq 0
  have l3 : g + 1 + 1 + 1 < W2.heap.size := zAj o1
  have l4 : g + 1 + 1 + 1 + 1 < W2.heap.size := zAj hq
  clear hI o1 o2 hq hn
  have hsame : ∀ (W : World), W.heap[g + 3]? = some (.cells #[.slice Ao n co] 88 (0, 0)) → W.heap[g + 4]? = some (.cells #[.bool false] 4 (0, 0)) → W.cell? ⟨g + 1 + 1 + 1, 0, none⟩ = some (.slice Ao n co) ∧ W.cell? ⟨g + 1 + 1 + 1 + 1, 0, none⟩ = some (.bool false) := fun W h1 h2 => ⟨(zAc h1 0).trans rfl, (zAc h2 0).trans rfl⟩
  have HSA := zAa.mk hsame
  have hs3 : (W2.drew.setCell ⟨g + 1 + 1 + 1, 0, none⟩ (.slice Ao n co)).heap[g + 3]? = some (.cells #[.slice Ao n co] 88 (0, 0)) := (zBh (w := W2.drew) HO.out.1 0 _).trans rfl
  have hs34 : (W2.drew.setCell ⟨g + 1 + 1 + 1, 0, none⟩ (.slice Ao n co)).heap[g + 4]? = some (.cells #[.bool false] 4 (0, 0)) := zDj (w := W2.drew) HQ.out (by simp) _
  have hs4 : (W2.drew.setCell ⟨g + 1 + 1 + 1 + 1, 0, none⟩ (.bool false)).heap[g + 4]? = some (.cells #[.bool false] 4 (0, 0)) := (zBh (w := W2.drew) HQ.out 0 _).trans rfl
  have hs43 : (W2.drew.setCell ⟨g + 1 + 1 + 1 + 1, 0, none⟩ (.bool false)).heap[g + 3]? = some (.cells #[.slice Ao n co] 88 (0, 0)) := zDj (w := W2.drew) HO.out.1 (by simp) _
  have f34 : (W2.drew.setCell ⟨g + 1 + 1 + 1, 0, none⟩ (.slice Ao n co)).frozen? ⟨g + 1 + 1 + 1 + 1, 0, none⟩ = false := zAd hs34 0
  have f43 : (W2.drew.setCell ⟨g + 1 + 1 + 1 + 1, 0, none⟩ (.bool false)).frozen? ⟨g + 1 + 1 + 1, 0, none⟩ = false := zAd hs43 0
  have HS3 := zAa.mk (And.intro hs3 hs34)
  have HS4 := zAa.mk (And.intro hs4 hs43)
  have c34 := hsame _ hs3 hs34
  have c43 := hsame _ hs43 hs4
  obtain ⟨c34a, c34b⟩ := c34
  obtain ⟨c43a, c43b⟩ := c43
  clear hsame hs3 hs34 hs4 hs43
  go_upto_region 2 with fail
  go_region_held3 (fun w' => w'.cell? ⟨g + 1 + 1 + 1, 0, none⟩ = some (.slice Ao n co) ∧ w'.cell? ⟨g + 1 + 1 + 1 + 1, 0, none⟩ = some (.bool false))
    (first | exact ⟨c3, c4⟩ | exact HSA.out _ HS3.out.1 HS3.out.2 | exact HSA.out _ HS4.out.2 HS4.out.1 | exact HSA.out _ (zDj HS3.out.1 (by simp) _) ((zBh HS3.out.2 0 _).trans rfl) | exact HSA.out _ ((zBh HS4.out.2 0 _).trans rfl) (zDj HS4.out.1 (by simp) _))
    (first | fail)
  have z3 : ((W2.setCell ⟨g + 1 + 1 + 1, 0, none⟩ (.slice Ao n co)).setCell ⟨g + 1 + 1 + 1 + 1, 0, none⟩ (.bool false)).drew.heap[g + 3]? = some (.cells #[.slice Ao n co] 88 (0, 0)) := zDj (w := W2.drew.setCell ⟨g + 1 + 1 + 1, 0, none⟩ (.slice Ao n co)) HS3.out.1 (by simp) _
  have z4 : ((W2.setCell ⟨g + 1 + 1 + 1, 0, none⟩ (.slice Ao n co)).setCell ⟨g + 1 + 1 + 1 + 1, 0, none⟩ (.bool false)).drew.heap[g + 4]? = some (.cells #[.bool false] 4 (0, 0)) := (zBh (w := W2.drew.setCell ⟨g + 1 + 1 + 1, 0, none⟩ (.slice Ao n co)) HS3.out.2 0 _).trans rfl
  have HRF : zAa (Kd.R kI 129 ((W2.setCell ⟨g + 1 + 1 + 1, 0, none⟩ (.slice Ao n co)).setCell ⟨g + 1 + 1 + 1 + 1, 0, none⟩ (.bool false)).drew g (fun _ => True) (.slice Ao n co) (filtI lo hi l)) := ⟨by
    have r0 := HO.out.2
    have r1 := Kd.R_set r0 HO.out.1 (by decide) 0 (.slice Ao n co)
    exact Kd.zGd (Kd.R_set r1 (zDj HQ.out (by simp) _) (by decide) 0 (.bool false))⟩
  have HBF : zAa (Below w.heap.size w ((W2.setCell ⟨g + 1 + 1 + 1, 0, none⟩ (.slice Ao n co)).setCell ⟨g + 1 + 1 + 1 + 1, 0, none⟩ (.bool false)).drew) := ⟨zAg ((HI2.out.below.setCell (by rw [HG.out]; simp only; omega) _).setCell (by rw [HG.out]; simp only; omega) _)⟩
  have e3 := (zAc z3 0).trans (rfl : _ = some (Value.slice Ao n co))
  have e4 := (zAc z4 0).trans (rfl : _ = some (Value.bool false))
  clear z3 z4 c3 c4 f3 f4 f3' f4' l3 l4 f34 f43 c34a c34b c43a c43b
  generalize ((W2.setCell ⟨g + 1 + 1 + 1, 0, none⟩ (.slice Ao n co)).setCell ⟨g + 1 + 1 + 1 + 1, 0, none⟩ (.bool false)).drew = W3 at HRF HBF e3 e4 ⊢
  go_wp2_with fail
  exact bodyPost_ret (v := .tuple #[.slice Ao n co, .bool false]) (by simp [results, Tryz.results95, go_sem, e3, e4]) rfl ⟨_, rfl, by rw [HG.out]; exact HRF.out, HBF.out⟩
end Go.Proofs.YtpckachmleonlaaGreatDoor
end
