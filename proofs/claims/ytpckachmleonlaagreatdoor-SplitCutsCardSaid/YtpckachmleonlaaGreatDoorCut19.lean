/- Words and walks for Split and Tablet: texts of these sessions, and of the kit's print, cut down to what is used (P2). -/
import Derived.Test.YtpckachmleonlaaGreatDoorCut18
section
set_option linter.unusedVariables false
set_option linter.unusedSimpArgs false
namespace Go.Proofs.YtpckachmleonlaaGreatDoor
open Go.RowKit Go.Proofs.YtpckachmleonlaaGreatDoorW.PrintWords
def eachV (g : Nat) : Value := .func (.func 126) #[] #[.pointer (some ⟨g, 0, none⟩), .pointer (some ⟨g + 1, 0, none⟩), .pointer (some ⟨g + 3, 0, none⟩), .pointer (some ⟨g + 2, 0, none⟩), .pointer (some ⟨g + 4, 0, none⟩)]
def preL : List Jt → List Kid → Nat → List It
 | _, _, 0 => []
 | j :: js, z :: zs, i + 1 => z.2 ++ j.it :: preL js zs i
 | [], z :: _, _ + 1 => z.2
 | _, [], _ + 1 => []
theorem preL_succ : ∀ (i : Nat) (js : List Jt) (zs : List Kid) (h : i < zs.length), zs.length = js.length + 1 → preL js zs (i + 1) = preL js zs i ++ zs[i].2 ++ (if hj : i < js.length then [js[i].it] else [])
 | 0, j :: js, z :: zs, h, hl => by
  cases zs <;> simp [preL]
 | 0, [], z :: zs, h, hl => by simp [preL]
 | i + 1, j :: js, z :: zs, h, hl => by
  have := preL_succ i js zs (by simpa using h) (by simpa using hl)
  simp only [preL, this, List.getElem_cons_succ, List.length_cons, Nat.add_lt_add_iff_right, List.append_assoc, List.cons_append]
 | i + 1, [], z :: zs, h, hl => by simp at hl; subst hl; simp at h
 | _, _, [], h, _ => by simp at h
theorem preL_all : ∀ (js : List Jt) (zs : List Kid), zs.length = js.length + 1 → preL js zs (js.length + 1) = partL js zs
 | [], [z], _ => by simp [preL, partL, inter]
 | j :: js, z :: zs, h => by
  have := preL_all js zs (by simpa using h)
  simp only [List.length_cons]
  rw [preL, this]
  simp [partL, inter]
 | [], _ :: _ :: _, h => by simp at h
 | _, [], h => by simp at h
theorem preL_len {js : List Jt} {zs : List Kid} (hl : zs.length = js.length + 1) : ∀ i, i ≤ js.length + 1 → (preL js zs i).length ≤ (partL js zs).length := by
 have hm : ∀ i, i < zs.length → (preL js zs i).length ≤ (preL js zs (i + 1)).length := fun i hi => by
  rw [preL_succ i js zs hi hl]
  simp only [List.length_append]
  omega
 have h2 : ∀ k i, i + k = js.length + 1 → (preL js zs i).length ≤ (partL js zs).length := by
  intro k
  induction k with
  | zero => intro i hi; rw [← preL_all js zs hl]; rw [Nat.add_zero] at hi; rw [hi]; exact Nat.le_refl _
  | succ k ih => intro i hi; exact Nat.le_trans (hm i (by omega)) (ih (i + 1) (by omega))
 intro i hi
 exact h2 (js.length + 1 - i) i (by omega)
def filtI (lo hi : List Int) (l : List It) : List It := l.filter fun x => insB lo hi x.1
theorem filtI_app (lo hi : List Int) (a b : List It) : filtI lo hi (a ++ b) = filtI lo hi a ++ filtI lo hi b := List.filter_append ..
theorem filtI_le (lo hi : List Int) (a : List It) : (filtI lo hi a).length ≤ a.length := List.length_filter_le ..
theorem ItInv.drew {w0 W : World} {lo hi : List Int} {most : Nat} {acc : List It} (h : ItInv w0 lo hi most W acc) : ItInv w0 lo hi most W.drew acc := by
 obtain ⟨v, h1, h2⟩ := h.o
 exact ⟨h.toItR.keep (zAk (Below.refl _ _)), v, h1, Kd.zDk h2⟩
theorem keepW {w W : World} {g : Nat} {C : Array Value} {a b : Addr} {c1 c2 ca cb : Value} (h : w.heap[g]? = some (.cells C 150 (0, 0))) (hb : Below w.heap.size w W) (e1 : C[1]? = some c1) (e2 : C[2]? = some c2) (ea : w.cell? a = some ca) (eb : w.cell? b = some cb) :
  W.cell? ⟨g, 1, none⟩ = some c1 ∧ W.cell? ⟨g, 2, none⟩ = some c2 ∧ W.cell? a = some ca ∧ W.cell? b = some cb :=
 ⟨(zAa (zAi h hb) 1).trans e1, (zAa (zAi h hb) 2).trans e2, pw_cell_below hb ea, pw_cell_below hb eb⟩
def WalkC (w0 : World) (lo hi : List Int) (most N : Nat) : Prop := ∀ (o : Option Nat) (l : List It) (W : World) (acc : List It), l.length < N → PartAt (fun k => k < w0.heap.size) w0 o l → ItOk l → ItInv w0 lo hi most W acc → acc.length + l.length ≤ most →
 Calls Tryz.prog 125 #[ptrV o, eachV w0.heap.size] W fun e w' => e = .returned (.bool true) ∧ ItInv w0 lo hi most w' (acc ++ filtI lo hi l)
set_option maxHeartbeats 8000000 in
set_option maxRecDepth 100000 in
theorem walk_any (w0 : World) (lo hi : List Int) (most : Nat) (hmost : most ≤ 1000) : ∀ N, WalkC w0 lo hi most N
 | 0 => fun _ _ _ _ h => absurd h (Nat.not_lt_zero _)
 | N + 1 => fun o l W acc hN hp hi' hinv hlen => by
  have IH := walk_any w0 lo hi most hmost N
  rcases hp.inv with ⟨rfl, rfl⟩ | ⟨g, n, js, zs, rfl, rfl, hNI, hL, hJ, hz⟩
  ·have HI := zA.mk hinv
   clear hp hi' hinv hlen hN IH
   change Calls Tryz.prog 125 #[.pointer none, eachV w0.heap.size] W _
   go_enter Tryz.func125, Tryz.ntmps125
   go_wp2_with fail
   go_ret
   exact ⟨rfl, by rw [show filtI lo hi [] = [] from rfl, List.append_nil]; exact HI.out⟩
  ·have hzl : zs.length = js.length + 1 := by have := hL.len; simpa using this
   obtain ⟨adk, ck, adv, cv, adc, cc, As, cs, h1, h2, h3, h4, h5, h6, h7, h8⟩ := hNI.data hJ (by simpa using hzl)
   have hj100 : js.length ≤ 100 := by have := partL_len hL; have := hi'.n; omega
   obtain ⟨m, hm⟩ : ∃ m, js.length = m := ⟨_, rfl⟩
   rw [hm] at h1 h5 h6 h7 h8 hj100
   have H1 := zA.mk h1
   have H2 := zA.mk h2.now
   have H3 := zA.mk h3.now
   have H4 := zA.mk h4.now
   have HM := zA.mk hm
   have HL := zA.mk hL
   have HZ := zA.mk hz
   have HZL := zA.mk hzl
   have HI := zA.mk hi'
   have HV := zA.mk hinv
   have HLE := zA.mk hlen
   have HKL := zA.mk (kid_len hL hJ)
   have HIH := zA.mk IH
   have HNN := zA.mk hN
   have HMO := zA.mk hmost
   have d3 : W.cell? ⟨g, 3, none⟩ = some (.slice (some adc) (m + 1) cc) := (zAa (zAi h1 hinv.below) 3).trans rfl
   have hgl := zBa (zAi h1 hinv.below)
   obtain ⟨g0, hg0⟩ : ∃ g0, w0.heap.size = g0 := ⟨_, rfl⟩
   have HG0 := zA.mk hg0
   rw [hg0]
   clear h1 h2 h3 h4 hm hL hz hzl hi' hinv hlen hN hp hNI hJ IH hmost hg0
   change Calls Tryz.prog 125 #[.pointer (some ⟨g, 0, none⟩), .func (.func 126) #[] #[.pointer (some ⟨g0, 0, none⟩), .pointer (some ⟨g0 + 1, 0, none⟩), .pointer (some ⟨g0 + 3, 0, none⟩), .pointer (some ⟨g0 + 2, 0, none⟩), .pointer (some ⟨g0 + 4, 0, none⟩)]] W _
   go_enter Tryz.func125, Tryz.ntmps125
   go_wp2_with fail
   go_loopw [14] (fun v14 w' => ∃ i : Nat, i ≤ m + 1 ∧ v14 = .int .i64 i ∧ zA (ItInv w0 lo hi most w' (acc ++ filtI lo hi (preL js zs i)))) (fun v14 _ => m + 1 - (intOf v14).toNat)
   case atStart => exact ⟨0, by omega, rfl, ⟨by rw [preL, show filtI lo hi [] = [] from rfl, List.append_nil]; exact HV.out⟩⟩
   case round =>
    obtain ⟨i, him, rfl, HW⟩ := hrel
    by_cases hlt : i < m + 1
    ·have hiz : i < zs.length := by have := HZL.out; have := HM.out; omega
     have hzc : ((zs.map (·.1)).getD i none) = zs[i].1 := by simp [List.getD_eq_getElem?_getD, hiz]
     obtain ⟨pz, hpz⟩ := zDb zs[i].1
     have hcz0 : w0.cell? (adc.add i) = some (.pointer pz) := by rw [← hpz]; exact cell_of_C H4.out.row (by rw [List.length_map]; exact hiz) hzc
     have hcz := pw_cell_below HW.out.below hcz0
     have hiI : (i : Int) < (m : Int) + 1 := by omega
     have hzlen := HKL.out zs[i] (List.getElem_mem hiz)
     have hpre : (preL js zs i).length + zs[i].2.length ≤ (partL js zs).length := by
      have h9 := preL_len HZL.out (i + 1) (by have := HM.out; omega)
      rw [preL_succ i js zs hiz HZL.out, List.length_append, List.length_append] at h9
      omega
     have hfle := filtI_le lo hi (preL js zs i)
     have HREC : zA (Calls Tryz.prog 125 #[.pointer pz, .func (.func 126) #[] #[.pointer (some ⟨g0, 0, none⟩), .pointer (some ⟨g0 + 1, 0, none⟩), .pointer (some ⟨g0 + 3, 0, none⟩), .pointer (some ⟨g0 + 2, 0, none⟩), .pointer (some ⟨g0 + 4, 0, none⟩)]] wr.drew fun e w' => e = .returned (.bool true) ∧ ItInv w0 lo hi most w' (acc ++ filtI lo hi (preL js zs i ++ zs[i].2))) := ⟨by
      have h9 := HIH.out zs[i].1 zs[i].2 wr.drew (acc ++ filtI lo hi (preL js zs i)) (by have := HNN.out; omega) (HZ.out _ (List.getElem_mem hiz)) (HI.out.sub (by omega) (fun x hx => (mem_partL HL.out x).2 (.inr ⟨zs[i], List.getElem_mem hiz, hx⟩))) HW.out.drew (by have h8 := HLE.out; rw [List.length_append]; omega)
      rw [hpz, List.append_assoc, ← filtI_app, eachV, HG0.out] at h9
      exact h9⟩
     have HBr := zA.mk HW.out.below
     have HSU := zA.mk (preL_succ i js zs hiz HZL.out)
     have HPRE := zA.mk hpre
     clear hzc hpz hcz0 hzlen hpre hfle
     by_cases hlt2 : i < m
     ·have hij : i < js.length := by rw [HM.out]; exact hlt2
      have hiI2 : (i : Int) < (m : Int) := by omega
      have hdI : decide ((i : Int) < (m : Int)) = true := dt hiI2
      have hdN : decide (i < m) = true := dt hlt2
      obtain ⟨a1, A1, n1, e1, b1, k1, k2, k3⟩ := rowAt H2.out.deep i (by rw [List.length_map, List.length_map]; exact hij)
      obtain ⟨a2, A2, n2, e2, b2, l1, l2, l3⟩ := rowAt H3.out.deep i (by rw [List.length_map, List.length_map]; exact hij)
      injection e1 with e1
      injection e2 with e2
      subst e1 e2
      have g1 : rd_L ((js.map (·.1)).map (·.2)) i = js[i].1.2 := by simp [rd_L, List.getD_eq_getElem?_getD, hij]
      have g2 : rd_L ((js.map (·.2)).map (·.2)) i = js[i].2.2 := by simp [rd_L, List.getD_eq_getElem?_getD, hij]
      rw [g1] at k1 k2 k3
      rw [g2] at l1 l2 l3
      have hin : js[i].it ∈ partL js zs := (mem_partL HL.out _).2 (.inl (List.mem_map_of_mem (List.getElem_mem hij)))
      have hik := HI.out.k _ hin
      have HSJ := zA.mk HSU.out
      rw [dif_pos hij] at HSJ
      have hfin : (filtI lo hi (preL js zs i ++ zs[i].2)).length ≤ (preL js zs i ++ zs[i].2).length := filtI_le _ _ _
      have hpl : (preL js zs i ++ zs[i].2).length + 1 ≤ (partL js zs).length := by
       have h9 := preL_len HZL.out (i + 1) (by have := HM.out; omega)
       rw [HSJ.out, List.length_append, List.length_singleton] at h9
       exact h9
      have hEQ : acc ++ filtI lo hi (preL js zs (i + 1)) = (if insB lo hi js[i].1.2 then (acc ++ filtI lo hi (preL js zs i ++ zs[i].2)) ++ [(js[i].1.2, js[i].2.2)] else acc ++ filtI lo hi (preL js zs i ++ zs[i].2)) := by
       rw [HSJ.out, filtI_app]
       by_cases h9 : insB lo hi js[i].1.2 = true
       ·rw [if_pos h9, List.append_assoc]
        congr 2
        simp [filtI, Jt.it, h9]
       ·rw [if_neg h9]
        have : filtI lo hi [js[i].it] = [] := by simp [filtI, Jt.it, h9]
        rw [this, List.append_nil]
      obtain ⟨kl, hkl⟩ : ∃ kl, js[i].1.2.length = kl := ⟨_, rfl⟩
      obtain ⟨vl, hvl⟩ : ∃ vl, js[i].2.2.length = vl := ⟨_, rfl⟩
      have HEA : zA (∀ X, ItInv w0 lo hi most X (acc ++ filtI lo hi (preL js zs i ++ zs[i].2)) → Calls Tryz.prog 126 #[.slice A1 kl n1, .slice A2 vl n2, .pointer (some ⟨g0, 0, none⟩), .pointer (some ⟨g0 + 1, 0, none⟩), .pointer (some ⟨g0 + 3, 0, none⟩), .pointer (some ⟨g0 + 2, 0, none⟩), .pointer (some ⟨g0 + 4, 0, none⟩)] X fun e w' => e = .returned (.bool true) ∧ ItInv w0 lo hi most w' (acc ++ filtI lo hi (preL js zs (i + 1)))) := ⟨fun X hX => by
       have h9 := each_any w0 lo hi most X _ A1 A2 n1 n2 js[i].1.2 js[i].2.2 hX k3 k2 l3 l2 hik.1 hik.2.1 (fun _ => by have h8 := HLE.out; rw [List.length_append]; omega) HMO.out _ hEQ.symm
       rw [HG0.out, hkl, hvl] at h9
       exact h9⟩
      rw [hkl] at k1
      rw [hvl] at l1
      clear k2 k3 l2 l3 g1 g2 hin hik hfin hpl hEQ hkl hvl HSU HSJ HPRE
      generalize acc ++ filtI lo hi (preL js zs i ++ zs[i].2) = BB at HREC HEA
      clear hij hiz
      go_upto_region 6 with fail
      go_region_held3 (fun w' => w'.cell? ⟨g, 1, none⟩ = some (.slice (some adk) m ck) ∧ w'.cell? ⟨g, 2, none⟩ = some (.slice (some adv) m cv) ∧ w'.cell? (adk.add i) = some (.slice A1 kl n1) ∧ w'.cell? (adv.add i) = some (.slice A2 vl n2))
       (first | exact keepW H1.out (by with_reducible repeat (first | exact HBr.out | exact HB1.out.below | exact HB2.out.below | refine zAk ?_)) rfl rfl k1 l1)
       (first
        | (go_at_call 125; refine HREC.out.mono ?_; rintro e3 W1 ⟨rfl, hI1⟩; have HB1 := zA.mk hI1; clear hI1)
        | (go_at_call 126; refine (HEA.out _ HB1.out).mono ?_; rintro e4 W2 ⟨rfl, hI2⟩; have HB2 := zA.mk hI2; clear hI2))
      go_wp2_with fail
      go_roundw
      case rel => exact ⟨i + 1, by omega, by go_num, HB2⟩
      case measure => simp [intOf]; omega
     ·obtain rfl : i = m := by omega
      have HSJ := zA.mk HSU.out
      rw [dif_neg (by rw [HM.out]; exact Nat.lt_irrefl _), List.append_nil] at HSJ
      rw [← HSJ.out] at HREC
      have hiI2 : ¬ ((i : Int) < (i : Int)) := by omega
      have hdI : decide ((i : Int) < (i : Int)) = false := df hiI2
      have hdN : decide (i < i) = false := df (Nat.lt_irrefl _)
      clear HSU HSJ HPRE hiz
      go_upto_region 6 with fail
      refine wp_region_held_drew (S := fun w' => w'.cell? ⟨g, 1, none⟩ = some (.slice (some adk) i ck) ∧ w'.cell? ⟨g, 2, none⟩ = some (.slice (some adv) i cv)) (by kernel_rfl) (keepO H1.out (zAk HBr.out) rfl rfl) (fun hHeld => ?_)
      (refine wpAnyH_take (i := 0) (v := ?_) rfl (by kernel_rfl) (by kernel_rfl) (by kernel_rfl) (fun _ _ _ h => h) (Or.inl ⟨by rfl, ?_⟩) (by assumption) ?_; rotate_left; (focus (intro w hSw; (try dsimp only at hSw); go_simp; (try with_reducible rfl))); (try simp only [Act.put, List.getElem_toArray, List.getElem_cons_zero, List.getElem_cons_succ, List.setIfInBounds_toArray, List.set_cons_zero, List.set_cons_succ]))
      (refine wpAnyH_take (i := 1) (v := ?_) rfl (by kernel_rfl) (by kernel_rfl) (by kernel_rfl) (fun _ _ _ h => h) (Or.inl ⟨by rfl, ?_⟩) (by assumption) ?_; rotate_left; (focus (intro w hSw; (try dsimp only at hSw); go_simp; (try with_reducible rfl))); (try simp only [Act.put, List.getElem_toArray, List.getElem_cons_zero, List.getElem_cons_succ, List.setIfInBounds_toArray, List.set_cons_zero, List.set_cons_succ]))
      refine wpAnyH_ready (rs := [2]) (by kernel_rfl) (by simp) ?_
      refine AllReadyH.cons rfl (fun K hK => ?_) AllReadyH.nil
      go_simp
      refine HREC.out.mono ?_
      rintro e3 W1 ⟨rfl, hI1⟩
      have HB1 := zA.mk hI1
      clear hI1
      refine hK.out _ _ (keepO H1.out HB1.out.below rfl rfl) (fun hHeld2 => ?_)
      clear hK K hHeld
      (try simp only [Act.put, List.getElem_toArray, List.getElem_cons_zero, List.getElem_cons_succ, List.setIfInBounds_toArray, List.set_cons_zero, List.set_cons_succ])
      (refine wpAnyH_take (i := 3) (v := ?_) rfl (by kernel_rfl) (by kernel_rfl) (by kernel_rfl) (fun _ _ _ h => h) (Or.inl ⟨by rfl, ?_⟩) (by assumption) ?_; rotate_left; (focus (intro w hSw; (try dsimp only at hSw); go_simp; (try with_reducible rfl))); (try simp only [Act.put, List.getElem_toArray, List.getElem_cons_zero, List.getElem_cons_succ, List.setIfInBounds_toArray, List.set_cons_zero, List.set_cons_succ]))
      (refine wpAnyH_take (i := 4) (v := ?_) rfl (by kernel_rfl) (by kernel_rfl) (by kernel_rfl) (fun _ _ _ h => h) (Or.inl ⟨by rfl, ?_⟩) (by assumption) ?_; rotate_left; (focus (intro w hSw; (try dsimp only at hSw); go_simp; (try with_reducible rfl))); (try simp only [Act.put, List.getElem_toArray, List.getElem_cons_zero, List.getElem_cons_succ, List.setIfInBounds_toArray, List.set_cons_zero, List.set_cons_succ]))
      (refine wpAnyH_take (i := 5) (v := ?_) rfl (by kernel_rfl) (by kernel_rfl) (by kernel_rfl) (fun _ _ _ h => h) (Or.inl ⟨by rfl, ?_⟩) (by assumption) ?_; rotate_left; (focus (intro w hSw; (try dsimp only at hSw); go_simp; (try with_reducible rfl))); (try simp only [Act.put, List.getElem_toArray, List.getElem_cons_zero, List.getElem_cons_succ, List.setIfInBounds_toArray, List.set_cons_zero, List.set_cons_succ]))
      (refine wpAnyH_take (i := 6) (v := ?_) rfl (by kernel_rfl) (by kernel_rfl) (by kernel_rfl) (fun _ _ _ h => h) (Or.inl ⟨by rfl, ?_⟩) (by assumption) ?_; rotate_left; (focus (intro w hSw; (try dsimp only at hSw); go_simp; (try with_reducible rfl))); (try simp only [Act.put, List.getElem_toArray, List.getElem_cons_zero, List.getElem_cons_succ, List.setIfInBounds_toArray, List.set_cons_zero, List.set_cons_succ]))
      (refine wpAnyH_take (i := 7) (v := ?_) rfl (by kernel_rfl) (by kernel_rfl) (by kernel_rfl) (fun _ _ _ h => h) (Or.inl ⟨by rfl, ?_⟩) (by assumption) ?_; rotate_left; (focus (intro w hSw; (try dsimp only at hSw); go_simp; (try with_reducible rfl))); (try simp only [Act.put, List.getElem_toArray, List.getElem_cons_zero, List.getElem_cons_succ, List.setIfInBounds_toArray, List.set_cons_zero, List.set_cons_succ]))
      (refine wpAnyH_take (i := 8) (v := ?_) rfl (by kernel_rfl) (by kernel_rfl) (by kernel_rfl) (fun _ _ _ h => h) (Or.inl ⟨by rfl, ?_⟩) (by assumption) ?_; rotate_left; (focus (intro w hSw; (try dsimp only at hSw); go_simp; (try with_reducible rfl))); (try simp only [Act.put, List.getElem_toArray, List.getElem_cons_zero, List.getElem_cons_succ, List.setIfInBounds_toArray, List.set_cons_zero, List.set_cons_succ]))
      (refine wpAnyH_take (i := 9) (v := ?_) rfl (by kernel_rfl) (by kernel_rfl) (by kernel_rfl) (fun _ _ _ h => h) (Or.inl ⟨by rfl, ?_⟩) (by assumption) ?_; rotate_left; (focus (intro w hSw; (try dsimp only at hSw); go_simp; (try with_reducible rfl))); (try simp only [Act.put, List.getElem_toArray, List.getElem_cons_zero, List.getElem_cons_succ, List.setIfInBounds_toArray, List.set_cons_zero, List.set_cons_succ]))
      (refine wpAnyH_take (i := 10) (v := ?_) rfl (by kernel_rfl) (by kernel_rfl) (by kernel_rfl) (fun _ _ _ h => h) (Or.inl ⟨by rfl, ?_⟩) (by assumption) ?_; rotate_left; (focus (intro w hSw; (try dsimp only at hSw); go_simp; (try with_reducible rfl))); (try simp only [Act.put, List.getElem_toArray, List.getElem_cons_zero, List.getElem_cons_succ, List.setIfInBounds_toArray, List.set_cons_zero, List.set_cons_succ]))
      (refine wpAnyH_take (i := 11) (v := ?_) rfl (by kernel_rfl) (by kernel_rfl) (by kernel_rfl) (fun _ _ _ h => h) (Or.inl ⟨by rfl, ?_⟩) (by assumption) ?_; rotate_left; (focus (intro w hSw; (try dsimp only at hSw); go_simp; (try with_reducible rfl))); (try simp only [Act.put, List.getElem_toArray, List.getElem_cons_zero, List.getElem_cons_succ, List.setIfInBounds_toArray, List.set_cons_zero, List.set_cons_succ]))
      (refine wpAnyH_take (i := 12) (v := ?_) rfl (by kernel_rfl) (by kernel_rfl) (by kernel_rfl) (fun _ _ _ h => h) (Or.inl ⟨by rfl, ?_⟩) (by assumption) ?_; rotate_left; (focus (intro w hSw; (try dsimp only at hSw); go_simp; (try with_reducible rfl))); (try simp only [Act.put, List.getElem_toArray, List.getElem_cons_zero, List.getElem_cons_succ, List.setIfInBounds_toArray, List.set_cons_zero, List.set_cons_succ]))
      (refine wpAnyH_take (i := 13) (v := undef) rfl (by kernel_rfl) (by kernel_rfl) (by kernel_rfl) (fun _ _ _ h => h) (Or.inr ⟨by rfl, rfl⟩) (by assumption) ?_; (try simp only [Act.put, List.getElem_toArray, List.getElem_cons_zero, List.getElem_cons_succ, List.setIfInBounds_toArray, List.set_cons_zero, List.set_cons_succ]))
      (refine wpAnyH_take (i := 14) (v := undef) rfl (by kernel_rfl) (by kernel_rfl) (by kernel_rfl) (fun _ _ _ h => h) (Or.inr ⟨by rfl, rfl⟩) (by assumption) ?_; (try simp only [Act.put, List.getElem_toArray, List.getElem_cons_zero, List.getElem_cons_succ, List.setIfInBounds_toArray, List.set_cons_zero, List.set_cons_succ]))
      (refine wpAnyH_take (i := 15) (v := undef) rfl (by kernel_rfl) (by kernel_rfl) (by kernel_rfl) (fun _ _ _ h => h) (Or.inr ⟨by rfl, rfl⟩) (by assumption) ?_; (try simp only [Act.put, List.getElem_toArray, List.getElem_cons_zero, List.getElem_cons_succ, List.setIfInBounds_toArray, List.set_cons_zero, List.set_cons_succ]))
      (refine wpAnyH_take (i := 16) (v := undef) rfl (by kernel_rfl) (by kernel_rfl) (by kernel_rfl) (fun _ _ _ h => h) (Or.inr ⟨by rfl, rfl⟩) (by assumption) ?_; (try simp only [Act.put, List.getElem_toArray, List.getElem_cons_zero, List.getElem_cons_succ, List.setIfInBounds_toArray, List.set_cons_zero, List.set_cons_succ]))
      (refine wpAnyH_take (i := 17) (v := undef) rfl (by kernel_rfl) (by kernel_rfl) (by kernel_rfl) (fun _ _ _ h => h) (Or.inr ⟨by rfl, rfl⟩) (by assumption) ?_; (try simp only [Act.put, List.getElem_toArray, List.getElem_cons_zero, List.getElem_cons_succ, List.setIfInBounds_toArray, List.set_cons_zero, List.set_cons_succ]))
      (refine wpAnyH_take (i := 18) (v := undef) rfl (by kernel_rfl) (by kernel_rfl) (by kernel_rfl) (fun _ _ _ h => h) (Or.inr ⟨by rfl, rfl⟩) (by assumption) ?_; (try simp only [Act.put, List.getElem_toArray, List.getElem_cons_zero, List.getElem_cons_succ, List.setIfInBounds_toArray, List.set_cons_zero, List.set_cons_succ]))
      (refine wpAnyH_take (i := 19) (v := undef) rfl (by kernel_rfl) (by kernel_rfl) (by kernel_rfl) (fun _ _ _ h => h) (Or.inr ⟨by rfl, rfl⟩) (by assumption) ?_; (try simp only [Act.put, List.getElem_toArray, List.getElem_cons_zero, List.getElem_cons_succ, List.setIfInBounds_toArray, List.set_cons_zero, List.set_cons_succ]))
      (refine wpAnyH_take (i := 20) (v := undef) rfl (by kernel_rfl) (by kernel_rfl) (by kernel_rfl) (fun _ _ _ h => h) (Or.inr ⟨by rfl, rfl⟩) (by assumption) ?_; (try simp only [Act.put, List.getElem_toArray, List.getElem_cons_zero, List.getElem_cons_succ, List.setIfInBounds_toArray, List.set_cons_zero, List.set_cons_succ]))
      (refine wpAnyH_take (i := 21) (v := undef) rfl (by kernel_rfl) (by kernel_rfl) (by kernel_rfl) (fun _ _ _ h => h) (Or.inr ⟨by rfl, rfl⟩) (by assumption) ?_; (try simp only [Act.put, List.getElem_toArray, List.getElem_cons_zero, List.getElem_cons_succ, List.setIfInBounds_toArray, List.set_cons_zero, List.set_cons_succ]))
      (refine wpAnyH_take (i := 22) (v := undef) rfl (by kernel_rfl) (by kernel_rfl) (by kernel_rfl) (fun _ _ _ h => h) (Or.inr ⟨by rfl, rfl⟩) (by assumption) ?_; (try simp only [Act.put, List.getElem_toArray, List.getElem_cons_zero, List.getElem_cons_succ, List.setIfInBounds_toArray, List.set_cons_zero, List.set_cons_succ]))
      (refine wpAnyH_take (i := 23) (v := undef) rfl (by kernel_rfl) (by kernel_rfl) (by kernel_rfl) (fun _ _ _ h => h) (Or.inr ⟨by rfl, rfl⟩) (by assumption) ?_; (try simp only [Act.put, List.getElem_toArray, List.getElem_cons_zero, List.getElem_cons_succ, List.setIfInBounds_toArray, List.set_cons_zero, List.set_cons_succ]))
      (refine wpAnyH_take (i := 24) (v := undef) rfl (by kernel_rfl) (by kernel_rfl) (by kernel_rfl) (fun _ _ _ h => h) (Or.inr ⟨by rfl, rfl⟩) (by assumption) ?_; (try simp only [Act.put, List.getElem_toArray, List.getElem_cons_zero, List.getElem_cons_succ, List.setIfInBounds_toArray, List.set_cons_zero, List.set_cons_succ]))
      (refine wpAnyH_take (i := 25) (v := undef) rfl (by kernel_rfl) (by kernel_rfl) (by kernel_rfl) (fun _ _ _ h => h) (Or.inr ⟨by rfl, rfl⟩) (by assumption) ?_; (try simp only [Act.put, List.getElem_toArray, List.getElem_cons_zero, List.getElem_cons_succ, List.setIfInBounds_toArray, List.set_cons_zero, List.set_cons_succ]))
      (refine wpAnyH_take (i := 26) (v := undef) rfl (by kernel_rfl) (by kernel_rfl) (by kernel_rfl) (fun _ _ _ h => h) (Or.inr ⟨by rfl, rfl⟩) (by assumption) ?_; (try simp only [Act.put, List.getElem_toArray, List.getElem_cons_zero, List.getElem_cons_succ, List.setIfInBounds_toArray, List.set_cons_zero, List.set_cons_succ]))
      (refine wpAnyH_take (i := 27) (v := undef) rfl (by kernel_rfl) (by kernel_rfl) (by kernel_rfl) (fun _ _ _ h => h) (Or.inr ⟨by rfl, rfl⟩) (by assumption) ?_; (try simp only [Act.put, List.getElem_toArray, List.getElem_cons_zero, List.getElem_cons_succ, List.setIfInBounds_toArray, List.set_cons_zero, List.set_cons_succ]))
      (refine wpAnyH_take (i := 28) (v := undef) rfl (by kernel_rfl) (by kernel_rfl) (by kernel_rfl) (fun _ _ _ h => h) (Or.inr ⟨by rfl, rfl⟩) (by assumption) ?_; (try simp only [Act.put, List.getElem_toArray, List.getElem_cons_zero, List.getElem_cons_succ, List.setIfInBounds_toArray, List.set_cons_zero, List.set_cons_succ]))
      (refine wpAnyH_take (i := 29) (v := undef) rfl (by kernel_rfl) (by kernel_rfl) (by kernel_rfl) (fun _ _ _ h => h) (Or.inr ⟨by rfl, rfl⟩) (by assumption) ?_; (try simp only [Act.put, List.getElem_toArray, List.getElem_cons_zero, List.getElem_cons_succ, List.setIfInBounds_toArray, List.set_cons_zero, List.set_cons_succ]))
      (refine wpAnyH_take (i := 30) (v := ?_) rfl (by kernel_rfl) (by kernel_rfl) (by kernel_rfl) (fun _ _ _ h => h) (Or.inl ⟨by rfl, ?_⟩) (by assumption) ?_; rotate_left; (focus (intro w hSw; (try dsimp only at hSw); go_simp; (try with_reducible rfl))); (try simp only [Act.put, List.getElem_toArray, List.getElem_cons_zero, List.getElem_cons_succ, List.setIfInBounds_toArray, List.set_cons_zero, List.set_cons_succ]))
      (refine wpAnyH_take (i := 31) (v := ?_) rfl (by kernel_rfl) (by kernel_rfl) (by kernel_rfl) (fun _ _ _ h => h) (Or.inl ⟨by rfl, ?_⟩) (by assumption) ?_; rotate_left; (focus (intro w hSw; (try dsimp only at hSw); go_simp; (try with_reducible rfl))); (try simp only [Act.put, List.getElem_toArray, List.getElem_cons_zero, List.getElem_cons_succ, List.setIfInBounds_toArray, List.set_cons_zero, List.set_cons_succ]))
      refine wpAnyH_done (by kernel_rfl) ?_ _
      clear hHeld2
      go_wp2_with fail
      go_roundw
      case rel => exact ⟨i + 1, by omega, by go_num, HB1⟩
      case measure => first | (simp [intOf]; done) | (simp [intOf]; omega)
    ·obtain rfl : i = m + 1 := by omega
     go_wp2_with fail
     go_ret
     exact ⟨rfl, by have h9 := HW.out; rw [← HM.out, preL_all js zs HZL.out] at h9; exact h9⟩
end Go.Proofs.YtpckachmleonlaaGreatDoor
end
