/- Words and walks for Split and Tablet: texts of these sessions, and of the kit's print, cut down to what is used (Y3 N3 Z3 A4 S3). -/
import Derived.Test.YtpckachmleonlaaGreatDoorCu33
import Derived.Test.YtpckachmleonlaaGreatDoorCu25
import Derived.Test.YtpckachmleonlaaGreatDoorCu31
section
set_option linter.unusedVariables false
set_option linter.unusedSimpArgs false
namespace Go.Proofs.YtpckachmleonlaaGreatDoor
open Go.RowKit Go.Proofs.YtpckachmleonlaaGreatDoorW.PrintWords
def shortC (x : CellM) : Bool := decide (x.f0.f0.size + x.f0.f1.size + x.f0.f2.size ≤ 300) && decide (x.f1.length ≤ 300)
def lightC (n : Nat) (l : List CellM) : Bool := decide (l.length ≤ n) && l.all shortC
structure Fit (k : KeyM) : Prop where
 a : k.f0.size ≤ 140737488355328
 b : k.f1.size ≤ 140737488355328
 c : k.f2.size ≤ 140737488355328
set_option maxHeartbeats 4000000 in
set_option maxRecDepth 100000 in
theorem cells_law (l : List CellM) (A : Option Addr) (c m : Nat) (w : World) (hC : kC.C w A l.length l) (hs : ∀ x ∈ l, Fit x.f0) (hm : m ≤ 1000) :
  Calls Tryz.prog 51 #[.slice A l.length c, .int .i64 m] w fun e w' => e = .returned (.bool (lightC m l)) ∧ Below w.heap.size w w' := by
 have HC := zA.mk (And.intro hC hs)
 obtain ⟨n, hn⟩ : ∃ n, l.length = n := ⟨_, rfl⟩
 have HN := zA.mk hn
 rw [hn]
 rcases Nat.lt_or_ge m n with h1 | h1
 ·have d1 : decide ((m : Int) < (n : Int)) = true := Cp.dt (by omega)
  have HE : zA (lightC m l = false) := ⟨by unfold lightC; rw [decide_eq_false (by omega)]; rfl⟩
  clear hC hs hn
  go_enter Tryz.func51, Tryz.ntmps51
  go_wp2_with fail
  go_ret
  exact ⟨by rw [HE.out]; rfl, Below.refl _ _⟩
 have d1 : decide ((m : Int) < (n : Int)) = false := Cp.df (by omega)
 have HLM : zA (lightC m l = l.all shortC) := ⟨by unfold lightC; rw [decide_eq_true (by omega)]; rfl⟩
 clear hC hs hn
 go_enter Tryz.func51, Tryz.ntmps51
 go_upto_region 4 with fail
 go_loopg [5] n (fun gg v5 wr => ∃ k : Nat, k ≤ n ∧ n - k ≤ gg ∧ v5 = .int .i64 k ∧ zA (∀ j : Nat, ∀ y, j < k → l[j]? = some y → shortC y = true) ∧ zA (Below w.heap.size w wr))
 case atStart => exact ⟨0, Nat.zero_le _, by omega, rfl, ⟨fun j y hj => absurd hj (Nat.not_lt_zero _)⟩, ⟨Below.refl _ _⟩⟩
 case round =>
  obtain ⟨k, hk, hg, rfl, HJ, HB⟩ := hrel
  by_cases hlt : k < n
  ·have hltz : (k : Int) < (n : Int) := by omega
   have HCW : zA (kC.C wr A n l) := ⟨by rw [← HN.out]; exact Kd.zBa HC.out.1 HB.out⟩
   obtain ⟨ad, A4, c4, rfl, p0, p1, p2, p3, p4, p5, p6, p7⟩ := PSplitCuts.zGe HCW.out (k : Int) (by omega) hltz
   simp only [Int.toNat_natCast] at p0 p1 p2 p3 p4 p5
   have hxk : l[k]? = some (PSplitCuts.zBb l k) := by
    unfold PSplitCuts.zBb
    rw [Int.toNat_natCast, List.getD_eq_getElem?_getD, List.getElem?_eq_getElem (by have := HN.out; omega)]
    rfl
   generalize PSplitCuts.zBb l (k : Int) = x at p0 p1 p2 p3 p4 p5 p6 p7 hxk
   have HX := zA.mk hxk
   have hfit := HC.out.2 x (List.mem_of_getElem? hxk)
   obtain ⟨lx, hlx⟩ : ∃ lx, x.f1.length = lx := ⟨_, rfl⟩
   have HLX := zA.mk hlx
   rw [hlx] at p4
   have f0 := hfit.a
   have f1 := hfit.b
   have f2 := hfit.c
   have w1 : IntKind.i64.wrap ((x.f0.f0.size : Int) + (x.f0.f1.size : Int)) = (x.f0.f0.size : Int) + (x.f0.f1.size : Int) := IntWalk.i64_in _ (by omega)
   have w2 : IntKind.i64.wrap ((x.f0.f0.size : Int) + (x.f0.f1.size : Int) + (x.f0.f2.size : Int)) = (x.f0.f0.size : Int) + (x.f0.f1.size : Int) + (x.f0.f2.size : Int) := IntWalk.i64_in _ (by omega)
   clear hxk hlx p6 p7 p3 p5 HCW hfit
   rcases Nat.lt_or_ge 300 (x.f0.f0.size + x.f0.f1.size + x.f0.f2.size) with h2 | h2
   ·have d2 : decide ((300 : Int) < (x.f0.f0.size : Int) + (x.f0.f1.size : Int) + (x.f0.f2.size : Int)) = true := Cp.dt (by omega)
    have HE : zA (lightC m l = false) := ⟨by
     rw [HLM.out, List.all_eq_false]
     refine ⟨x, List.mem_of_getElem? HX.out, ?_⟩
     unfold shortC
     rw [decide_eq_false (by omega)]
     simp⟩
    clear f0 f1 f2 h2
    go_upto_region 6 with fail
    go_quiet (fail)
    go_wp2_with fail
    go_ret
    exact ⟨by rw [HE.out]; rfl, zAc HB.out _⟩
   ·have d2 : decide ((300 : Int) < (x.f0.f0.size : Int) + (x.f0.f1.size : Int) + (x.f0.f2.size : Int)) = false := Cp.df (by omega)
    rcases Nat.lt_or_ge 300 lx with h3 | h3
    ·have d3 : decide ((300 : Int) < (lx : Int)) = true := Cp.dt (by omega)
     have HE : zA (lightC m l = false) := ⟨by
      rw [HLM.out, List.all_eq_false]
      refine ⟨x, List.mem_of_getElem? HX.out, ?_⟩
      unfold shortC
      rw [HLX.out, decide_eq_false (show ¬ lx ≤ 300 by omega)]
      simp⟩
     clear f0 f1 f2 h2 h3
     go_upto_region 6 with fail
     go_quiet (fail)
     go_wp2_with fail
     go_ret
     exact ⟨by rw [HE.out]; rfl, zAc HB.out _⟩
    ·have d3 : decide ((300 : Int) < (lx : Int)) = false := Cp.df (by omega)
     have HE : zA (shortC x = true) := ⟨by
      unfold shortC
      rw [HLX.out, decide_eq_true h2, decide_eq_true h3]
      rfl⟩
     clear f0 f1 f2 h2 h3
     go_upto_region 6 with fail
     go_quiet (fail)
     go_wp2_with fail
     go_roundg (n - (k + 1))
     case measure => omega
     case rel =>
      refine ⟨k + 1, by omega, by omega, by go_num, ⟨fun j y hj hy => ?_⟩, ⟨zAc HB.out _⟩⟩
      rcases Nat.lt_or_ge j k with h9 | h9
      ·exact HJ.out j y h9 hy
      ·obtain rfl : j = k := by omega
       rw [HX.out] at hy
       cases hy
       exact HE.out
  ·have hltz : ¬ (k : Int) < (n : Int) := by omega
   have hkn : n = k := by omega
   subst hkn
   have HE : zA (lightC m l = true) := ⟨by
    rw [HLM.out, List.all_eq_true]
    intro x hx
    obtain ⟨j, hj⟩ := List.getElem?_of_mem hx
    exact HJ.out j x (by have := (List.getElem?_eq_some_iff.1 hj).1; have := HN.out; omega) hj⟩
   go_wp2_with fail
   go_ret
   exact ⟨by rw [HE.out]; rfl, HB.out⟩
end Go.Proofs.YtpckachmleonlaaGreatDoor
end
section
set_option linter.unusedVariables false
set_option linter.unusedSimpArgs false
namespace Go.Proofs.YtpckachmleonlaaGreatDoor
open Go.RowKit Go.Proofs.YtpckachmleonlaaGreatDoorW.PrintWords
set_option maxHeartbeats 4000000 in
set_option maxRecDepth 100000 in
theorem zG (ok : Nat → Prop) (w : World) (p : Nat) (a b : ByteArray) (cs : List CellM) (h : TabAt ok w p a b cs) (hcs : OkL cs) (hl : cs.length ≤ 100) :
    Calls Tryz.prog 24 #[.pointer (some ⟨p, 0, none⟩)] w fun e w' => ∃ v, e = .returned v ∧ Kd.R kC 49 w' w.heap.size (fun _ => True) v cs ∧ Below w.heap.size w w' := by
  have HAB := zA.mk (above_any w)
  have HCE : zA (∀ (X : World) (B : Option Addr), Below w.heap.size w X → kB.C X B 33 (Cp.nums (List.replicate 33 255)) → Calls Tryz.prog 59 #[.pointer (some ⟨p, 0, none⟩), .slice none 0 0, .slice B 33 33] X fun e w' => ∃ v, e = .returned v ∧ Kd.R kC 49 w' X.heap.size (fun _ => True) v cs ∧ Below X.heap.size X w') := ⟨fun X B hX h2 => by
    have h9 := cells_any ok X p a b cs (h.keep hX) hcs hl none B 0 33 [] (Cp.nums (List.replicate 33 255)) ⟨rfl, Nat.zero_le _, fun h => absurd h (by simp)⟩ (by simpa [Cp.nums] using h2)
    rw [sel_all hcs] at h9
    simpa [Cp.nums] using h9⟩
  clear h hcs hl
  go_enter Tryz.func24, Tryz.ntmps24
  go_wp2_with fail
  refine HAB.out.mono ?_
  rintro e w2 ⟨A, rfl, hc, hb⟩
  have HC := zA.mk hc
  have HB := zA.mk hb
  clear hc hb HAB
  go_wp2_with fail
  refine (HCE.out _ A HB.out HC.out).mono ?_
  rintro e w3 ⟨v, rfl, hr, hb⟩
  have HR := zA.mk (rl_to HB.out hr)
  have HB3 := zA.mk (bl_to HB.out hb)
  obtain ⟨A3, c3, e3⟩ := Kd.zAk hr
  subst e3
  clear hr hb
  go_wp2_with fail
  go_ret
  exact ⟨_, rfl, HR.out, HB3.out⟩
set_option maxHeartbeats 4000000 in
set_option maxRecDepth 100000 in
theorem bounds_nil (w : World) : Calls Tryz.prog 37 #[.pointer none] w fun e w' => e = .returned (.tuple #[.string ⟨#[]⟩, .string ⟨#[]⟩]) ∧ w' = w := by
  go_enter Tryz.func37, Tryz.ntmps37
  go_wp2_with fail
  go_ret2
  exact ⟨rfl, rfl⟩
end Go.Proofs.YtpckachmleonlaaGreatDoor
end
section
set_option linter.unusedVariables false
set_option linter.unusedSimpArgs false
namespace Go.Proofs.YtpckachmleonlaaGreatDoor
open Go.RowKit Go.Proofs.YtpckachmleonlaaGreatDoorW.PrintWords
deriving instance DecidableEq for PSplitCuts.S49
set_option maxHeartbeats 4000000 in
set_option maxRecDepth 100000 in
theorem rsame10_any (xs ys : List CellM) (A B : Option Addr) (c d : Nat) (w : World) (hx : kC.C w A xs.length xs) (hy : kC.C w B ys.length ys) (hl : xs.length ≤ 1000) (hl2 : ys.length ≤ 1000) (hv : ∀ x ∈ xs, x.f1.length ≤ 10000) :
    Calls Tryz.prog 35 #[.slice A xs.length c, .slice B ys.length d] w fun e w' => e = .returned (.bool (decide (xs = ys))) ∧ Below w.heap.size w w' := by
  have HR := zA.mk (results_any 0 0 false false xs ys A B c d w hx hy hl hl2 hv)
  obtain ⟨q, hq⟩ : ∃ q : Bool, decide (xs = ys) = q := ⟨_, rfl⟩
  have HQ : zA (xs = ys ↔ q = true) := ⟨by rw [← hq, decide_eq_true_iff]⟩
  rw [hq]
  obtain ⟨n, hn⟩ : ∃ n, xs.length = n := ⟨_, rfl⟩
  obtain ⟨m, hm⟩ : ∃ m, ys.length = m := ⟨_, rfl⟩
  rw [hn, hm] at HR ⊢
  clear hx hy hl hl2 hv hn hm hq
  go_enter Tryz.func35, Tryz.ntmps35
  go_wp2_with fail
  refine HR.out.mono ?_
  rintro e w2 ⟨b, rfl, hb, hb2⟩
  have HB : zA (b = q ∧ Below w.heap.size w w2) := ⟨by
    refine ⟨?_, hb2⟩
    rw [Bool.eq_iff_iff, hb, ← HQ.out]
    simp⟩
  clear hb hb2 HR
  go_wp2_with fail
  go_ret
  exact ⟨by rw [← HB.out.1]; rfl, HB.out.2⟩
set_option maxHeartbeats 4000000 in
set_option maxRecDepth 100000 in
theorem same_true (ok : Nat → Prop) (w : World) (p : Nat) (a b : ByteArray) (cs : List CellM) (h : TabAt ok w p a b cs) (hcs : OkL cs) (hl : cs.length ≤ 100) (A : Option Addr) (c : Nat) (hC : kC.C w A cs.length cs) :
    Calls Tryz.prog 21 #[.pointer (some ⟨p, 0, none⟩), .agg #[.string a, .string b, .slice A cs.length c]] w fun e w' => e = .returned (.bool true) ∧ Below w.heap.size w w' := by
  obtain ⟨n, hn⟩ : ∃ n, cs.length = n := ⟨_, rfl⟩
  have HN := zA.mk hn
  have HB1 : zA (Below w.heap.size w (w.alloc (.cells #[.string a, .string b, .slice A n c] 25))) := ⟨zAa (Below.refl _ _) _⟩
  have HT1 := zA.mk (h.keep HB1.out)
  have HG1 : zA ((w.alloc (.cells #[.string a, .string b, .slice A n c] 25)).heap[w.heap.size]? = some (.cells #[.string a, .string b, .slice A n c] 25 (0, 0))) := ⟨heap_alloc_new _ _⟩
  have HC := zA.mk (And.intro hC (And.intro hcs hl))
  have HBD := zA.mk (bounds_any ok _ p a b cs HT1.out)
  rw [hn]
  clear h hcs hl hC hn
  go_enter Tryz.func21, Tryz.ntmps21
  go_wp2_with fail
  refine HBD.out.mono ?_
  rintro e w2 ⟨rfl, m, hm⟩
  have HB2 : zA (Below w.heap.size w w2) := ⟨by rw [hm]; exact zAc HB1.out _⟩
  have hw : Below (w.alloc (.cells #[.string a, .string b, .slice A n c] 25)).heap.size (w.alloc (.cells #[.string a, .string b, .slice A n c] 25)) w2 := by rw [hm]; exact zAc (Below.refl _ _) _
  have HT2 := zA.mk (HT1.out.keep hw)
  have HG2 := zA.mk (zAe HG1.out hw)
  clear hm hw HB1 HT1 HG1 HBD
  have HK : zA (∀ X, Below w2.heap.size w2 X → X.cell? ⟨w.heap.size, 0, none⟩ = some (.string a) ∧ X.cell? ⟨w.heap.size, 1, none⟩ = some (.string b) ∧ X.cell? ⟨w.heap.size, 2, none⟩ = some (.slice A n c)) := ⟨fun X hX => by
    have h9 := zAe HG2.out hX
    exact ⟨(zAb h9 0).trans rfl, (zAb h9 1).trans rfl, (zAb h9 2).trans rfl⟩⟩
  have HALL : zA (∀ X, Below w2.heap.size w2 X → Calls Tryz.prog 24 #[.pointer (some ⟨p, 0, none⟩)] X fun e w' => ∃ B d, e = .returned (.slice B n d) ∧ kC.C w' B n cs ∧ Below X.heap.size X w') := ⟨fun X hX => by
    refine (zG ok X p a b cs (HT2.out.keep hX) HC.out.2.1 HC.out.2.2).mono ?_
    rintro e w' ⟨v, rfl, hr, hb⟩
    obtain ⟨B, d, e2⟩ := Kd.zAk hr
    subst e2
    have h9 := (Kd.zFc hr).2.2
    rw [HN.out] at h9 ⊢
    exact ⟨B, d, rfl, h9, hb⟩⟩
  have HSA : zA (∀ (X : World) (B : Option Addr) (d : Nat), Below w2.heap.size w2 X → kC.C X B n cs → Calls Tryz.prog 35 #[.slice B n d, .slice A n c] X fun e w' => e = .returned (.bool true) ∧ Below X.heap.size X w') := ⟨fun X B d hX h1 => by
    have h9 := rsame10_any cs cs B A d c X (by rw [HN.out]; exact h1) (Kd.zBa HC.out.1 (HB2.out.trans (hX.mono HB2.out.size))) (by have := HC.out.2.2; omega) (by have := HC.out.2.2; omega) (fun x hx => by have := (HC.out.2.1.ok x hx).v; omega)
    rw [HN.out, decide_eq_true rfl] at h9
    exact h9⟩
  have hlg := zAi HG2.out
  obtain ⟨k0, k1, k2⟩ := HK.out w2 (Below.refl _ _)
  go_upto_region 2 with fail
  go_region_held3 (fun X => X.cell? ⟨w.heap.size, 0, none⟩ = some (.string a) ∧ X.cell? ⟨w.heap.size, 1, none⟩ = some (.string b) ∧ X.cell? ⟨w.heap.size, 2, none⟩ = some (.slice A n c)) (exact HK.out _ (by with_reducible repeat (first | exact Below.refl _ _ | exact HB3.out | exact HB4.out | refine zAf ?_ | refine zAc ?_ _ | refine zAa ?_ _)))
    (first
      | (go_at_call 35; with_reducible refine (HSA.out _ B3 d3 (by with_reducible repeat (first | exact Below.refl _ _ | exact HB3.out | exact HB4.out | refine zAf ?_ | refine zAc ?_ _ | refine zAa ?_ _)) (by with_reducible first | exact HC3.out | exact Kd.zBa HC3.out (by with_reducible repeat (first | exact Below.refl _ _ | refine zAf ?_ | refine zAc ?_ _ | refine zAa ?_ _)))).mono ?_; rintro e W4 ⟨rfl, hb4⟩; have HB4 := zA.mk (bl_to (w2 := w2) (by with_reducible repeat (first | exact Below.refl _ _ | exact HB3.out | exact HB4.out | refine zAf ?_ | refine zAc ?_ _ | refine zAa ?_ _)) hb4); clear hb4)
      | (go_at_call 24; with_reducible refine (HALL.out _ (by with_reducible repeat (first | exact Below.refl _ _ | exact HB3.out | exact HB4.out | refine zAf ?_ | refine zAc ?_ _ | refine zAa ?_ _))).mono ?_; rintro e W3 ⟨B3, d3, rfl, hc3, hb3⟩; have HB3 := zA.mk (bl_to (w2 := w2) (by with_reducible repeat (first | exact Below.refl _ _ | exact HB3.out | exact HB4.out | refine zAf ?_ | refine zAc ?_ _ | refine zAa ?_ _)) hb3); have HC3 := zA.mk hc3; clear hc3 hb3)
      | fail)
  all_goals (
    go_wp2_with fail
    go_ret
    exact ⟨rfl, HB2.out.trans (HB4.out.mono HB2.out.size)⟩)
end Go.Proofs.YtpckachmleonlaaGreatDoor
end
section
set_option linter.unusedVariables false
set_option linter.unusedSimpArgs false
namespace Go.Proofs.YtpckachmleonlaaGreatDoor
open Go.RowKit Go.Proofs.YtpckachmleonlaaGreatDoorW.PrintWords
def madeB (a b : ByteArray) (l : List CellM) : Bool := lightC 20 l && decide (a.size ≤ 100) && decide (b.size ≤ 100) && decide (ofK a b l = 0)
def MadePost (okA : Nat → Prop) (a b : ByteArray) (l : List CellM) (w : World) (e : Ending) (w' : World) : Prop :=
 ∃ (pt : Option Addr) (a' b' : ByteArray) (A' : Option Addr) (n' c' : Nat), e = .returned (.tuple #[.pointer pt, .agg #[.string a', .string b', .slice A' n' c'], .bool (madeB a b l)]) ∧
  (madeB a b l = true → ∃ p, pt = some ⟨p, 0, none⟩ ∧ w.heap.size ≤ p ∧ TabAt (fun k => w.heap.size ≤ k ∧ k ≠ p ∧ k ≠ w.heap.size) w' p a b (zDi l) ∧ a' = a ∧ b' = b ∧ CAt (fun j => okA j ∨ w.heap.size < j) w' A' n' c' (zDi l)) ∧ Below w.heap.size w w'
theorem light_sh {l : List CellM} {n : Nat} (h : lightC n l = true) : l.length ≤ n ∧ (∀ x ∈ l, Sh x.f0) ∧ ∀ x ∈ l, x.f1.length ≤ 300 := by
 unfold lightC at h
 rw [Bool.and_eq_true, decide_eq_true_iff, List.all_eq_true] at h
 refine ⟨h.1, fun x hx => ?_, fun x hx => ?_⟩
 ·have h9 := h.2 x hx
  unfold shortC at h9
  rw [Bool.and_eq_true, decide_eq_true_iff, decide_eq_true_iff] at h9
  exact ⟨by omega, by omega, by omega⟩
 ·have h9 := h.2 x hx
  unfold shortC at h9
  rw [Bool.and_eq_true, decide_eq_true_iff, decide_eq_true_iff] at h9
  exact h9.2
set_option maxHeartbeats 4000000 in
set_option maxRecDepth 100000 in
theorem made_any (okA : Nat → Prop) (a b : ByteArray) (l : List CellM) (A : Option Addr) (c : Nat) (w : World) (hok : ∀ j, okA j → j < w.heap.size) (hA : CAt okA w A l.length c l) (hf : ∀ x ∈ l, Fit x.f0) (ht : ∀ x ∈ l, TimeOk x) :
  Calls Tryz.prog 15 #[.string a, .string b, .slice A l.length c] w fun e w' => MadePost okA a b l w e w' := by
 have HA := zA.mk (And.intro hA (And.intro hok ht))
 have HCL : zA (∀ X, Below w.heap.size w X → Calls Tryz.prog 51 #[.slice A l.length c, .int .i64 (20 : Nat)] X fun e w' => e = .returned (.bool (lightC 20 l)) ∧ Below X.heap.size X w') := ⟨fun X hX => cells_law l A c 20 X (Kd.zBa hA.now hX) hf (by omega)⟩
 obtain ⟨n, hn⟩ : ∃ n, l.length = n := ⟨_, rfl⟩
 have HN := zA.mk hn
 obtain ⟨q, hq⟩ : ∃ q, lightC 20 l = q := ⟨_, rfl⟩
 have HQ := zA.mk hq
 rw [hn, hq] at HCL
 rw [hn]
 have HB1 : zA (Below w.heap.size w (w.alloc (.cells #[.string ⟨#[]⟩, .string ⟨#[]⟩, .slice none 0 0] 25))) := ⟨zAa (Below.refl _ _) _⟩
 have HD1 : zA ((w.alloc (.cells #[.string ⟨#[]⟩, .string ⟨#[]⟩, .slice none 0 0] 25)).heap[w.heap.size]? = some (.cells #[.string ⟨#[]⟩, .string ⟨#[]⟩, .slice none 0 0] 25 (0, 0))) := ⟨heap_alloc_new _ _⟩
 clear hA hok hf ht hn hq
 have hcl := HCL.out _ HB1.out
 have HCL2 := zA.mk hcl
 clear hcl HCL
 go_enter Tryz.func15, Tryz.ntmps15
 go_wp2_with fail
 refine HCL2.out.mono ?_
 rintro e w1 ⟨rfl, hb1⟩
 have HB2 : zA (Below w.heap.size w w1) := ⟨HB1.out.trans (hb1.mono HB1.out.size)⟩
 have HD2 := zA.mk (zAe HD1.out hb1)
 clear hb1 HB1 HD1 HCL2
 cases q
 case false =>
  have HNO : zA (madeB a b l = false) := ⟨by unfold madeB; rw [HQ.out]; rfl⟩
  have f0 := zAd HD2.out 0
  have f1 := zAd HD2.out 1
  have f2 := zAd HD2.out 2
  have d0 := (zAb HD2.out 0).trans (rfl : _ = some (Value.string ⟨#[]⟩))
  have d1 := (zAb HD2.out 1).trans (rfl : _ = some (Value.string ⟨#[]⟩))
  have d2 := (zAb HD2.out 2).trans (rfl : _ = some (Value.slice none 0 0))
  have hld := zAi HD2.out
  go_wp2_with fail
  have hset := zEc HD2.out (.string ⟨#[]⟩) (.string ⟨#[]⟩) (.slice none 0 0)
  have e0 := (zAb hset 0).trans (rfl : _ = some (Value.string ⟨#[]⟩))
  have e1 := (zAb hset 1).trans (rfl : _ = some (Value.string ⟨#[]⟩))
  have e2 := (zAb hset 2).trans (rfl : _ = some (Value.slice none 0 0))
  refine bodyPost_ret (v := .tuple #[.pointer none, .agg #[.string ⟨#[]⟩, .string ⟨#[]⟩, .slice none 0 0], .bool false]) (by simp [results, Tryz.results15, go_sem, e0, e1, e2]) rfl ?_
  exact ⟨none, ⟨#[]⟩, ⟨#[]⟩, none, 0, 0, by rw [HNO.out], fun h => by rw [HNO.out] at h; simp at h, zDb HB2.out (Nat.le_refl _) _ _ _⟩
 case true =>
  have HSH := zA.mk (light_sh HQ.out)
  rcases Nat.lt_or_ge 100 a.size with h1 | h1
  ·have z1 : decide ((100 : Int) < (a.size : Int)) = true := Cp.dt (by omega)
   have HNO : zA (madeB a b l = false) := ⟨by unfold madeB; rw [HQ.out, decide_eq_false (show ¬ a.size ≤ 100 by omega)]; rfl⟩
   clear h1
   have f0 := zAd HD2.out 0
   have f1 := zAd HD2.out 1
   have f2 := zAd HD2.out 2
   have d0 := (zAb HD2.out 0).trans (rfl : _ = some (Value.string ⟨#[]⟩))
   have d1 := (zAb HD2.out 1).trans (rfl : _ = some (Value.string ⟨#[]⟩))
   have d2 := (zAb HD2.out 2).trans (rfl : _ = some (Value.slice none 0 0))
   have hld := zAi HD2.out
   go_wp2_with fail
   have hset := zEc HD2.out (.string ⟨#[]⟩) (.string ⟨#[]⟩) (.slice none 0 0)
   have e0 := (zAb hset 0).trans (rfl : _ = some (Value.string ⟨#[]⟩))
   have e1 := (zAb hset 1).trans (rfl : _ = some (Value.string ⟨#[]⟩))
   have e2 := (zAb hset 2).trans (rfl : _ = some (Value.slice none 0 0))
   refine bodyPost_ret (v := .tuple #[.pointer none, .agg #[.string ⟨#[]⟩, .string ⟨#[]⟩, .slice none 0 0], .bool false]) (by simp [results, Tryz.results15, go_sem, e0, e1, e2]) rfl ?_
   exact ⟨none, ⟨#[]⟩, ⟨#[]⟩, none, 0, 0, by rw [HNO.out], fun h => by rw [HNO.out] at h; simp at h, zDb HB2.out (Nat.le_refl _) _ _ _⟩
  have z1 : decide ((100 : Int) < (a.size : Int)) = false := Cp.df (by omega)
  rcases Nat.lt_or_ge 100 b.size with h2 | h2
  ·have z2 : decide ((100 : Int) < (b.size : Int)) = true := Cp.dt (by omega)
   have HNO : zA (madeB a b l = false) := ⟨by unfold madeB; rw [HQ.out, decide_eq_true h1, decide_eq_false (show ¬ b.size ≤ 100 by omega)]; rfl⟩
   clear h1 h2
   have f0 := zAd HD2.out 0
   have f1 := zAd HD2.out 1
   have f2 := zAd HD2.out 2
   have d0 := (zAb HD2.out 0).trans (rfl : _ = some (Value.string ⟨#[]⟩))
   have d1 := (zAb HD2.out 1).trans (rfl : _ = some (Value.string ⟨#[]⟩))
   have d2 := (zAb HD2.out 2).trans (rfl : _ = some (Value.slice none 0 0))
   have hld := zAi HD2.out
   go_wp2_with fail
   have hset := zEc HD2.out (.string ⟨#[]⟩) (.string ⟨#[]⟩) (.slice none 0 0)
   have e0 := (zAb hset 0).trans (rfl : _ = some (Value.string ⟨#[]⟩))
   have e1 := (zAb hset 1).trans (rfl : _ = some (Value.string ⟨#[]⟩))
   have e2 := (zAb hset 2).trans (rfl : _ = some (Value.slice none 0 0))
   refine bodyPost_ret (v := .tuple #[.pointer none, .agg #[.string ⟨#[]⟩, .string ⟨#[]⟩, .slice none 0 0], .bool false]) (by simp [results, Tryz.results15, go_sem, e0, e1, e2]) rfl ?_
   exact ⟨none, ⟨#[]⟩, ⟨#[]⟩, none, 0, 0, by rw [HNO.out], fun h => by rw [HNO.out] at h; simp at h, zDb HB2.out (Nat.le_refl _) _ _ _⟩
  have z2 : decide ((100 : Int) < (b.size : Int)) = false := Cp.df (by omega)
  have HAB : zA (a.size ≤ 100 ∧ b.size ≤ 100) := ⟨⟨h1, h2⟩⟩
  have HMB : zA (madeB a b l = decide (ofK a b l = 0)) := ⟨by unfold madeB; rw [HQ.out, decide_eq_true h1, decide_eq_true h2]; rfl⟩
  clear h1 h2
  have hof := tof_any a b l A c w1 (Kd.zBa HA.out.1.now HB2.out) (by have := HSH.out.1; omega) HA.out.2.2
  rw [HN.out] at hof
  have HOF := zA.mk hof
  clear hof
  go_wp2_with fail
  refine HOF.out.mono ?_
  rintro e w2 ⟨ho1, ho2, hb2⟩
  have hall : ∃ pt, e = .returned (.tuple #[.pointer pt, .int .i64 (ofK a b l)]) ∧ (ofK a b l = 0 → ∃ p, pt = some ⟨p, 0, none⟩ ∧ w.heap.size ≤ p ∧ TabAt (fun k => w.heap.size ≤ k ∧ k ≠ p ∧ k ≠ w.heap.size) w2 p a b (zDi l)) := by
   by_cases h0 : ofK a b l = 0
   ·obtain ⟨p, e1, h3, h4⟩ := ho1 h0
    have hw1 : w.heap.size < w1.heap.size := zAi HD2.out
    obtain ⟨t', h5, h6⟩ := h4.ex
    exact ⟨_, by rw [e1, h0], fun _ => ⟨p, rfl, by omega, ⟨fun h => h.2.1 rfl, t', h5, h6.mono (fun k hk => ⟨by omega, hk.2, by omega⟩)⟩⟩⟩
   ·exact ⟨none, ho2 h0, fun h => absurd h h0⟩
  obtain ⟨pt, rfl, hpt⟩ := hall
  have HPT := zA.mk hpt
  have HB3 : zA (Below w.heap.size w w2) := ⟨HB2.out.trans (hb2.mono HB2.out.size)⟩
  have HD3 := zA.mk (zAe HD2.out hb2)
  clear ho1 ho2 hb2 hpt HOF HD2 HB2
  have hrof := rof_any okA a b l A c w2 (fun j hj => by have := HA.out.2.1 j hj; have := HB3.out.size; omega) (HA.out.1.keep HB3.out) (by have := HSH.out.1; omega) HA.out.2.2 HSH.out.2.1 (by have := HAB.out.1; omega) (by have := HAB.out.2; omega)
  rw [HN.out] at hrof
  have HROF := zA.mk hrof
  clear hrof
  go_wp2_with fail
  refine HROF.out.mono ?_
  rintro e w3 ⟨a', b', A', n', c', rfl, hk3, hb3⟩
  have HK3 := zA.mk hk3
  have HB4 : zA (Below w.heap.size w w3) := ⟨HB3.out.trans (hb3.mono HB3.out.size)⟩
  have HD4 := zA.mk (zAe HD3.out hb3)
  have HPT3 : zA (ofK a b l = 0 → ∃ p, pt = some ⟨p, 0, none⟩ ∧ w.heap.size ≤ p ∧ p < w3.heap.size ∧ TabAt (fun k => w.heap.size ≤ k ∧ k ≠ p ∧ k ≠ w.heap.size) w3 p a b (zDi l)) := ⟨fun h => by
   obtain ⟨p, e1, h1, h2⟩ := HPT.out h
   exact ⟨p, e1, h1, (h2.keep hb3).lt, h2.keep hb3⟩⟩
  have HS23 : zA (w.heap.size < w2.heap.size) := ⟨zAi HD3.out⟩
  clear hk3 hb3 HROF HD3 HB3 HPT
  obtain ⟨i, hi⟩ : ∃ i, ofK a b l = i := ⟨_, rfl⟩
  rw [hi] at HK3 HPT3 HMB ⊢
  clear hi
  have HB5 : zA (Below w.heap.size w (w3.alloc (.cells #[.string a', .string b', .slice A' n' c'] 25))) := ⟨zAa HB4.out _⟩
  have HD5 : zA ((w3.alloc (.cells #[.string a', .string b', .slice A' n' c'] 25)).heap[w.heap.size]? = some (.cells #[.string ⟨#[]⟩, .string ⟨#[]⟩, .slice none 0 0] 25 (0, 0))) := ⟨zAh HD4.out _⟩
  have HE5 : zA ((w3.alloc (.cells #[.string a', .string b', .slice A' n' c'] 25)).heap[w3.heap.size]? = some (.cells #[.string a', .string b', .slice A' n' c'] 25 (0, 0))) := ⟨heap_alloc_new _ _⟩
  have HBX : zA (Below w3.heap.size w3 (w3.alloc (.cells #[.string a', .string b', .slice A' n' c'] 25))) := ⟨zAa (Below.refl _ _) _⟩
  by_cases h0 : i = 0
  case neg =>
   have y1 : (i == 0) = false := by simpa using h0
   have HNO : zA (madeB a b l = false) := ⟨by rw [HMB.out]; exact decide_eq_false h0⟩
   clear h0
   go_upto_region 5 with fail
   generalize w3.alloc (.cells #[.string a', .string b', .slice A' n' c'] 25) = w5 at HB5 HD5 HE5 HBX ⊢
   generalize w3.heap.size = g11 at HE5 ⊢
   have f0 := zAd HD5.out 0
   have f1 := zAd HD5.out 1
   have f2 := zAd HD5.out 2
   have d0 := (zAb HD5.out 0).trans (rfl : _ = some (Value.string ⟨#[]⟩))
   have d1 := (zAb HD5.out 1).trans (rfl : _ = some (Value.string ⟨#[]⟩))
   have d2 := (zAb HD5.out 2).trans (rfl : _ = some (Value.slice none 0 0))
   have hld := zAi HD5.out
   have x0 := (zAb HE5.out 0).trans (rfl : _ = some (Value.string a'))
   have x1 := (zAb HE5.out 1).trans (rfl : _ = some (Value.string b'))
   have x2 := (zAb HE5.out 2).trans (rfl : _ = some (Value.slice A' n' c'))
   have hlx := zAi HE5.out
   go_region
   all_goals (
    go_wp2_with fail
    have hset := zEc (w := w5) HD5.out (.string a') (.string b') (.slice A' n' c')
    have e0 := (zAb hset 0).trans (rfl : _ = some (Value.string a'))
    have e1 := (zAb hset 1).trans (rfl : _ = some (Value.string b'))
    have e2 := (zAb hset 2).trans (rfl : _ = some (Value.slice A' n' c'))
    refine bodyPost_ret (v := .tuple #[.pointer pt, .agg #[.string a', .string b', .slice A' n' c'], .bool false]) (by simp [results, Tryz.results15, go_sem, e0, e1, e2]) rfl ?_
    exact ⟨pt, a', b', A', n', c', by rw [HNO.out], fun h => by rw [HNO.out] at h; simp at h, zAf (zDb HB5.out (Nat.le_refl _) _ _ _)⟩)
  case pos =>
   have y1 : (i == 0) = true := by simpa using h0
   have HYES : zA (madeB a b l = true) := ⟨by rw [HMB.out]; exact decide_eq_true h0⟩
   obtain ⟨p, rfl, hp1, hp2, htab⟩ := HPT3.out h0
   obtain ⟨ea, eb, hcat⟩ := HK3.out h0
   subst ea eb
   have HT5 := zA.mk (htab.keep HBX.out)
   have HK5 : zA (CAt (fun j => okA j ∨ w2.heap.size < j) (w3.alloc (.cells #[.string a', .string b', .slice A' n' c'] 25)) A' n' c' (zDi l)) := ⟨hcat.keep HBX.out⟩
   have HP1 := zA.mk hp1
   clear h0 htab hcat HPT3 hp1 hp2
   go_upto_region 5 with fail
   generalize w3.alloc (.cells #[.string a', .string b', .slice A' n' c'] 25) = w5 at HB5 HD5 HE5 HBX HT5 HK5 ⊢
   generalize w3.heap.size = g11 at HE5 ⊢
   have f0 := zAd HD5.out 0
   have f1 := zAd HD5.out 1
   have f2 := zAd HD5.out 2
   have d0 := (zAb HD5.out 0).trans (rfl : _ = some (Value.string ⟨#[]⟩))
   have d1 := (zAb HD5.out 1).trans (rfl : _ = some (Value.string ⟨#[]⟩))
   have d2 := (zAb HD5.out 2).trans (rfl : _ = some (Value.slice none 0 0))
   have hld := zAi HD5.out
   have x0 := (zAb HE5.out 0).trans (rfl : _ = some (Value.string a'))
   have x1 := (zAb HE5.out 1).trans (rfl : _ = some (Value.string b'))
   have x2 := (zAb HE5.out 2).trans (rfl : _ = some (Value.slice A' n' c'))
   have hlx := zAi HE5.out
   go_region
   all_goals (
    go_wp2_with fail
    have hset := zEc (w := w5) HD5.out (.string a') (.string b') (.slice A' n' c')
    have e0 := (zAb hset 0).trans (rfl : _ = some (Value.string a'))
    have e1 := (zAb hset 1).trans (rfl : _ = some (Value.string b'))
    have e2 := (zAb hset 2).trans (rfl : _ = some (Value.slice A' n' c'))
    refine bodyPost_ret (v := .tuple #[.pointer (some ⟨p, 0, none⟩), .agg #[.string a', .string b', .slice A' n' c'], .bool true]) (by simp [results, Tryz.results15, go_sem, e0, e1, e2]) rfl ?_
    have hsame : ∀ j, j ≠ w.heap.size → ((((w5.setCell ⟨w.heap.size, 0, none⟩ (.string a')).setCell ⟨w.heap.size, 1, none⟩ (.string b')).setCell ⟨w.heap.size, 2, none⟩ (.slice A' n' c')).drew).heap[j]? = w5.heap[j]? := fun j hj => by
     show ((((w5.setCell ⟨w.heap.size, 0, none⟩ (.string a')).setCell ⟨w.heap.size, 1, none⟩ (.string b')).setCell ⟨w.heap.size, 2, none⟩ (.slice A' n' c'))).heap[j]? = _
     rw [Below.heap_setCell _ _ _ _ (by simpa using hj), Below.heap_setCell _ _ _ _ (by simpa using hj), Below.heap_setCell _ _ _ _ (by simpa using hj)]
    have hpne : p ≠ w.heap.size := fun e => by
     have h9 := HT5.out.ex
     obtain ⟨t', h8, _⟩ := h9
     rw [e, HD5.out] at h8
     injection h8 with h8
     injection h8 with _ h8
     exact absurd h8 (by decide)
    refine ⟨_, a', b', A', n', c', by rw [HYES.out], fun _ => ⟨p, rfl, HP1.out, HT5.out.step (fun j hj _ => hsame j hj.2.2) (hsame p hpne), rfl, rfl, ?_⟩, zAf (zDb HB5.out (Nat.le_refl _) _ _ _)⟩
    refine (HK5.out.step (fun j hj _ => hsame j ?_)).mono (fun j hj => ?_)
    ·rcases hj with hj | hj
     ·have := HA.out.2.1 j hj; omega
     ·have := HS23.out; omega
    ·rcases hj with hj | hj
     ·exact .inl hj
     ·have := HS23.out; exact .inr (by omega))
end Go.Proofs.YtpckachmleonlaaGreatDoor
end
section
set_option linter.unusedVariables false
set_option linter.unusedSimpArgs false
namespace Go.Proofs.YtpckachmleonlaaGreatDoor
open Go.RowKit Go.Proofs.YtpckachmleonlaaGreatDoorW.PrintWords
set_option maxHeartbeats 4000000 in
set_option maxRecDepth 100000 in
theorem cut_any (s : ByteArray) (lower : Bool) (gs gl : Nat) (x : CellM) (V : Option Addr) (c : Nat) (W : World) (hs : W.heap[gs]? = some (.cells #[.string s] 9 (0, 0))) (hl : W.heap[gl]? = some (.cells #[.bool lower] 4 (0, 0))) :
    Calls Tryz.prog 54 #[cellV x V c, .pointer (some ⟨gs, 0, none⟩), .pointer (some ⟨gl, 0, none⟩)] W fun e w' => e = .returned (.bool (ltS x.f0.f0 s != lower)) ∧ Below W.heap.size W w' := by
  have c0 := (zAb hs 0).trans (rfl : _ = some (Value.string s))
  have c1 := (zAb hl 0).trans (rfl : _ = some (Value.bool lower))
  have h0 := zAi hs
  have h1 := zAi hl
  obtain ⟨b, hb⟩ : ∃ b, Op.bytesLess x.f0.f0.toList s.toList = b := ⟨_, rfl⟩
  have HB : zA (ltS x.f0.f0 s = b) := ⟨(less_ltS _ _).symm.trans hb⟩
  unfold cellV
  obtain ⟨l4, hl4⟩ : ∃ l4, x.f1.length = l4 := ⟨_, rfl⟩
  rw [hl4, HB.out]
  clear hl4 hs hl
  go_enter Tryz.func54, Tryz.ntmps54
  go_wp2_with fail
  go_ret
  exact ⟨by cases b <;> cases lower <;> rfl, zAa (Below.refl _ _) _⟩
def sideC (s : ByteArray) (lower : Bool) (cs : List CellM) : List CellM := cs.filter fun x => !(ltS x.f0.f0 s != lower)
theorem side_lo (s : ByteArray) (cs : List CellM) : sideC s true cs = loC s cs := by
  unfold sideC loC
  apply List.filter_congr
  intro x _
  cases ltS x.f0.f0 s <;> rfl
theorem side_hi (s : ByteArray) (cs : List CellM) : sideC s false cs = hiC s cs := by
  unfold sideC hiC
  apply List.filter_congr
  intro x _
  cases ltS x.f0.f0 s <;> rfl
theorem okC_time {x : CellM} (h : OkC x) : TimeOk x := ⟨h.t0, h.t1⟩
set_option maxHeartbeats 4000000 in
set_option maxRecDepth 100000 in
theorem part_any (ok : Nat → Prop) (w : World) (p : Nat) (a b : ByteArray) (cs : List CellM) (h : TabAt ok w p a b cs) (hcs : OkL cs) (hl : cs.length ≤ 100) (f t s : ByteArray) (lower : Bool) (gt ga : Nat) (ht : w.heap[gt]? = some (.cells #[.pointer (some ⟨p, 0, none⟩)] 23 (0, 0))) (ha : w.heap[ga]? = some (.cells #[.string s] 9 (0, 0))) (hz : ofK f t (sideC s lower cs) = 0) :
    Calls Tryz.prog 52 #[.string f, .string t, .bool lower, .pointer (some ⟨gt, 0, none⟩), .pointer (some ⟨ga, 0, none⟩)] w fun e w' => ∃ q, e = .returned (.pointer (some ⟨q, 0, none⟩)) ∧ w.heap.size ≤ q ∧ TabAt (fun k => w.heap.size ≤ k ∧ k ≠ q) w' q f t (sideC s lower cs) ∧ Below w.heap.size w w' := by
  have HH := zA.mk (And.intro hcs hl)
  have HZ := zA.mk hz
  have hall := zG ok (w.alloc (.cells #[.bool lower] 4)) p a b cs (h.keep (zAa (Below.refl _ _) _)) hcs hl
  have HALL := zA.mk hall
  have HL1 : zA ((w.alloc (.cells #[.bool lower] 4)).heap[w.heap.size]? = some (.cells #[.bool lower] 4 (0, 0))) := ⟨heap_alloc_new _ _⟩
  have HA1 : zA ((w.alloc (.cells #[.bool lower] 4)).heap[ga]? = some (.cells #[.string s] 9 (0, 0))) := ⟨zAh ha _⟩
  have HB1 : zA (Below w.heap.size w (w.alloc (.cells #[.bool lower] 4))) := ⟨zAa (Below.refl _ _) _⟩
  have hS1 : (w.alloc (.cells #[.bool lower] 4)).heap.size = w.heap.size + 1 := by simp
  have HS1 := zA.mk hS1
  have t0 := (zAb ht 0).trans (rfl : _ = some (Value.pointer (some ⟨p, 0, none⟩)))
  have hlt := zAi ht
  have HGA : zA (ga < w.heap.size) := ⟨zAi ha⟩
  clear h hcs hl hz hall ht ha hS1
  go_enter Tryz.func52, Tryz.ntmps52
  go_wp2_with fail
  refine HALL.out.mono ?_
  rintro e w2 ⟨v, rfl, hr, hb⟩
  have HR2 := zA.mk hr
  have HL2 := zA.mk (zAe HL1.out hb)
  have HA2 := zA.mk (zAe HA1.out hb)
  have HB2 : zA (Below w.heap.size w w2) := ⟨HB1.out.trans (hb.mono HB1.out.size)⟩
  have HS2 : zA (w.heap.size + 1 ≤ w2.heap.size) := ⟨by have h9 := hb.size; rw [HS1.out] at h9; exact h9⟩
  obtain ⟨A2, c2, e2⟩ := Kd.zAk hr
  subst e2
  obtain ⟨n, hn⟩ : ∃ n, cs.length = n := ⟨_, rfl⟩
  have HN := zA.mk hn
  rw [hn] at HR2 ⊢
  clear hr hb hn HALL HL1 HA1 HB1 t0 hlt
  go_wp2_with fail
  have HR2' : zA (Kd.R kC 49 w2 (w.heap.size + 1) (fun _ => True) (.slice A2 n c2) cs) := ⟨by have h9 := HR2.out; rw [HS1.out] at h9; exact h9⟩
  have hdel := delf_any (w.heap.size + 1) 54 #[.pointer (some ⟨ga, 0, none⟩), .pointer (some ⟨w.heap.size, 0, none⟩)] (enters_of Tryz.func54 (by kernel_rfl) rfl) (fun x => ltS x.f0.f0 s != lower) cs A2 n c2 w2 HR2'.out (by have := HN.out; have := HH.out.2; omega) (fun g hg W x V c hs => by
      have h8 := Kd.R_base HR2'.out g hg
      have hne : w.heap.size ≠ g := by omega
      have hne2 : ga ≠ g := by have := HGA.out; omega
      exact cut_any s lower ga w.heap.size x V c W ((hs _ hne2 (zAi HA2.out)).trans HA2.out) ((hs _ hne (zAi HL2.out)).trans HL2.out)) HS2.out (fun _ W x V c hb => (cut_any s lower ga w.heap.size x V c W (zAe HA2.out hb) (zAe HL2.out hb)).mono fun e w' h9 => ⟨h9.1, hb.trans (h9.2.mono hb.size)⟩)
  have HDEL := zA.mk hdel
  clear hdel
  refine HDEL.out.mono ?_
  rintro e w3 ⟨v, rfl, hr, hb⟩
  have HR3 : zA (Kd.R kC 49 w3 (w.heap.size + 1) (fun _ => True) v (sideC s lower cs)) := ⟨hr⟩
  have HB3 : zA (Below w.heap.size w w3) := ⟨HB2.out.trans (hb.mono (by omega))⟩
  obtain ⟨A3, c3, e3⟩ := Kd.zAk HR3.out
  subst e3
  clear hr hb HDEL HR2 HR2'
  have hof := tof_any f t (sideC s lower cs) A3 c3 w3 (Kd.zFc HR3.out).2.2 (by
    have h1 : (sideC s lower cs).length ≤ cs.length := List.length_filter_le _ _
    have := HH.out.2
    omega) (fun x hx => okC_time (HH.out.1.ok x (List.mem_filter.1 hx).1))
  have HOF := zA.mk hof
  obtain ⟨m, hm⟩ : ∃ m, (sideC s lower cs).length = m := ⟨_, rfl⟩
  rw [hm] at HOF ⊢
  clear hof hm HR3
  go_wp2_with fail
  refine HOF.out.mono ?_
  rintro e w4 ⟨hq, _, hb4⟩
  obtain ⟨q, rfl, hq1, hq2⟩ := hq HZ.out
  have HB4 : zA (Below w.heap.size w w4) := ⟨HB3.out.trans (hb4.mono HB3.out.size)⟩
  have HQ : zA (w.heap.size ≤ q ∧ TabAt (fun k => w.heap.size ≤ k ∧ k ≠ q) w4 q f t (sideC s lower cs)) := ⟨Nat.le_trans HB3.out.size hq1, by
    rw [putAll_sorted (l := sideC s lower cs) (HH.out.1.filter _).so] at hq2
    obtain ⟨t', h1, h2⟩ := hq2.ex
    exact ⟨fun h => h.2 rfl, t', h1, h2.mono (fun k hk => ⟨Nat.le_trans HB3.out.size hk.1, hk.2⟩)⟩⟩
  clear hq hq1 hq2 hb4 HOF
  go_wp2_with fail
  go_ret
  exact ⟨q, rfl, HQ.out.1, HQ.out.2, HB4.out⟩
end Go.Proofs.YtpckachmleonlaaGreatDoor
end
