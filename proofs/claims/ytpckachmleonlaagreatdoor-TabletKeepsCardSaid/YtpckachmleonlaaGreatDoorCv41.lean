/- Words and walks for Split and Tablet: texts of these sessions, and of the kit's print, cut down to what is used (Y4 Z3 Z4 A5 X3). -/
import Derived.Test.YtpckachmleonlaaGreatDoorCv40
import Derived.Test.YtpckachmleonlaaGreatDoorCv39
import Derived.Lib.SmallJoins
import Derived.Test.YtpckachmleonlaaGreatDoorCv34
import Derived.Test.YtpckachmleonlaaGreatDoorCv3
import Derived.Test.YtpckachmleonlaaGreatDoorCv5
section
set_option linter.unusedVariables false
set_option linter.unusedSimpArgs false
namespace Go.Proofs.YtpckachmleonlaaGreatDoor
open Go.RowKit Go.Proofs.YtpckachmleonlaaGreatDoorW.PrintWords Go.Proofs.YtpckachmleonlaaGreatDoorW.PrintMore
def zFb : Nat → OpM → Bool
 | 0, _ => false
 | n + 1, o => decide (o.k.f0.size + o.k.f1.size + o.k.f2.size + o.to_.size ≤ 500) && decide (o.value.length ≤ 600) && decide (o.want.length ≤ 600) && decide (o.sub.length ≤ 12) && o.sub.all (zFb n)
def lightS (n : Nat) (l : List OpM) : Bool := decide (l.length ≤ n) && l.all (zFb 3)
def FitO : Nat → OpM → Prop
 | 0, _ => True
 | m + 1, o => Fit o.k ∧ o.to_.size ≤ 140737488355328 ∧ TimeK o.k ∧ ∀ s ∈ o.sub, FitO m s
set_option maxHeartbeats 16000000 in
set_option maxRecDepth 100000 in
theorem light_any : ∀ (n : Nat) (d : Int), d = (n : Int) - 1 → n ≤ 10 → ∀ (m : Nat) (o : OpM) (A1 : Option Addr) (c1 : Nat) (A2 : Option Addr) (c2 : Nat) (A3 : Option Addr) (c3 : Nat) (w : World), OpAt m w o A1 c1 A2 c2 A3 c3 → FitO (m + 1) o →
  Calls Tryz.prog 27 #[opV o A1 c1 A2 c2 A3 c3, .int .i64 d] w fun e w' => e = .returned (.bool (zFb n o)) ∧ Below w.heap.size w w' := by
 intro n
 induction n with
 | zero =>
  intro d hd hn m o A1 c1 A2 c2 A3 c3 w hat hf
  have HQ : zAa (zFb 0 o = false) := ⟨rfl⟩
  have HB1 : zAa (Below w.heap.size w (w.alloc (.cells (opCs o A1 c1 A2 c2 A3 c3) 56))) := ⟨zAb (Below.refl _ _) _⟩
  obtain ⟨hk, hto, _, _⟩ := hf
  have b1 := hk.a
  have b2 := hk.b
  have b3 := hk.c
  generalize zFb 0 o = q at HQ ⊢
  obtain ⟨nv, hnv⟩ : ∃ n, o.value.length = n := ⟨_, rfl⟩
  obtain ⟨nw, hnw⟩ : ∃ n, o.want.length = n := ⟨_, rfl⟩
  obtain ⟨ns, hns⟩ : ∃ n, o.sub.length = n := ⟨_, rfl⟩
  unfold opV
  unfold opCs at HB1
  rw [hnv, hnw, hns] at HB1 ⊢
  obtain rfl : d = -1 := by omega
  have w1 : IntKind.i64.wrap ((o.k.f0.size : Int) + (o.k.f1.size : Int)) = (o.k.f0.size : Int) + (o.k.f1.size : Int) := IntWalk.i64_in _ (by omega)
  have w2 : IntKind.i64.wrap ((o.k.f0.size : Int) + (o.k.f1.size : Int) + (o.k.f2.size : Int)) = (o.k.f0.size : Int) + (o.k.f1.size : Int) + (o.k.f2.size : Int) := IntWalk.i64_in _ (by omega)
  have w3 : IntKind.i64.wrap ((o.k.f0.size : Int) + (o.k.f1.size : Int) + (o.k.f2.size : Int) + (o.to_.size : Int)) = (o.k.f0.size : Int) + (o.k.f1.size : Int) + (o.k.f2.size : Int) + (o.to_.size : Int) := IntWalk.i64_in _ (by omega)
  clear hat hd hn hnv hnw hns hk hto b1 b2 b3
  go_enter Tryz.func27, Tryz.ntmps27
  go_wp2_with fail
  all_goals (
   go_ret
   exact ⟨by rw [HQ.out]; rfl, HB1.out⟩)
 | succ n ih =>
  intro d hd hn m o A1 c1 A2 c2 A3 c3 w hat hf
  have HQE : zAa (zFb (n + 1) o = (decide (o.k.f0.size + o.k.f1.size + o.k.f2.size + o.to_.size ≤ 500) && decide (o.value.length ≤ 600) && decide (o.want.length ≤ 600) && decide (o.sub.length ≤ 12) && o.sub.all (zFb n))) := ⟨rfl⟩
  have HB1 : zAa (Below w.heap.size w (w.alloc (.cells (opCs o A1 c1 A2 c2 A3 c3) 56))) := ⟨zAb (Below.refl _ _) _⟩
  have HG1 : zAa ((w.alloc (.cells (opCs o A1 c1 A2 c2 A3 c3) 56)).heap[w.heap.size]? = some (.cells (opCs o A1 c1 A2 c2 A3 c3) 56 (0, 0))) := ⟨heap_alloc_new _ _⟩
  obtain ⟨hk, hto, _, hsf⟩ := hf
  have b1 := hk.a
  have b2 := hk.b
  have b3 := hk.c
  have d0 : 0 ≤ d := by omega
  have d10 : d ≤ 10 := by omega
  have HSUB : zAa (∀ X, Below w.heap.size w X → ∀ i, i < o.sub.length → ∃ ad s B1 e1 B2 e2 B3 e3, A3 = some ad ∧ o.sub[i]? = some s ∧ X.cell? (ad.add (i * 10)) = some (.int .i64 s.kind) ∧ X.cell? ⟨(ad.add (i * 10)).block, (ad.add (i * 10)).off + 1, none⟩ = some (.string s.k.f0) ∧ X.cell? ⟨(ad.add (i * 10)).block, (ad.add (i * 10)).off + 2, none⟩ = some (.string s.k.f1) ∧ X.cell? ⟨(ad.add (i * 10)).block, (ad.add (i * 10)).off + 3, none⟩ = some (.string s.k.f2) ∧ X.cell? ⟨(ad.add (i * 10)).block, (ad.add (i * 10)).off + 4, none⟩ = some (.int .u64 s.k.f3) ∧ X.cell? ⟨(ad.add (i * 10)).block, (ad.add (i * 10)).off + 5, none⟩ = some (.string s.to_) ∧ X.cell? ⟨(ad.add (i * 10)).block, (ad.add (i * 10)).off + 6, none⟩ = some (.slice B1 s.value.length e1) ∧ X.cell? ⟨(ad.add (i * 10)).block, (ad.add (i * 10)).off + 7, none⟩ = some (.slice B2 s.want.length e2) ∧ X.cell? ⟨(ad.add (i * 10)).block, (ad.add (i * 10)).off + 8, none⟩ = some (.bool s.has) ∧ X.cell? ⟨(ad.add (i * 10)).block, (ad.add (i * 10)).off + 9, none⟩ = some (.slice B3 s.sub.length e3) ∧ Calls Tryz.prog 27 #[opV s B1 e1 B2 e2 B3 e3, .int .i64 (d - 1)] X fun e w' => e = .returned (.bool (zFb n s)) ∧ Below X.heap.size X w') := ⟨fun X hX i hi => by
   obtain ⟨ad, m', B1, e1, B2, e2, B3, e3, e, hm, p0, p1, p2, p3, p4, p5, p6, p7, p8, p9, hats⟩ := at_kO (hat.keep hX).s i hi
   subst hm
   have hs : o.sub[i]? = some (o.sub.getD i zOp) := by
    rw [List.getD_eq_getElem?_getD, List.getElem?_eq_getElem hi]
    rfl
   exact ⟨ad, o.sub.getD i zOp, B1, e1, B2, e2, B3, e3, e, hs, p0, p1, p2, p3, p4, p5, p6, p7, p8, p9, ih (d - 1) (by omega) (by omega) m' _ B1 e1 B2 e2 B3 e3 X hats (hsf _ (List.mem_of_getElem? hs))⟩⟩
  generalize zFb (n + 1) o = q at HQE ⊢
  obtain ⟨l, hl⟩ : ∃ l, o.sub = l := ⟨_, rfl⟩
  obtain ⟨nv, hnv⟩ : ∃ n, o.value.length = n := ⟨_, rfl⟩
  obtain ⟨nw, hnw⟩ : ∃ n, o.want.length = n := ⟨_, rfl⟩
  obtain ⟨ns, hns⟩ : ∃ n, l.length = n := ⟨_, rfl⟩
  have HN := zAa.mk hns
  have HNS : zAa (ns ≤ 9223372036854775807) := ⟨by rw [← hns, ← hl]; exact hat.s.2.1⟩
  unfold opV
  unfold opCs at HB1 HG1
  rw [hl, hnv, hnw, hns] at HB1 HG1 ⊢
  rw [hl, hns] at HSUB
  rw [hl, hnv, hnw, hns] at HQE
  have w1 : IntKind.i64.wrap ((o.k.f0.size : Int) + (o.k.f1.size : Int)) = (o.k.f0.size : Int) + (o.k.f1.size : Int) := IntWalk.i64_in _ (by omega)
  have w2 : IntKind.i64.wrap ((o.k.f0.size : Int) + (o.k.f1.size : Int) + (o.k.f2.size : Int)) = (o.k.f0.size : Int) + (o.k.f1.size : Int) + (o.k.f2.size : Int) := IntWalk.i64_in _ (by omega)
  have w3 : IntKind.i64.wrap ((o.k.f0.size : Int) + (o.k.f1.size : Int) + (o.k.f2.size : Int) + (o.to_.size : Int)) = (o.k.f0.size : Int) + (o.k.f1.size : Int) + (o.k.f2.size : Int) + (o.to_.size : Int) := IntWalk.i64_in _ (by omega)
  clear hat hd hn hl hnv hnw hns hk hto b1 b2 b3 hsf ih
  rcases Nat.lt_or_ge 500 (o.k.f0.size + o.k.f1.size + o.k.f2.size + o.to_.size) with h1 | h1
  ·have HQ : zAa (q = false) := ⟨by rw [HQE.out, decide_eq_false (by omega)]; rfl⟩
   have z1 : decide ((500 : Int) < (o.k.f0.size : Int) + (o.k.f1.size : Int) + (o.k.f2.size : Int) + (o.to_.size : Int)) = true := decide_eq_true (by omega)
   have y1 : (500 : Int) < (o.k.f0.size : Int) + (o.k.f1.size : Int) + (o.k.f2.size : Int) + (o.to_.size : Int) := by omega
   clear h1
   go_enter Tryz.func27, Tryz.ntmps27
   go_wp2_with fail
   go_ret
   exact ⟨by rw [HQ.out]; rfl, HB1.out⟩
  have z1 : decide ((500 : Int) < (o.k.f0.size : Int) + (o.k.f1.size : Int) + (o.k.f2.size : Int) + (o.to_.size : Int)) = false := decide_eq_false (by omega)
  have y1 : ¬ (500 : Int) < (o.k.f0.size : Int) + (o.k.f1.size : Int) + (o.k.f2.size : Int) + (o.to_.size : Int) := by omega
  rcases Nat.lt_or_ge 600 nv with h2 | h2
  ·have HQ : zAa (q = false) := ⟨by rw [HQE.out, decide_eq_false (show ¬ nv ≤ 600 by omega)]; simp⟩
   have z2 : decide ((600 : Int) < (nv : Int)) = true := Cp.dt (by omega)
   have y2 : (600 : Int) < (nv : Int) := by omega
   clear h1 h2
   go_enter Tryz.func27, Tryz.ntmps27
   go_wp2_with fail
   go_ret
   exact ⟨by rw [HQ.out]; rfl, HB1.out⟩
  have z2 : decide ((600 : Int) < (nv : Int)) = false := Cp.df (by omega)
  have y2 : ¬ (600 : Int) < (nv : Int) := by omega
  rcases Nat.lt_or_ge 600 nw with h3 | h3
  ·have HQ : zAa (q = false) := ⟨by rw [HQE.out, decide_eq_false (show ¬ nw ≤ 600 by omega)]; simp⟩
   have z3 : decide ((600 : Int) < (nw : Int)) = true := Cp.dt (by omega)
   have y3 : (600 : Int) < (nw : Int) := by omega
   clear h1 h2 h3
   go_enter Tryz.func27, Tryz.ntmps27
   go_wp2_with fail
   go_ret
   exact ⟨by rw [HQ.out]; rfl, HB1.out⟩
  have z3 : decide ((600 : Int) < (nw : Int)) = false := Cp.df (by omega)
  have y3 : ¬ (600 : Int) < (nw : Int) := by omega
  rcases Nat.lt_or_ge 12 ns with h4 | h4
  ·have HQ : zAa (q = false) := ⟨by rw [HQE.out, decide_eq_false (show ¬ ns ≤ 12 by omega)]; simp⟩
   have z4 : decide ((12 : Int) < (ns : Int)) = true := Cp.dt (by omega)
   have y4 : (12 : Int) < (ns : Int) := by omega
   clear h1 h2 h3 h4
   go_enter Tryz.func27, Tryz.ntmps27
   go_wp2_with fail
   go_ret
   exact ⟨by rw [HQ.out]; rfl, HB1.out⟩
  have z4 : decide ((12 : Int) < (ns : Int)) = false := Cp.df (by omega)
  have y4 : ¬ (12 : Int) < (ns : Int) := by omega
  have HQ2 : zAa (q = l.all (zFb n)) := ⟨by rw [HQE.out, decide_eq_true h1, decide_eq_true h2, decide_eq_true h3, decide_eq_true h4]; rfl⟩
  have hns12 := h4
  have z5 : decide (d < 0) = false := decide_eq_false (by omega)
  have y5 : ¬ d < 0 := by omega
  have y6 : IntKind.i64.wrap (d - 1) = d - 1 := IntWalk.i64_in _ (by omega)
  clear h1 h2 h3 h4 HQE
  go_enter Tryz.func27, Tryz.ntmps27
  go_upto_region 4 with fail
  go_loopg [5] ns (fun gg s5 wr => ∃ k : Nat, k ≤ ns ∧ ns - k ≤ gg ∧ s5 = .int .i64 k ∧ zAa (Below w.heap.size w wr) ∧ zAa (wr.heap[w.heap.size]? = some (.cells #[.int .i64 o.kind, .string o.k.f0, .string o.k.f1, .string o.k.f2, .int .u64 o.k.f3, .string o.to_, .slice A1 nv c1, .slice A2 nw c2, .bool o.has, .slice A3 ns c3] 56 (0, 0))) ∧ zAa (∀ j : Nat, ∀ y, j < k → l[j]? = some y → zFb n y = true))
  case atStart => exact ⟨0, Nat.zero_le _, by omega, rfl, HB1, HG1, ⟨fun j y hj => absurd hj (Nat.not_lt_zero _)⟩⟩
  case round =>
   obtain ⟨k, hk, hg, rfl, HB, HG, HJ⟩ := hrel
   have q9 := (zAc HG.out 9).trans (rfl : _ = some (Value.slice A3 ns c3))
   have hlg := zAj HG.out
   by_cases hlt : k < ns
   ·have hltz : (k : Int) < (ns : Int) := by omega
    obtain ⟨ad, s, B1, e1, B2, e2, B3, e3, rfl, hsk, p0, p1, p2, p3, p4, p5, p6, p7, p8, p9, hcall⟩ := HSUB.out wr HB.out k hlt
    have HSK := zAa.mk hsk
    have HCALL := zAa.mk hcall
    unfold opV at HCALL
    clear hsk hcall
    go_wp2_with fail
    refine HCALL.out.mono ?_
    rintro e w3 ⟨rfl, hb⟩
    have HB3 : zAa (Below w.heap.size w w3) := ⟨HB.out.trans (hb.mono HB.out.size)⟩
    have HG3 := zAa.mk (zAf HG.out hb)
    obtain ⟨lb, hlb⟩ : ∃ lb, zFb n s = lb := ⟨_, rfl⟩
    have HLB := zAa.mk hlb
    rw [hlb]
    clear hb HCALL hlb
    cases lb
    ·have HQ : zAa (q = false) := ⟨by rw [HQ2.out, List.all_eq_false]; exact ⟨s, List.mem_of_getElem? HSK.out, by rw [HLB.out]; simp⟩⟩
     go_wp2_with fail
     go_ret
     exact ⟨by rw [HQ.out]; rfl, HB3.out⟩
    ·have HJ2 : zAa (∀ j : Nat, ∀ y, j < k + 1 → l[j]? = some y → zFb n y = true) := ⟨fun j y hj hy => by
      rcases Nat.lt_or_ge j k with h9 | h9
      ·exact HJ.out j y h9 hy
      ·obtain rfl : j = k := by omega
       rw [HSK.out] at hy
       cases hy
       exact HLB.out⟩
     go_wp2_with fail
     go_roundg (ns - (k + 1))
     case measure => omega
     case rel => exact ⟨k + 1, by omega, by omega, by go_num, HB3, HG3, HJ2⟩
   ·have hltz : ¬ (k : Int) < (ns : Int) := by omega
    obtain rfl : k = ns := by omega
    have HQ : zAa (q = true) := ⟨by
     rw [HQ2.out, List.all_eq_true]
     intro y hy
     obtain ⟨j, hj⟩ := List.getElem?_of_mem hy
     exact HJ.out j y (by rw [← HN.out]; exact (List.getElem?_eq_some_iff.1 hj).1) hj⟩
    go_wp2_with fail
    go_ret
    exact ⟨by rw [HQ.out]; rfl, HB.out⟩
set_option maxHeartbeats 16000000 in
set_option maxRecDepth 100000 in
theorem lights_any (N : Nat) (hN : N ≤ 1000) (m : Nat) (A : Option Addr) (c : Nat) (l : List OpM) (w : World) (hC : Kd.C (kO m) w A l.length l) (hf : ∀ o ∈ l, FitO m o) :
  Calls Tryz.prog 31 #[.slice A l.length c, .int .i64 N] w fun e w' => e = .returned (.bool (lightS N l)) ∧ Below w.heap.size w w' := by
 have HQE : zAa (lightS N l = (decide (l.length ≤ N) && l.all (zFb 3))) := ⟨rfl⟩
 have HSUB : zAa (∀ X, Below w.heap.size w X → ∀ i, i < l.length → ∃ ad s B1 e1 B2 e2 B3 e3, A = some ad ∧ l[i]? = some s ∧ X.cell? (ad.add (i * 10)) = some (.int .i64 s.kind) ∧ X.cell? ⟨(ad.add (i * 10)).block, (ad.add (i * 10)).off + 1, none⟩ = some (.string s.k.f0) ∧ X.cell? ⟨(ad.add (i * 10)).block, (ad.add (i * 10)).off + 2, none⟩ = some (.string s.k.f1) ∧ X.cell? ⟨(ad.add (i * 10)).block, (ad.add (i * 10)).off + 3, none⟩ = some (.string s.k.f2) ∧ X.cell? ⟨(ad.add (i * 10)).block, (ad.add (i * 10)).off + 4, none⟩ = some (.int .u64 s.k.f3) ∧ X.cell? ⟨(ad.add (i * 10)).block, (ad.add (i * 10)).off + 5, none⟩ = some (.string s.to_) ∧ X.cell? ⟨(ad.add (i * 10)).block, (ad.add (i * 10)).off + 6, none⟩ = some (.slice B1 s.value.length e1) ∧ X.cell? ⟨(ad.add (i * 10)).block, (ad.add (i * 10)).off + 7, none⟩ = some (.slice B2 s.want.length e2) ∧ X.cell? ⟨(ad.add (i * 10)).block, (ad.add (i * 10)).off + 8, none⟩ = some (.bool s.has) ∧ X.cell? ⟨(ad.add (i * 10)).block, (ad.add (i * 10)).off + 9, none⟩ = some (.slice B3 s.sub.length e3) ∧ Calls Tryz.prog 27 #[opV s B1 e1 B2 e2 B3 e3, .int .i64 2] X fun e w' => e = .returned (.bool (zFb 3 s)) ∧ Below X.heap.size X w') := ⟨fun X hX i hi => by
  obtain ⟨ad, m', B1, e1, B2, e2, B3, e3, e, hm, p0, p1, p2, p3, p4, p5, p6, p7, p8, p9, hats⟩ := at_kO (Kd.zBb hC hX) i hi
  subst hm
  have hs : l[i]? = some (l.getD i zOp) := by
   rw [List.getD_eq_getElem?_getD, List.getElem?_eq_getElem hi]
   rfl
  exact ⟨ad, l.getD i zOp, B1, e1, B2, e2, B3, e3, e, hs, p0, p1, p2, p3, p4, p5, p6, p7, p8, p9, light_any 3 2 (by omega) (by omega) m' _ B1 e1 B2 e2 B3 e3 X hats (hf _ (List.mem_of_getElem? hs))⟩⟩
 generalize lightS N l = q at HQE ⊢
 obtain ⟨ns, hns⟩ : ∃ n, l.length = n := ⟨_, rfl⟩
 have HN := zAa.mk hns
 have HNS : zAa (ns ≤ 9223372036854775807) := ⟨by rw [← hns]; exact hC.2.1⟩
 rw [hns] at HSUB HQE ⊢
 clear hC hf hns
 rcases Nat.lt_or_ge N ns with h1 | h1
 ·have HQ : zAa (q = false) := ⟨by rw [HQE.out, decide_eq_false (by omega)]; rfl⟩
  have z1 : decide ((N : Int) < (ns : Int)) = true := Cp.dt (by omega)
  have y1 : (N : Int) < (ns : Int) := by omega
  clear h1
  go_enter Tryz.func31, Tryz.ntmps31
  go_wp2_with fail
  go_ret
  exact ⟨by rw [HQ.out]; rfl, Below.refl _ _⟩
 have HQ2 : zAa (q = l.all (zFb 3)) := ⟨by rw [HQE.out, decide_eq_true h1]; rfl⟩
 have z1 : decide ((N : Int) < (ns : Int)) = false := Cp.df (by omega)
 have y1 : ¬ (N : Int) < (ns : Int) := by omega
 have hns12 : ns ≤ 1000 := by omega
 clear h1 HQE hN
 go_enter Tryz.func31, Tryz.ntmps31
 go_upto_region 4 with fail
 go_loopg [5] ns (fun gg s5 wr => ∃ k : Nat, k ≤ ns ∧ ns - k ≤ gg ∧ s5 = .int .i64 k ∧ zAa (Below w.heap.size w wr) ∧ zAa (∀ j : Nat, ∀ y, j < k → l[j]? = some y → zFb 3 y = true))
 case atStart => exact ⟨0, Nat.zero_le _, by omega, rfl, ⟨Below.refl _ _⟩, ⟨fun j y hj => absurd hj (Nat.not_lt_zero _)⟩⟩
 case round =>
  obtain ⟨k, hk, hg, rfl, HB, HJ⟩ := hrel
  by_cases hlt : k < ns
  ·have hltz : (k : Int) < (ns : Int) := by omega
   obtain ⟨ad, s, B1, e1, B2, e2, B3, e3, rfl, hsk, p0, p1, p2, p3, p4, p5, p6, p7, p8, p9, hcall⟩ := HSUB.out wr HB.out k hlt
   have HSK := zAa.mk hsk
   have HCALL := zAa.mk hcall
   unfold opV at HCALL
   clear hsk hcall
   go_wp2_with fail
   refine HCALL.out.mono ?_
   rintro e w3 ⟨rfl, hb⟩
   have HB3 : zAa (Below w.heap.size w w3) := ⟨HB.out.trans (hb.mono HB.out.size)⟩
   obtain ⟨lb, hlb⟩ : ∃ lb, zFb 3 s = lb := ⟨_, rfl⟩
   have HLB := zAa.mk hlb
   rw [hlb]
   clear hb HCALL hlb
   cases lb
   ·have HQ : zAa (q = false) := ⟨by rw [HQ2.out, List.all_eq_false]; exact ⟨s, List.mem_of_getElem? HSK.out, by rw [HLB.out]; simp⟩⟩
    go_wp2_with fail
    go_ret
    exact ⟨by rw [HQ.out]; rfl, HB3.out⟩
   ·have HJ2 : zAa (∀ j : Nat, ∀ y, j < k + 1 → l[j]? = some y → zFb 3 y = true) := ⟨fun j y hj hy => by
     rcases Nat.lt_or_ge j k with h9 | h9
     ·exact HJ.out j y h9 hy
     ·obtain rfl : j = k := by omega
      rw [HSK.out] at hy
      cases hy
      exact HLB.out⟩
    go_wp2_with fail
    go_roundg (ns - (k + 1))
    case measure => omega
    case rel => exact ⟨k + 1, by omega, by omega, by go_num, HB3, HJ2⟩
  ·have hltz : ¬ (k : Int) < (ns : Int) := by omega
   obtain rfl : k = ns := by omega
   have HQ : zAa (q = true) := ⟨by
    rw [HQ2.out, List.all_eq_true]
    intro y hy
    obtain ⟨j, hj⟩ := List.getElem?_of_mem hy
    exact HJ.out j y (by rw [← HN.out]; exact (List.getElem?_eq_some_iff.1 hj).1) hj⟩
   go_wp2_with fail
   go_ret
   exact ⟨by rw [HQ.out]; rfl, HB.out⟩
end Go.Proofs.YtpckachmleonlaaGreatDoor
end
section
set_option linter.unusedVariables false
set_option linter.unusedSimpArgs false
namespace Go.Proofs.YtpckachmleonlaaGreatDoor
open Go.RowKit Go.Proofs.YtpckachmleonlaaGreatDoorW.PrintWords
deriving instance DecidableEq for PSplitCuts.S49
end Go.Proofs.YtpckachmleonlaaGreatDoor
end
section
set_option linter.unusedVariables false
set_option linter.unusedSimpArgs false
namespace Go.Proofs.YtpckachmleonlaaGreatDoor
open Go.RowKit Go.Proofs.YtpckachmleonlaaGreatDoorW.PrintWords Go.Proofs.YtpckachmleonlaaGreatDoorW.PrintMore
def zA : ByteArray := ⟨#[97]⟩
def zF : ByteArray := ⟨#[102]⟩
def zE : ByteArray := ⟨#[]⟩
def kyA : KeyM := ⟨zA, zF, zE, 0⟩
def oPut : OpM := ⟨1, kyA, zE, [118], [], false, []⟩
def oGet : OpM := ⟨7, kyA, zE, [], [], false, []⟩
def xA : CellM := ⟨kyA, [118], false⟩
theorem alive_put1 : zFg zE zE oPut [] = ([xA], 0, [], false) := by decide +kernel
theorem alive_get1 : zFg zE zE oGet [xA] = ([xA], 0, [xA], false) := by decide +kernel
theorem tab_nil : TabL zE zE [] := ⟨OkL.nil, by decide +kernel, fun x hx => (by simp at hx), rfl, Nat.zero_le _⟩
theorem rt_nil : rightT zE zE = true := by decide +kernel
theorem row_nil {α : Type} (d : Kd α) (w : World) : Kd.C d w none 0 [] := ⟨rfl, by simp, fun h => absurd h (by simp)⟩
theorem tab_new {ok : Nat → Prop} {w : World} {p : Nat} {a b : ByteArray} (h : w.heap[p]? = some (.cells #[.string a, .string b, .pointer none] 103 (0, 0))) (hp : ¬ ok p) : TabAt ok w p a b [] := ⟨hp, none, h, none, .nil_, .inl ⟨rfl, rfl⟩⟩
set_option maxHeartbeats 8000000 in
set_option maxRecDepth 100000 in
theorem alive10 (w : World) : Calls Tryz.prog 32 #[] w fun e w' => e = .returned (.bool true) ∧ Below w.heap.size w w' := by
  have HNEW := zAa.mk (new_ok ⟨#[]⟩ ⟨#[]⟩ w rt_nil)
  have HTN : zAa (TabAt (fun k => w.heap.size < k) (w.alloc (.cells #[.string ⟨#[]⟩, .string ⟨#[]⟩, .pointer none] 103)) w.heap.size zE zE []) := ⟨tab_new (heap_alloc_new _ _) (Nat.lt_irrefl _)⟩
  have HP1 : zAa (∀ X, Below (w.alloc (.cells #[.string ⟨#[]⟩, .string ⟨#[]⟩, .pointer none] 103)).heap.size (w.alloc (.cells #[.string ⟨#[]⟩, .string ⟨#[]⟩, .pointer none] 103)) X → ∀ g, X.heap[g]? = some (.cells #[.int .u8 118] 5 (1, 2)) → Calls Tryz.prog 28 #[.pointer (some ⟨w.heap.size, 0, none⟩), opV oPut (some ⟨g, 0, none⟩) 1 none 0 none 0] X fun e w' => ∃ A n c, e = .returned (.agg #[.int .i64 0, .slice A n c, .bool false]) ∧ TabAt (fun k => w.heap.size < k) w' w.heap.size zE zE [xA] ∧ But w.heap.size X w') := ⟨fun X hX g hg => by
    have h9 := apply_any (fun k => w.heap.size < k) X w.heap.size zE zE [] (HTN.out.keep hX) (fun k hk => by have := hX.size; simp at this; omega) tab_nil oPut ⟨⟨by decide, by decide⟩, fun s hs => by cases hs⟩ 0 (some ⟨g, 0, none⟩) 1 none 0 none 0 ⟨⟨rfl, Nat.le_refl _, C_b1 hg⟩, ⟨rfl, Nat.le_refl _, row_nil _ _⟩, Nat.le_refl _, row_nil _ _⟩
    rw [alive_put1] at h9
    refine h9.mono ?_
    rintro e w' ⟨A, n, c, rfl, _, h3, h4⟩
    exact ⟨A, n, c, rfl, h3, h4⟩⟩
  have HG1 : zAa (∀ X, TabAt (fun k => w.heap.size < k) X w.heap.size zE zE [xA] → Calls Tryz.prog 28 #[.pointer (some ⟨w.heap.size, 0, none⟩), opV oGet none 0 none 0 none 0] X fun e w' => ∃ A n c, e = .returned (.agg #[.int .i64 0, .slice A n c, .bool false]) ∧ n = 1 ∧ kC.C w' A n [xA] ∧ But w.heap.size X w') := ⟨fun X hX => by
    have h9 := apply_any (fun k => w.heap.size < k) X w.heap.size zE zE [xA] hX (fun k hk => by have := hX.lt; omega) (by
      have := tab_nil.apply (o := oPut) ⟨⟨by decide, by decide⟩, fun s hs => by cases hs⟩
      rwa [alive_put1] at this) oGet ⟨⟨by decide, by decide⟩, fun s hs => by cases hs⟩ 0 none 0 none 0 none 0 ⟨⟨rfl, Nat.le_refl _, row_nil _ _⟩, ⟨rfl, Nat.le_refl _, row_nil _ _⟩, Nat.le_refl _, row_nil _ _⟩
    rw [alive_get1] at h9
    refine h9.mono ?_
    rintro e w' ⟨A, n, c, rfl, h2, _, h4⟩
    exact ⟨A, n, c, rfl, h2.len, h2.now, h4⟩⟩
  unfold opV oPut kyA zA zF zE at HP1
  unfold opV oGet kyA zA zF zE at HG1
  unfold zE at HTN
  simp only [List.length_nil, List.length_cons] at HP1 HG1
  go_enter Tryz.func32, Tryz.ntmps32
  go_wp2_with fail
  refine HNEW.out.mono ?_
  rintro e w1 ⟨rfl, e1⟩
  rw [← e1] at HTN HP1
  have HB1 : zAa (Below w.heap.size w w1) := ⟨by rw [e1]; exact zAb (Below.refl _ _) _⟩
  have HLP := zAa.mk HTN.out.lt
  clear e1 HNEW
  have kc : (convert 47 47 (.slice (some ⟨w1.heap.size + 1, 0, none⟩) 1 1)).run Tryz.prog ((w1.alloc (.cells #[.string ⟨#[97]⟩, .string ⟨#[102]⟩, .string ⟨#[]⟩, .int .u64 0] 46)).alloc (.cells #[.int .u8 118] 5)) = .ok (.slice (some ⟨w1.heap.size + 1, 0, none⟩) 1 1) ((w1.alloc (.cells #[.string ⟨#[97]⟩, .string ⟨#[102]⟩, .string ⟨#[]⟩, .int .u64 0] 46)).alloc (.cells #[.int .u8 118] 5 (1, 2))) := Joins.run_convert_bytes_const_at _ 47 5 #[.int .u8 118] 1 1 (w1.heap.size + 1) (by simp) Tryz.underlying47 Tryz.underlying5
  have HB2 : zAa (Below w1.heap.size w1 ((w1.alloc (.cells #[.string ⟨#[97]⟩, .string ⟨#[102]⟩, .string ⟨#[]⟩, .int .u64 0] 46)).alloc (.cells #[.int .u8 118] 5 (1, 2)))) := ⟨zAb (zAb (Below.refl _ _) _) _⟩
  have HG2 : zAa (((w1.alloc (.cells #[.string ⟨#[97]⟩, .string ⟨#[102]⟩, .string ⟨#[]⟩, .int .u64 0] 46)).alloc (.cells #[.int .u8 118] 5 (1, 2))).heap[w1.heap.size]? = some (.cells #[.string ⟨#[97]⟩, .string ⟨#[102]⟩, .string ⟨#[]⟩, .int .u64 0] 46 (0, 0))) := ⟨zAi (heap_alloc_new _ _) _⟩
  have HV2 : zAa (((w1.alloc (.cells #[.string ⟨#[97]⟩, .string ⟨#[102]⟩, .string ⟨#[]⟩, .int .u64 0] 46)).alloc (.cells #[.int .u8 118] 5 (1, 2))).heap[w1.heap.size + 1]? = some (.cells #[.int .u8 118] 5 (1, 2))) := ⟨by
    have h9 := heap_alloc_new (w1.alloc (.cells #[.string ⟨#[97]⟩, .string ⟨#[102]⟩, .string ⟨#[]⟩, .int .u64 0] 46)) (.cells #[.int .u8 118] 5 (1, 2))
    rwa [World.size_alloc] at h9⟩
  go_wp2_with fail
  refine (HP1.out _ HB2.out _ HV2.out).mono ?_
  rintro e w2 ⟨A, n, c, rfl, ht, hb⟩
  have HT2 := zAa.mk ht
  have HB3 : zAa (But w.heap.size w1 w2) := ⟨(But.of_below HB2.out (Nat.le_of_lt HLP.out)).trans hb⟩
  have HG3 := zAa.mk ((hb.same w1.heap.size (by have := HLP.out; omega) (zAj HG2.out)).trans HG2.out)
  have p0 := (zAc HG3.out 0).trans (rfl : _ = some (Value.string ⟨#[97]⟩))
  have p1 := (zAc HG3.out 1).trans (rfl : _ = some (Value.string ⟨#[102]⟩))
  have p2 := (zAc HG3.out 2).trans (rfl : _ = some (Value.string ⟨#[]⟩))
  have p3 := (zAc HG3.out 3).trans (rfl : _ = some (Value.int .u64 0))
  have hlg := zAj HG3.out
  have HTB : zAa (TabAt (fun k => w.heap.size < k) (w2.alloc (.cells #[.int .i64 0, .slice A n c, .bool false] 59)) w.heap.size ⟨#[]⟩ ⟨#[]⟩ [xA]) := ⟨HT2.out.keep (zAb (Below.refl _ _) _)⟩
  have HA2 : zAa ((w2.alloc (.cells #[.int .i64 0, .slice A n c, .bool false] 59)).heap[w2.heap.size]? = some (.cells #[.int .i64 0, .slice A n c, .bool false] 59 (0, 0))) := ⟨heap_alloc_new _ _⟩
  have hgg := HG1.out _ HTB.out
  have HGG := zAa.mk hgg
  clear ht hb kc HB2 HG2 HV2 HP1 HG1 HTN hgg
  go_wp2_with fail
  refine HGG.out.mono ?_
  rintro e w3 ⟨A3, n3, c3, rfl, hn3, hC3, hb⟩
  subst hn3
  have HB4 : zAa (But w.heap.size w1 w3) := ⟨(HB3.out.trans (But.of_below (zAb (Below.refl _ _) _) (Nat.le_of_lt HT2.out.lt))).trans hb⟩
  have HA3 := zAa.mk ((hb.same w2.heap.size (by have := HT2.out.lt; omega) (zAj HA2.out)).trans HA2.out)
  obtain ⟨ad, x, V, cv, rfl, hx, r0, r1, r2, r3, r4, r5, hv⟩ := (CAt.of hC3 rfl (Nat.le_refl _)).at 0 (by omega)
  obtain rfl : x = xA := by simpa using hx.symm
  rw [Nat.zero_mul, Addr.add_zero'] at r0 r1 r2 r3 r4 r5
  have hst := Kd.C_string (P := Tryz.prog) (A := V) (c := cv) Tryz.underlying47 Tryz.underlying5 Tryz.underlying9 (hv.now.keep (zAb (Below.refl _ _) (.cells #[.int .i64 0, .slice (some ad) 1 c3, .bool false] 59))).row
  have a0 := (zAc HA3.out 0).trans (rfl : _ = some (Value.int .i64 0))
  have hla := zAj HA3.out
  have hlad : ad.block < w3.heap.size := World.block_lt_of_cell? w3 _ r0
  clear hC3 hb hx hv HA2 HGG HTB HT2 HG3 p0 p1 p2 p3 hlg
  go_wp2_with fail
  have hv118 : ((strOfNums xA.f1).toList == [118]) = true := by decide +kernel
  rw [hv118]
  go_ret
  exact ⟨rfl, zAb (HB1.out.trans HB4.out.below) _⟩
def runM (a b : ByteArray) (l : List OpM) (cs : List CellM) : List CellM := l.foldl (fun cs o => (zFg a b o cs).1) cs
theorem runM_take {a b : ByteArray} {l : List OpM} {cs : List CellM} {k : Nat} {o : OpM} (h : l[k]? = some o) : runM a b (l.take (k + 1)) cs = (zFg a b o (runM a b (l.take k) cs)).1 := by
  unfold runM
  rw [List.take_add_one, h, List.foldl_append]
  rfl
theorem runM_tab {a b : ByteArray} : ∀ (l : List OpM) (cs : List CellM), TabL a b cs → (∀ o ∈ l, TimesO o) → TabL a b (runM a b l cs)
  | [], cs, h, _ => h
  | o :: l, cs, h, ht => runM_tab l _ (h.apply (ht o (by simp))) fun o ho => ht o (by simp [ho])
theorem fitO_times {m : Nat} {o : OpM} (h : FitO (m + 2) o) : TimesO o := ⟨h.2.2.1, fun s hs => (h.2.2.2 s hs).2.2.1⟩
end Go.Proofs.YtpckachmleonlaaGreatDoor
end
section
set_option linter.unusedVariables false
set_option linter.unusedSimpArgs false
namespace Go.Proofs.YtpckachmleonlaaGreatDoor
open Go.RowKit Go.Proofs.YtpckachmleonlaaGreatDoorW.PrintWords Go.Proofs.YtpckachmleonlaaGreatDoorW.PrintMore
set_option maxHeartbeats 4000000 in
set_option maxRecDepth 100000 in
theorem apply_nil (o : OpM) (A1 : Option Addr) (c1 : Nat) (A2 : Option Addr) (c2 : Nat) (A3 : Option Addr) (c3 : Nat) (w : World) : Calls Tryz.prog 28 #[.pointer none, opV o A1 c1 A2 c2 A3 c3] w fun e w' => e = .returned (.agg #[.int .i64 17, .slice none 0 0, .bool false]) ∧ Below w.heap.size w w' := by
  have HD2 : zAa (((w.alloc (.cells (opCs o A1 c1 A2 c2 A3 c3) 56)).alloc (.cells #[.int .i64 0, .slice none 0 0, .bool false] 59)).heap[w.heap.size + 1]? = some (.cells #[.int .i64 0, .slice none 0 0, .bool false] 59 (0, 0))) := ⟨Cp.zFi _ _ _⟩
  have HB2 : zAa (Below w.heap.size w ((w.alloc (.cells (opCs o A1 c1 A2 c2 A3 c3) 56)).alloc (.cells #[.int .i64 0, .slice none 0 0, .bool false] 59))) := ⟨zAb (zAb (Below.refl _ _) _) _⟩
  unfold opV
  unfold opCs at HD2 HB2
  go_enter Tryz.func28, Tryz.ntmps28
  go_upto_region 1 with fail
  generalize (w.alloc (.cells #[.int .i64 o.kind, .string o.k.f0, .string o.k.f1, .string o.k.f2, .int .u64 o.k.f3, .string o.to_, .slice A1 o.value.length c1, .slice A2 o.want.length c2, .bool o.has, .slice A3 o.sub.length c3] 56)).alloc (.cells #[.int .i64 0, .slice none 0 0, .bool false] 59) = w2 at HD2 HB2 ⊢
  obtain ⟨g, hg⟩ : ∃ g, w.heap.size + 1 = g := ⟨_, rfl⟩
  have HG : zAa (w.heap.size ≤ g) := ⟨by omega⟩
  rw [hg] at HD2 ⊢
  clear hg
  have f0 := zAd HD2.out 0
  have f1 := zAd HD2.out 1
  have f2 := zAd HD2.out 2
  have d0 := (zAc HD2.out 0).trans (rfl : _ = some (Value.int .i64 0))
  have d1 := (zAc HD2.out 1).trans (rfl : _ = some (Value.slice none 0 0))
  have d2 := (zAc HD2.out 2).trans (rfl : _ = some (Value.bool false))
  have hld := zAj HD2.out
  go_wp2_with fail
  have s3 := zFh HD2.out (.int .i64 17) (.slice none 0 0) (.bool false)
  have e0 := (zAc s3 0).trans (rfl : _ = some (Value.int .i64 17))
  have e1 := (zAc s3 1).trans (rfl : _ = some (Value.slice none 0 0))
  have e2 := (zAc s3 2).trans (rfl : _ = some (Value.bool false))
  refine bodyPost_ret (v := .agg #[.int .i64 17, .slice none 0 0, .bool false]) (by simp [results, Tryz.results28, go_sem, e0, e1, e2]) rfl ?_
  exact ⟨rfl, zCk HB2.out HG.out _ _ _⟩
set_option maxHeartbeats 4000000 in
theorem root_nil (w : World) : Calls Tryz.prog 26 #[.pointer none] w fun e w' => e = .returned (.slice none 0 0) ∧ w' = w := by
  go_enter Tryz.func26, Tryz.ntmps26
  go_wp2_with fail
  go_ret
  exact ⟨rfl, rfl⟩
set_option maxHeartbeats 4000000 in
theorem clone_nil (w : World) : Calls Tryz.prog 33 #[.pointer none] w fun e w' => e = .returned (.pointer none) ∧ w' = w := by
  go_enter Tryz.func33, Tryz.ntmps33
  go_wp2_with fail
  go_ret
  exact ⟨rfl, rfl⟩
set_option maxHeartbeats 4000000 in
theorem tree_nil (w : World) : Calls Tryz.prog 38 #[.pointer none] w fun e w' => e = .returned (.pointer none) ∧ w' = w := by
  go_enter Tryz.func38, Tryz.ntmps38
  go_wp2_with fail
  go_ret
  exact ⟨rfl, rfl⟩
theorem len_nil (w : World) : Calls Tryz.prog 39 #[.pointer none] w fun e w' => e = .returned (.int .i64 0) ∧ w' = w := len_any (fun _ => True) none [] w ⟨none, .nil_, .inl ⟨rfl, rfl⟩⟩
set_option maxHeartbeats 8000000 in
set_option maxRecDepth 100000 in
theorem tabletNils_law (o : OpM) (m : Nat) (A1 : Option Addr) (c1 : Nat) (A2 : Option Addr) (c2 : Nat) (A3 : Option Addr) (c3 : Nat) (w : World) (hat : OpAt m w o A1 c1 A2 c2 A3 c3) (hf : ∀ m, FitO m o) :
    Calls Tryz.prog 10 #[opV o A1 c1 A2 c2 A3 c3] w fun e w' => e = .returned (.bool true) ∧ Below w.heap.size w w' := by
  have HB1 : zAa (Below w.heap.size w (w.alloc (.cells (opCs o A1 c1 A2 c2 A3 c3) 56))) := ⟨zAb (Below.refl _ _) _⟩
  have HG1 : zAa ((w.alloc (.cells (opCs o A1 c1 A2 c2 A3 c3) 56)).heap[w.heap.size]? = some (.cells (opCs o A1 c1 A2 c2 A3 c3) 56 (0, 0))) := ⟨heap_alloc_new _ _⟩
  have HLI := zAa.mk (light_any 3 2 (by omega) (by omega) m o A1 c1 A2 c2 A3 c3 _ (hat.keep HB1.out) (hf _))
  have HAP : zAa (∀ X : World, Calls Tryz.prog 28 #[.pointer none, opV o A1 c1 A2 c2 A3 c3] X fun e w' => e = .returned (.agg #[.int .i64 17, .slice none 0 0, .bool false]) ∧ Below X.heap.size X w') := ⟨fun X => apply_nil o A1 c1 A2 c2 A3 c3 X⟩
  have HAL : zAa (∀ X, Below w.heap.size w X → Calls Tryz.prog 32 #[] X fun e w' => e = .returned (.bool true) ∧ Below w.heap.size w w') := ⟨fun X hX => (alive10 X).mono fun e w' h => ⟨h.1, hX.trans (h.2.mono hX.size)⟩⟩
  have HRES : zAa (∀ X : World, Calls Tryz.prog 29 #[.agg #[.int .i64 17, .slice none 0 0, .bool false], .agg #[.int .i64 17, .slice none 0 0, .bool false]] X fun e w' => e = .returned (.bool true) ∧ Below X.heap.size X w') := ⟨fun X => (results_any 17 17 false false [] [] none none 0 0 X (row_nil _ _) (row_nil _ _) (by simp) (by simp) (fun x hx => by simp at hx)).mono fun e w' h => by
    obtain ⟨b, rfl, hb, h2⟩ := h
    rw [hb.2 ⟨rfl, rfl, rfl⟩]
    exact ⟨rfl, h2⟩⟩
  unfold opV at HAP HLI ⊢
  unfold opCs at HB1 HLI
  generalize zFb 3 o = q at HLI
  clear hat hf
  go_enter Tryz.func10, Tryz.ntmps10
  go_wp2_with fail
  refine HLI.out.mono ?_
  rintro e w2 ⟨rfl, hb⟩
  have HB2 : zAa (Below w.heap.size w w2) := ⟨HB1.out.trans (hb.mono HB1.out.size)⟩
  have HG2 := zAa.mk (zAf HG1.out hb)
  clear hb HLI HB1 HG1
  cases q
  case false =>
    go_wp2_with fail
    refine (HAL.out _ HB2.out).mono ?_
    rintro e w3 ⟨rfl, hb⟩
    have HB3 := zAa.mk hb
    clear hb
    go_wp2_with fail
    go_ret
    exact ⟨rfl, HB3.out⟩
  obtain ⟨q0, q1, q2, q3, q4, q5, q6, q7, q8, q9, hlg⟩ := opBlk (o := o) HG2.out
  go_wp2_with fail
  refine (bounds_nil _).mono ?_
  rintro e w3 ⟨rfl, e3⟩
  have e4 := e3.symm
  subst e4
  clear e3
  go_wp2_with fail
  refine (HAP.out _).mono ?_
  rintro e w3 ⟨rfl, hb⟩
  have HB3 : zAa (Below w.heap.size w w3) := ⟨HB2.out.trans (hb.mono HB2.out.size)⟩
  clear hb HAP HB2 HG2 q0 q1 q2 q3 q4 q5 q6 q7 q8 q9 hlg
  go_wp2_with fail
  refine (HRES.out _).mono ?_
  rintro e w4 ⟨rfl, hb⟩
  have HB4 : zAa (Below w.heap.size w w4) := ⟨HB3.out.trans (hb.mono HB3.out.size)⟩
  clear hb HB3
  go_wp2_with fail
  refine (all_nil _).mono ?_
  rintro e w5 ⟨rfl, e5⟩
  have e6 := e5.symm
  subst e6
  clear e5
  go_wp2_with fail
  refine (root_nil _).mono ?_
  rintro e w5 ⟨rfl, e5⟩
  have e6 := e5.symm
  subst e6
  clear e5
  go_wp2_with fail
  refine (clone_nil _).mono ?_
  rintro e w5 ⟨rfl, e5⟩
  have e6 := e5.symm
  subst e6
  clear e5
  go_wp2_with fail
  refine (tree_nil _).mono ?_
  rintro e w5 ⟨rfl, e5⟩
  have e6 := e5.symm
  subst e6
  clear e5
  go_wp2_with fail
  refine (len_nil _).mono ?_
  rintro e w5 ⟨rfl, e5⟩
  have e6 := e5.symm
  subst e6
  clear e5
  go_wp2_with fail
  refine (HAL.out _ HB4.out).mono ?_
  rintro e w6 ⟨rfl, hb⟩
  have HB6 := zAa.mk hb
  clear hb
  go_wp2_with fail
  go_ret
  exact ⟨rfl, HB6.out⟩
end Go.Proofs.YtpckachmleonlaaGreatDoor
end
section
set_option linter.unusedVariables false
set_option linter.unusedSimpArgs false
namespace Go.Proofs.YtpckachmleonlaaGreatDoor.PSplitCuts
open Go.RowKit Go.Proofs.YtpckachmleonlaaGreatDoorW.PrintWords Go.Proofs.YtpckachmleonlaaGreatDoorW.PrintMore Cp
def cutR (a b s : ByteArray) (cs : List CellM) : ByteArray × ByteArray × List CellM × ByteArray × ByteArray × List CellM × Int :=
  if splitK a b s = 0 then (a, s, loC s cs, s, b, hiC s cs, 0) else (⟨#[]⟩, ⟨#[]⟩, [], ⟨#[]⟩, ⟨#[]⟩, [], splitK a b s)
end Go.Proofs.YtpckachmleonlaaGreatDoor.PSplitCuts
namespace Go.Proofs.YtpckachmleonlaaGreatDoor
open Go.RowKit Go.Proofs.YtpckachmleonlaaGreatDoorW.PrintWords
open PSplitCuts (cutR)
end Go.Proofs.YtpckachmleonlaaGreatDoor
end
