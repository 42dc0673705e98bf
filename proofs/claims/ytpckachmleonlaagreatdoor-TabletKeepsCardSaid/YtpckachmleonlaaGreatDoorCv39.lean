/- Words and walks for Split and Tablet: texts of these sessions, and of the kit's print, cut down to what is used (U4 N3 T3 V4 O3 P3 W4). -/
import Derived.Test.YtpckachmleonlaaGreatDoorCv38
import Derived.Test.YtpckachmleonlaaGreatDoorCv30
import Derived.Test.YtpckachmleonlaaGreatDoorCv36
import Derived.Test.YtpckachmleonlaaGreatDoorCv35
import Derived.Test.YtpckachmleonlaaGreatDoorCv34
section
set_option linter.unusedVariables false
set_option linter.unusedSimpArgs false
namespace Go.Proofs.YtpckachmleonlaaGreatDoor
open Go.RowKit Go.Proofs.YtpckachmleonlaaGreatDoorW.PrintWords Go.Proofs.YtpckachmleonlaaGreatDoorW.PrintMore
theorem str_dec (x y : ByteArray) : (x.toList == y.toList) = decide (x = y) := by
 rw [Bool.eq_iff_iff]
 simp [ba_eq]
theorem subB_eq (r : ByteArray) (s : OpM) : subB r s = (!decide (s.kind < 1) && !decide (4 < s.kind) && decide (s.k.f0 = r) && opB s) := by
 unfold subB
 by_cases h1 : s.kind < 1
 ·rw [decide_eq_false (by omega), decide_eq_true h1]; rfl
 ·by_cases h4 : 4 < s.kind
  ·rw [decide_eq_false (p := s.kind ≤ 4) (by omega), decide_eq_true h4]; simp
  ·have e : opB s = leafB s := by unfold opB; rw [if_neg (by omega)]
   rw [e, decide_eq_true (by omega), decide_eq_true (by omega), decide_eq_false h1, decide_eq_false h4]
   rfl
set_option maxHeartbeats 16000000 in
set_option maxRecDepth 100000 in
theorem right_batch (o : OpM) (hk : o.kind = 6) (m : Nat) (A1 : Option Addr) (c1 : Nat) (A2 : Option Addr) (c2 : Nat) (A3 : Option Addr) (c3 : Nat) (w : World) (hat : OpAt m w o A1 c1 A2 c2 A3 c3) : Calls Tryz.prog 103 #[opV o A1 c1 A2 c2 A3 c3] w fun e w' => e = .returned (.bool (rightB o)) ∧ Below w.heap.size w w' := by
 have HRB : zAa (rightB o = (o.sub.all (subB o.k.f0) && decide (1 ≤ o.sub.length) && decide (o.sub.length ≤ 8) && rowB o.k && decide (o.k.f0.size ≠ 0))) := ⟨by unfold rightB; rw [if_pos hk]⟩
 have HRW : zAa (∀ X : World, Calls Tryz.prog 132 #[opV o A1 c1 A2 c2 A3 c3] X fun e w' => e = .returned (.bool (rowB o.k)) ∧ Below X.heap.size X w') := ⟨fun X => row_op o A1 c1 A2 c2 A3 c3 X⟩
 have HSUB : zAa (∀ X, Below w.heap.size w X → ∀ i, i < o.sub.length → ∃ ad s B1 d1 B2 d2 B3 d3, A3 = some ad ∧ o.sub[i]? = some s ∧ X.cell? (ad.add (i * 10)) = some (.int .i64 s.kind) ∧ X.cell? ⟨(ad.add (i * 10)).block, (ad.add (i * 10)).off + 1, none⟩ = some (.string s.k.f0) ∧ X.cell? ⟨(ad.add (i * 10)).block, (ad.add (i * 10)).off + 2, none⟩ = some (.string s.k.f1) ∧ X.cell? ⟨(ad.add (i * 10)).block, (ad.add (i * 10)).off + 3, none⟩ = some (.string s.k.f2) ∧ X.cell? ⟨(ad.add (i * 10)).block, (ad.add (i * 10)).off + 4, none⟩ = some (.int .u64 s.k.f3) ∧ X.cell? ⟨(ad.add (i * 10)).block, (ad.add (i * 10)).off + 5, none⟩ = some (.string s.to_) ∧ X.cell? ⟨(ad.add (i * 10)).block, (ad.add (i * 10)).off + 6, none⟩ = some (.slice B1 s.value.length d1) ∧ X.cell? ⟨(ad.add (i * 10)).block, (ad.add (i * 10)).off + 7, none⟩ = some (.slice B2 s.want.length d2) ∧ X.cell? ⟨(ad.add (i * 10)).block, (ad.add (i * 10)).off + 8, none⟩ = some (.bool s.has) ∧ X.cell? ⟨(ad.add (i * 10)).block, (ad.add (i * 10)).off + 9, none⟩ = some (.slice B3 s.sub.length d3) ∧ (s.kind ≠ 6 → ∀ Y : World, Calls Tryz.prog 62 #[opV s B1 d1 B2 d2 B3 d3] Y fun e w' => e = .returned (.int .i64 (if opB s then 0 else 6)) ∧ Below Y.heap.size Y w')) := ⟨fun X hX i hi => by
  obtain ⟨ad, m', B1, d1, B2, d2, B3, d3, e, _, p0, p1, p2, p3, p4, p5, p6, p7, p8, p9, _⟩ := at_kO (hat.keep hX).s i hi
  refine ⟨ad, o.sub.getD i zOp, B1, d1, B2, d2, B3, d3, e, ?_, p0, p1, p2, p3, p4, p5, p6, p7, p8, p9, fun h6 Y => opR_leaf _ h6 B1 d1 B2 d2 B3 d3 Y⟩
  rw [List.getD_eq_getElem?_getD, List.getElem?_eq_getElem hi]
  rfl⟩
 have HB1 : zAa (Below w.heap.size w (w.alloc (.cells (opCs o A1 c1 A2 c2 A3 c3) 56))) := ⟨zAb (Below.refl _ _) _⟩
 have HG1 : zAa ((w.alloc (.cells (opCs o A1 c1 A2 c2 A3 c3) 56)).heap[w.heap.size]? = some (.cells (opCs o A1 c1 A2 c2 A3 c3) 56 (0, 0))) := ⟨heap_alloc_new _ _⟩
 have HSO := zAa.mk (And.intro hat.c hat.s.2.1)
 obtain ⟨l, hl⟩ : ∃ l, o.sub = l := ⟨_, rfl⟩
 obtain ⟨n, hn⟩ : ∃ n, l.length = n := ⟨_, rfl⟩
 have HN := zAa.mk hn
 unfold opV at HRW ⊢
 unfold opCs at HB1 HG1
 rw [hl, hn, hk] at HRW HB1 HG1 ⊢
 rw [hl, hn] at HRB HSUB HSO
 generalize rightB o = q at HRB ⊢
 generalize rowB o.k = rb at HRW HRB
 clear hat hk hl hn
 have hn63 := HSO.out.2
 go_enter Tryz.func103, Tryz.ntmps103
 go_upto_region 14 with fail
 go_loopg [32] n (fun gg s32 wr => ∃ k : Nat, k ≤ n ∧ n - k ≤ gg ∧ s32 = .int .i64 k ∧ zAa (Below w.heap.size w wr) ∧ zAa (wr.heap[w.heap.size]? = some (.cells #[.int .i64 6, .string o.k.f0, .string o.k.f1, .string o.k.f2, .int .u64 o.k.f3, .string o.to_, .slice A1 o.value.length c1, .slice A2 o.want.length c2, .bool o.has, .slice A3 n c3] 56 (0, 0))) ∧ zAa (∀ j : Nat, ∀ y, j < k → l[j]? = some y → subB o.k.f0 y = true))
 case atStart => exact ⟨0, Nat.zero_le _, by omega, rfl, HB1, HG1, ⟨fun j y hj => absurd hj (Nat.not_lt_zero _)⟩⟩
 case round =>
  obtain ⟨k, hk, hg, rfl, HB, HG, HJ⟩ := hrel
  have q0 := (zAc HG.out 0).trans (rfl : _ = some (Value.int .i64 6))
  have q1 := (zAc HG.out 1).trans (rfl : _ = some (Value.string o.k.f0))
  have q2 := (zAc HG.out 2).trans (rfl : _ = some (Value.string o.k.f1))
  have q3 := (zAc HG.out 3).trans (rfl : _ = some (Value.string o.k.f2))
  have q4 := (zAc HG.out 4).trans (rfl : _ = some (Value.int .u64 o.k.f3))
  have q5 := (zAc HG.out 5).trans (rfl : _ = some (Value.string o.to_))
  have q6 := (zAc HG.out 6).trans (rfl : _ = some (Value.slice A1 o.value.length c1))
  have q7 := (zAc HG.out 7).trans (rfl : _ = some (Value.slice A2 o.want.length c2))
  have q8 := (zAc HG.out 8).trans (rfl : _ = some (Value.bool o.has))
  have q9 := (zAc HG.out 9).trans (rfl : _ = some (Value.slice A3 n c3))
  have hlg := zAj HG.out
  by_cases hlt : k < n
  ·have hltz : (k : Int) < (n : Int) := by omega
   obtain ⟨ad, s, B1, d1, B2, d2, B3, d3, rfl, hsk, p0, p1, p2, p3, p4, p5, p6, p7, p8, p9, hright⟩ := HSUB.out wr HB.out k hlt
   have HSK := zAa.mk hsk
   have HRIGHT := zAa.mk hright
   have HSE := zAa.mk (subB_eq o.k.f0 s)
   have HFAIL : zAa (subB o.k.f0 s = false → q = false) := ⟨fun h => by
    rw [HRB.out, List.all_eq_false.2 ⟨s, List.mem_of_getElem? HSK.out, by rw [h]; simp⟩]
    rfl⟩
   have HBX : zAa (Below w.heap.size w (wr.alloc (.cells (opCs s B1 d1 B2 d2 B3 d3) 56))) := ⟨zAb HB.out _⟩
   have HGX : zAa ((wr.alloc (.cells (opCs s B1 d1 B2 d2 B3 d3) 56)).heap[w.heap.size]? = some (.cells #[.int .i64 6, .string o.k.f0, .string o.k.f1, .string o.k.f2, .int .u64 o.k.f3, .string o.to_, .slice A1 o.value.length c1, .slice A2 o.want.length c2, .bool o.has, .slice (some ad) n c3] 56 (0, 0))) := ⟨zAi HG.out _⟩
   unfold opCs at HBX HGX
   unfold opV at HRIGHT
   clear hsk hright
   rcases Int.lt_or_le s.kind 1 with h1 | h1
   ·have z1 : decide (s.kind < 1) = true := decide_eq_true h1
    have HQ : zAa (q = false) := ⟨HFAIL.out (by rw [HSE.out, z1]; rfl)⟩
    clear HSE
    go_wp2_with fail
    go_ret
    exact ⟨by rw [HQ.out]; rfl, HBX.out⟩
   have z1 : decide (s.kind < 1) = false := decide_eq_false (by omega)
   rcases Int.lt_or_le 4 s.kind with h4 | h4
   ·have z2 : decide (4 < s.kind) = true := decide_eq_true h4
    have HQ : zAa (q = false) := ⟨HFAIL.out (by rw [HSE.out, z2]; simp)⟩
    have nz : ¬ s.kind < 1 := by omega
    clear HSE
    go_wp2_with fail
    go_ret
    exact ⟨by rw [HQ.out]; rfl, HBX.out⟩
   have z2 : decide (4 < s.kind) = false := decide_eq_false (by omega)
   have nz : ¬ s.kind < 1 := by omega
   have ny : ¬ 4 < s.kind := by omega
   by_cases hrow : s.k.f0 = o.k.f0
   case neg =>
    have z3 : (s.k.f0.toList == o.k.f0.toList) = false := by rw [str_dec]; exact decide_eq_false hrow
    have HQ : zAa (q = false) := ⟨HFAIL.out (by rw [HSE.out, decide_eq_false hrow]; simp)⟩
    clear HSE hrow
    go_wp2_with fail
    go_ret
    exact ⟨by rw [HQ.out]; rfl, HBX.out⟩
   have z3 : (s.k.f0.toList == o.k.f0.toList) = true := by rw [str_dec]; exact decide_eq_true hrow
   have HS6 : zAa (s.kind ≠ 6) := ⟨by omega⟩
   have HSB : zAa (subB o.k.f0 s = opB s) := ⟨by rw [HSE.out, z1, z2, decide_eq_true hrow]; rfl⟩
   have hcall := HRIGHT.out HS6.out
   have HCALL := zAa.mk hcall
   clear HSE hrow h1 h4 hcall HRIGHT
   go_wp2_with fail
   refine (HCALL.out _).mono ?_
   rintro e w3 ⟨rfl, hb⟩
   have HB3 : zAa (Below w.heap.size w w3) := ⟨HBX.out.trans (hb.mono HBX.out.size)⟩
   have HG3 := zAa.mk (zAf HGX.out hb)
   obtain ⟨ob, hob⟩ : ∃ ob, opB s = ob := ⟨_, rfl⟩
   rw [hob] at HSB ⊢
   clear hb HCALL hob
   cases ob
   ·have HQ : zAa (q = false) := ⟨HFAIL.out HSB.out⟩
    simp only [Bool.false_eq_true, if_false]
    go_wp2_with fail
    go_ret
    exact ⟨by rw [HQ.out]; rfl, HB3.out⟩
   ·have HJ2 : zAa (∀ j : Nat, ∀ y, j < k + 1 → l[j]? = some y → subB o.k.f0 y = true) := ⟨fun j y hj hy => by
     rcases Nat.lt_or_ge j k with h9 | h9
     ·exact HJ.out j y h9 hy
     ·obtain rfl : j = k := by omega
      rw [HSK.out] at hy
      cases hy
      exact HSB.out⟩
    simp only [if_true]
    go_wp2_with fail
    go_roundg (n - (k + 1))
    case measure => omega
    case rel => exact ⟨k + 1, by omega, by omega, by go_num, HB3, HG3, HJ2⟩
  ·have hltz : ¬ (k : Int) < (n : Int) := by omega
   obtain rfl : k = n := by omega
   have HRB2 : zAa (q = (decide (1 ≤ k) && decide (k ≤ 8) && rb && decide (o.k.f0.size ≠ 0))) := ⟨by
    rw [HRB.out, List.all_eq_true.2]
    ·rfl
    ·intro y hy
     obtain ⟨j, hj⟩ := List.getElem?_of_mem hy
     exact HJ.out j y (by rw [← HN.out]; exact (List.getElem?_eq_some_iff.1 hj).1) hj⟩
   clear HRB HSUB HJ
   rcases Nat.lt_or_ge k 1 with h1 | h1
   ·have z1 : decide ((k : Int) < 1) = true := Cp.dt (by omega)
    have z1' : (k : Int) < 1 := by omega
    have HQ : zAa (q = false) := ⟨by rw [HRB2.out, decide_eq_false (by omega)]; rfl⟩
    clear h1
    go_wp2_with fail
    go_ret
    exact ⟨by rw [HQ.out]; rfl, HB.out⟩
   have z1 : decide ((k : Int) < 1) = false := Cp.df (by omega)
   have z1' : ¬ (k : Int) < 1 := by omega
   rcases Nat.lt_or_ge 8 k with h8 | h8
   ·have z2 : decide ((8 : Int) < (k : Int)) = true := Cp.dt (by omega)
    have z2' : (8 : Int) < (k : Int) := by omega
    have HQ : zAa (q = false) := ⟨by rw [HRB2.out, decide_eq_true h1, decide_eq_false (by omega)]; rfl⟩
    clear h1 h8
    go_wp2_with fail
    go_ret
    exact ⟨by rw [HQ.out]; rfl, HB.out⟩
   have z2 : decide ((8 : Int) < (k : Int)) = false := Cp.df (by omega)
   have z2' : ¬ (8 : Int) < (k : Int) := by omega
   have HRB3 : zAa (q = (rb && decide (o.k.f0.size ≠ 0))) := ⟨by rw [HRB2.out, decide_eq_true h1, decide_eq_true h8]; rfl⟩
   obtain ⟨be, hbe⟩ : ∃ b, o.k.f0.toList.isEmpty = b := ⟨_, rfl⟩
   have hbt : decide (o.k.f0.size ≠ 0) = !be := by
    cases be
    ·have := Cp.size_pos hbe; exact decide_eq_true (by omega)
    ·have := Cp.size_zero hbe; exact decide_eq_false (by omega)
   have ge : (!o.k.f0.toList.isEmpty) = !be := by rw [hbe]
   rw [hbt] at HRB3
   clear h1 h8 hbt HRB2
   go_wp2_with fail
   refine (HRW.out _).mono ?_
   rintro e w3 ⟨rfl, hb⟩
   have HB3 : zAa (Below w.heap.size w w3) := ⟨HB.out.trans (hb.mono HB.out.size)⟩
   have HG3 := zAa.mk (zAf HG.out hb)
   clear hb HRW q0 q1 q2 q3 q4 q5 q6 q7 q8 q9 hlg
   have q1 := (zAc HG3.out 1).trans (rfl : _ = some (Value.string o.k.f0))
   have hlg := zAj HG3.out
   cases rb
   ·have HQ : zAa (q = false) := ⟨HRB3.out⟩
    go_wp2_with fail
    go_ret
    exact ⟨by rw [HQ.out]; rfl, HB3.out⟩
   ·have HQ : zAa (q = !be) := ⟨by rw [HRB3.out]; rfl⟩
    cases be
    all_goals (
     go_wp2_with fail
     go_ret
     exact ⟨by rw [HQ.out]; rfl, HB3.out⟩)
theorem opR_any (o : OpM) (m : Nat) (A1 : Option Addr) (c1 : Nat) (A2 : Option Addr) (c2 : Nat) (A3 : Option Addr) (c3 : Nat) (w : World) (hat : OpAt m w o A1 c1 A2 c2 A3 c3) : Calls Tryz.prog 62 #[opV o A1 c1 A2 c2 A3 c3] w fun e w' => e = .returned (.int .i64 (if opB o then 0 else 6)) ∧ Below w.heap.size w w' := by
 by_cases hk : o.kind = 6
 ·exact right_by o A1 c1 A2 c2 A3 c3 w fun X hX => right_batch o hk m A1 c1 A2 c2 A3 c3 X (hat.keep hX)
 ·exact opR_leaf o hk A1 c1 A2 c2 A3 c3 w
end Go.Proofs.YtpckachmleonlaaGreatDoor
end
section
set_option linter.unusedVariables false
set_option linter.unusedSimpArgs false
namespace Go.Proofs.YtpckachmleonlaaGreatDoor
open Go.RowKit Go.Proofs.YtpckachmleonlaaGreatDoorW.PrintWords
set_option maxHeartbeats 4000000 in
set_option maxRecDepth 100000 in
theorem all_any (ok : Nat → Prop) (w : World) (p : Nat) (a b : ByteArray) (cs : List CellM) (h : TabAt ok w p a b cs) (hcs : OkL cs) (hl : cs.length ≤ 100) :
    Calls Tryz.prog 24 #[.pointer (some ⟨p, 0, none⟩)] w fun e w' => ∃ v, e = .returned v ∧ Kd.R kC 49 w' w.heap.size (fun _ => True) v cs ∧ Below w.heap.size w w' := by
  have HAB := zAa.mk (above_any w)
  have HCE : zAa (∀ (X : World) (B : Option Addr), Below w.heap.size w X → kB.C X B 33 (Cp.nums (List.replicate 33 255)) → Calls Tryz.prog 59 #[.pointer (some ⟨p, 0, none⟩), .slice none 0 0, .slice B 33 33] X fun e w' => ∃ v, e = .returned v ∧ Kd.R kC 49 w' X.heap.size (fun _ => True) v cs ∧ Below X.heap.size X w') := ⟨fun X B hX h2 => by
    have h9 := cells_any ok X p a b cs (h.keep hX) hcs hl none B 0 33 [] (Cp.nums (List.replicate 33 255)) ⟨rfl, Nat.zero_le _, fun h => absurd h (by simp)⟩ (by simpa [Cp.nums] using h2)
    rw [sel_all hcs] at h9
    simpa [Cp.nums] using h9⟩
  clear h hcs hl
  go_enter Tryz.func24, Tryz.ntmps24
  go_wp2_with fail
  refine HAB.out.mono ?_
  rintro e w2 ⟨A, rfl, hc, hb⟩
  have HC := zAa.mk hc
  have HB := zAa.mk hb
  clear hc hb HAB
  go_wp2_with fail
  refine (HCE.out _ A HB.out HC.out).mono ?_
  rintro e w3 ⟨v, rfl, hr, hb⟩
  have HR := zAa.mk (rl_to HB.out hr)
  have HB3 := zAa.mk (bl_to HB.out hb)
  obtain ⟨A3, c3, e3⟩ := Kd.zAk hr
  subst e3
  clear hr hb
  go_wp2_with fail
  go_ret
  exact ⟨_, rfl, HR.out, HB3.out⟩
set_option maxHeartbeats 4000000 in
set_option maxRecDepth 100000 in
theorem all_nil (w : World) : Calls Tryz.prog 24 #[.pointer none] w fun e w' => e = .returned (.slice none 0 0) ∧ w' = w := by
  go_enter Tryz.func24, Tryz.ntmps24
  go_wp2_with fail
  go_ret
  exact ⟨rfl, rfl⟩
set_option maxHeartbeats 4000000 in
set_option maxRecDepth 100000 in
theorem bounds_nil (w : World) : Calls Tryz.prog 37 #[.pointer none] w fun e w' => e = .returned (.tuple #[.string ⟨#[]⟩, .string ⟨#[]⟩]) ∧ w' = w := by
  go_enter Tryz.func37, Tryz.ntmps37
  go_wp2_with fail
  go_ret2
  exact ⟨rfl, rfl⟩
end Go.Proofs.YtpckachmleonlaaGreatDoor
end
section
set_option linter.unusedVariables false
set_option linter.unusedSimpArgs false
namespace Go.Proofs.YtpckachmleonlaaGreatDoor
open Go.RowKit Go.Proofs.YtpckachmleonlaaGreatDoorW.PrintWords
theorem TabAt.lim {ok : Nat → Prop} {w : World} {p : Nat} {a b : ByteArray} {cs : List CellM} (h : TabAt ok w p a b cs) : TabAt (fun k => ok k ∧ k < w.heap.size) w p a b cs := by
  obtain ⟨t, h1, h2⟩ := h.ex
  exact ⟨fun hp => h.okp hp.1, t, h1, h2.lt⟩
theorem TabAt.wide {ok ok' : Nat → Prop} {w : World} {p : Nat} {a b : ByteArray} {cs : List CellM} (h : TabAt ok w p a b cs) (hk : ∀ k, ok k → ok' k) (hp : ¬ ok' p) : TabAt ok' w p a b cs := by
  obtain ⟨t, h1, h2⟩ := h.ex
  exact ⟨hp, t, h1, h2.mono hk⟩
def splitK (a b s : ByteArray) : Int := if s.size = 0 ∨ 32 < s.size then 1 else if ltS a s = false ∨ (b.size ≠ 0 ∧ ltS s b = false) then 8 else 0
theorem le_ltS (x y : ByteArray) : (Op.bytesLess x.toList y.toList || x.toList == y.toList) = !ltS y x := by
  rw [less_ltS]
  cases h : ltS y x with
  | true =>
    have h1 := ltS_asymm h
    have h2 : ¬ x.toList = y.toList := fun e => by
      have e2 := ba_eq.1 e
      subst e2
      rw [ltS_self] at h
      cases h
    rw [h1]
    simp [h2]
  | false =>
    rcases ltS_total h with e | h1
    · subst e
      simp
    · rw [h1]
      rfl
end Go.Proofs.YtpckachmleonlaaGreatDoor
end
section
set_option linter.unusedVariables false
set_option linter.unusedSimpArgs false
namespace Go.Proofs.YtpckachmleonlaaGreatDoor
open Go.RowKit Go.Proofs.YtpckachmleonlaaGreatDoorW.PrintWords Go.Proofs.YtpckachmleonlaaGreatDoorW.PrintMore
set_option maxHeartbeats 8000000 in
set_option maxRecDepth 100000 in
theorem scanpred (x : CellM) (V : Option Addr) (c : Nat) (W : World) : Calls Tryz.prog 107 #[cellV x V c] W fun e w' => e = .returned (.bool x.f2) ∧ Below W.heap.size W w' := by
  unfold cellV
  obtain ⟨l4, hl4⟩ : ∃ l4, x.f1.length = l4 := ⟨_, rfl⟩
  rw [hl4]
  clear hl4
  go_enter Tryz.func107, Tryz.ntmps107
  go_wp2_with fail
  go_ret
  exact ⟨rfl, zAb (Below.refl _ _) _⟩
set_option maxHeartbeats 8000000 in
set_option maxRecDepth 100000 in
theorem outside_row (ok : Nat → Prop) (w : World) (p : Nat) (a b : ByteArray) (cs : List CellM) (h : TabAt ok w p a b cs) (o : OpM) (hk : o.kind ≠ 8) (A1 : Option Addr) (c1 : Nat) (A2 : Option Addr) (c2 : Nat) (A3 : Option Addr) (c3 : Nat) :
    Calls Tryz.prog 63 #[.pointer (some ⟨p, 0, none⟩), opV o A1 c1 A2 c2 A3 c3] w fun e w' => e = .returned (.bool (offM a b o)) ∧ Below w.heap.size w w' := by
  have HO : zAa (offM a b o = !insT a b o.k.f0) := ⟨by unfold offM; rw [if_neg hk]⟩
  have HIN : zAa (∀ X, Below w.heap.size w X → Calls Tryz.prog 76 #[.pointer (some ⟨p, 0, none⟩), .string o.k.f0] X fun e w' => e = .returned (.bool (insT a b o.k.f0)) ∧ w' = X) := ⟨fun X hX => by
    obtain ⟨t, h1, _⟩ := (h.keep hX).ex
    exact inside_any p a b o.k.f0 _ X h1⟩
  have k8 : (o.kind == 8) = false := by simpa using hk
  have n8 : (o.kind != 8) = true := by simpa using hk
  rw [HO.out]
  generalize insT a b o.k.f0 = q at HIN ⊢
  unfold opV
  clear h hk HO
  go_enter Tryz.func63, Tryz.ntmps63
  go_wp2_with fail
  refine (HIN.out _ (zAb (Below.refl _ _) _)).mono ?_
  rintro e w2 ⟨rfl, e2⟩
  have HB : zAa (Below w.heap.size w w2) := ⟨by rw [e2]; exact zAb (Below.refl _ _) _⟩
  clear e2
  go_wp2_with fail
  go_ret
  exact ⟨rfl, HB.out⟩
theorem max_str (x y b : ByteArray) : ltS b (if ltS x y then y else x) = (ltS b x || ltS b y) := by
  cases h : ltS x y with
  | true =>
    rw [if_pos rfl]
    cases h1 : ltS b x with
    | true => rw [ltS_trans h1 h]; rfl
    | false => rfl
  | false =>
    rw [if_neg (by simp)]
    cases h1 : ltS b y with
    | false => simp
    | true =>
      have : ltS b x = true := by
        cases h2 : ltS b x with
        | true => rfl
        | false =>
          have h3 := ltS_le_trans h2 h1
          rw [h] at h3
          cases h3
      rw [this]; rfl
def mxS (x y : ByteArray) : ByteArray := if ltS x y then y else x
theorem run_maxS {P : Program} (w : World) (ts : Array TypeId) (t : TypeId) (x y : ByteArray) : (Builtin.max_ ts t #[.string x, .string y]).run P w = .ok (.string (mxS x y)) w := by
  have e : (Builtin.max_ ts t #[.string x, .string y]).run P w = .ok (.string (if !Op.bytesLess x.toList y.toList then x else y)) w := by
    simp [Builtin.max_, Builtin.max2, Op.stringOp, asBool]
  rw [e, less_ltS]
  unfold mxS
  cases ltS x y <;> rfl
theorem gtr_ltS (x y : ByteArray) : (!Op.bytesLess x.toList y.toList && !(x.toList == y.toList)) = ltS y x := by
  have h := le_ltS x y
  cases h1 : Op.bytesLess x.toList y.toList <;> cases h2 : (x.toList == y.toList) <;> rw [h1, h2] at h <;> simpa using h
set_option maxHeartbeats 8000000 in
set_option maxRecDepth 100000 in
theorem outside_scan (ok : Nat → Prop) (w : World) (p : Nat) (a b : ByteArray) (cs : List CellM) (h : TabAt ok w p a b cs) (o : OpM) (hk : o.kind = 8) (A1 : Option Addr) (c1 : Nat) (A2 : Option Addr) (c2 : Nat) (A3 : Option Addr) (c3 : Nat) :
    Calls Tryz.prog 63 #[.pointer (some ⟨p, 0, none⟩), opV o A1 c1 A2 c2 A3 c3] w fun e w' => e = .returned (.bool (offM a b o)) ∧ Below w.heap.size w w' := by
  have HO : zAa (offM a b o = (ltS o.k.f0 a || (decide (b.size ≠ 0) && ltS b (mxS o.k.f0 o.to_)))) := ⟨by unfold offM mxS; rw [if_pos hk, max_str]⟩
  obtain ⟨t, h1, _⟩ := h.ex
  obtain ⟨pt, hpt⟩ := zBc t
  rw [hpt] at h1
  have HT1 := zAa.mk (zAi h1 (.cells (opCs o A1 c1 A2 c2 A3 c3) 56))
  have HB1 : zAa (Below w.heap.size w (w.alloc (.cells (opCs o A1 c1 A2 c2 A3 c3) 56))) := ⟨zAb (Below.refl _ _) _⟩
  have HG1 : zAa ((w.alloc (.cells (opCs o A1 c1 A2 c2 A3 c3) 56)).heap[w.heap.size]? = some (.cells (opCs o A1 c1 A2 c2 A3 c3) 56 (0, 0))) := ⟨heap_alloc_new _ _⟩
  have hmx := fun w ts ty => run_maxS (P := Tryz.prog) w ts ty o.k.f0 o.to_
  have HL1 : zAa (Op.bytesLess o.k.f0.toList a.toList = ltS o.k.f0 a) := ⟨less_ltS _ _⟩
  have HGT : zAa ((!Op.bytesLess (mxS o.k.f0 o.to_).toList b.toList && !((mxS o.k.f0 o.to_).toList == b.toList)) = ltS b (mxS o.k.f0 o.to_)) := ⟨gtr_ltS _ _⟩
  generalize offM a b o = q at HO ⊢
  generalize mxS o.k.f0 o.to_ = mx at hmx HO HGT
  obtain ⟨be, hbe⟩ : ∃ x, b.toList.isEmpty = x := ⟨_, rfl⟩
  have hbt : decide (b.size ≠ 0) = !be := by
    cases be
    · have := Cp.size_pos hbe; exact decide_eq_true (by omega)
    · have := Cp.size_zero hbe; exact decide_eq_false (by omega)
  have ge : (!b.toList.isEmpty) = !be := by rw [hbe]
  rw [hbt] at HO
  obtain ⟨b1, hb1⟩ : ∃ x, Op.bytesLess o.k.f0.toList a.toList = x := ⟨_, rfl⟩
  rw [← HL1.out, hb1] at HO
  obtain ⟨b2, hb2⟩ : ∃ x, Op.bytesLess mx.toList b.toList = x := ⟨_, rfl⟩
  obtain ⟨b3, hb3⟩ : ∃ x, (mx.toList == b.toList) = x := ⟨_, rfl⟩
  rw [hb2, hb3] at HGT
  rw [← HGT.out] at HO
  unfold opV
  unfold opCs at HB1 HG1 HT1
  rw [hk] at HB1 HG1 HT1 ⊢
  clear h h1 hk hbt HL1 HGT hpt
  go_enter Tryz.func63, Tryz.ntmps63
  go_upto_region 3 with fail
  generalize w.alloc (.cells #[.int .i64 8, .string o.k.f0, .string o.k.f1, .string o.k.f2, .int .u64 o.k.f3, .string o.to_, .slice A1 o.value.length c1, .slice A2 o.want.length c2, .bool o.has, .slice A3 o.sub.length c3] 56) = w2 at HB1 HG1 HT1 ⊢
  have t0 := (zAc HT1.out 0).trans (rfl : _ = some (Value.string a))
  have t1 := (zAc HT1.out 1).trans (rfl : _ = some (Value.string b))
  have hlt := zAj HT1.out
  obtain ⟨g, hg⟩ : ∃ g, w.heap.size = g := ⟨_, rfl⟩
  rw [hg] at HG1
  have q1 := (zAc HG1.out 1).trans (rfl : _ = some (Value.string o.k.f0))
  have q5 := (zAc HG1.out 5).trans (rfl : _ = some (Value.string o.to_))
  have hlg := zAj HG1.out
  rw [← hg] at q1 q5 hlg
  clear hg HG1
  cases b1
  · cases be
    · cases b2
      · cases b3
        all_goals (
          go_quiet (fail)
          go_wp2_with fail
          go_ret
          exact ⟨by rw [HO.out]; rfl, zAe HB1.out _⟩)
      · go_quiet (fail)
        go_wp2_with fail
        go_ret
        exact ⟨by rw [HO.out]; rfl, zAe HB1.out _⟩
    · go_quiet (fail)
      go_wp2_with fail
      go_ret
      exact ⟨by rw [HO.out]; rfl, zAe HB1.out _⟩
  · go_quiet (fail)
    go_wp2_with fail
    go_ret
    exact ⟨by rw [HO.out]; rfl, zAe HB1.out _⟩
theorem outside_any (ok : Nat → Prop) (w : World) (p : Nat) (a b : ByteArray) (cs : List CellM) (h : TabAt ok w p a b cs) (o : OpM) (A1 : Option Addr) (c1 : Nat) (A2 : Option Addr) (c2 : Nat) (A3 : Option Addr) (c3 : Nat) :
    Calls Tryz.prog 63 #[.pointer (some ⟨p, 0, none⟩), opV o A1 c1 A2 c2 A3 c3] w fun e w' => e = .returned (.bool (offM a b o)) ∧ Below w.heap.size w w' := by
  by_cases hk : o.kind = 8
  · exact outside_scan ok w p a b cs h o hk A1 c1 A2 c2 A3 c3
  · exact outside_row ok w p a b cs h o hk A1 c1 A2 c2 A3 c3
end Go.Proofs.YtpckachmleonlaaGreatDoor
end
section
set_option linter.unusedVariables false
set_option linter.unusedSimpArgs false
namespace Go.Proofs.YtpckachmleonlaaGreatDoor
open Go.RowKit Go.Proofs.YtpckachmleonlaaGreatDoorW.PrintWords
attribute [local go_sem high] eqK46
theorem okC_sh {x : CellM} (h : OkC x) : Sh x.f0 := by
  have hk := of_decide_eq_true h.k
  exact ⟨by omega, by omega, by omega⟩
end Go.Proofs.YtpckachmleonlaaGreatDoor
end
section
set_option linter.unusedVariables false
set_option linter.unusedSimpArgs false
namespace Go.Proofs.YtpckachmleonlaaGreatDoor
open Go.RowKit Go.Proofs.YtpckachmleonlaaGreatDoorW.PrintWords
theorem zFh {w : World} {g t : Nat} {a0 b0 c0 : Value} (h : w.heap[g]? = some (.cells #[a0, b0, c0] t (0, 0))) (a b c : Value) : (((w.setCell ⟨g, 0, none⟩ a).setCell ⟨g, 1, none⟩ b).setCell ⟨g, 2, none⟩ c).heap[g]? = some (.cells #[a, b, c] t (0, 0)) :=
  (zBh ((zBh ((zBh h 0 a).trans rfl) 1 b).trans rfl) 2 c).trans rfl
theorem zCk {w w1 : World} {g base : Nat} (h : Below base w w1) (hg : base ≤ g) (a b c : Value) : Below base w (((w1.setCell ⟨g, 0, none⟩ a).setCell ⟨g, 1, none⟩ b).setCell ⟨g, 2, none⟩ c) := ((h.setCell hg _).setCell hg _).setCell hg _
end Go.Proofs.YtpckachmleonlaaGreatDoor
end
section
set_option linter.unusedVariables false
set_option linter.unusedSimpArgs false
namespace Go.Proofs.YtpckachmleonlaaGreatDoor
open Go.RowKit Go.Proofs.YtpckachmleonlaaGreatDoorW.PrintWords Go.Proofs.YtpckachmleonlaaGreatDoorW.PrintMore
attribute [local go_sem] min2_int min_two
theorem CAt_one {ok : Nat → Prop} {w : World} {g : Nat} {x : CellM} {V : Option Addr} {cv : Nat} (h : w.heap[g]? = some (.cells #[.string x.f0.f0, .string x.f0.f1, .string x.f0.f2, .int .u64 x.f0.f3, .slice V x.f1.length cv, .bool x.f2] 49 (0, 0))) (hv : FF (fun W => BAt W ⟨V, x.f1.length, cv⟩ x.f1) ok w) (hg : ok g) : CAt ok w (some ⟨g, 0, none⟩) 1 1 [x] := by
  refine ⟨rfl, Nat.le_refl _, [(⟨x.f0, ⟨V, x.f1.length, cv⟩, x.f2⟩, x)], rfl, fun W hW => ?_, fun z hz => ?_⟩
  · have h2 := (hW g hg (zAj h)).trans h
    refine ⟨rfl, by simp, fun _ => ⟨⟨g, 0, none⟩, rfl, fun j p hj => ?_⟩⟩
    have hj0 : j < 1 := (List.getElem?_eq_some_iff.1 hj).1
    obtain rfl : j = 0 := by omega
    obtain rfl := Option.some.inj hj
    refine ⟨_, rfl, rfl, fun i u hu => ?_⟩
    have hi : i < 6 := (List.getElem?_eq_some_iff.1 hu).1
    rw [add_plain, cell_of_row W g _ _ 49 (0, 0) h2, ← hu]
    rcases (by omega : i = 0 ∨ i = 1 ∨ i = 2 ∨ i = 3 ∨ i = 4 ∨ i = 5) with rfl | rfl | rfl | rfl | rfl | rfl <;> rfl
  · obtain rfl : z = (⟨x.f0, ⟨V, x.f1.length, cv⟩, x.f2⟩, x) := by simpa using hz
    exact ⟨rfl, rfl, hv⟩
set_option maxHeartbeats 8000000 in
set_option maxRecDepth 100000 in
theorem scan_any (ok : Nat → Prop) (w : World) (p : Nat) (a b : ByteArray) (cs : List CellM) (h : TabAt ok w p a b cs) (hcs : OkL cs) (hl : cs.length ≤ 100) (o : OpM) (hr : o.k.f0.size ≤ 32 ∧ o.to_.size ≤ 32) (A1 : Option Addr) (c1 : Nat) (A2 : Option Addr) (c2 : Nat) (A3 : Option Addr) (c3 : Nat) :
    Calls Tryz.prog 65 #[.pointer (some ⟨p, 0, none⟩), opV o A1 c1 A2 c2 A3 c3] w fun e w' => ∃ A n c, e = .returned (.agg #[.int .i64 0, .slice A n c, .bool (decide (16 < (scanL o.k.f0 o.to_ cs).length))]) ∧ CAt (fun j => w.heap.size ≤ j) w' A n c ((scanL o.k.f0 o.to_ cs).take 16) ∧ Below w.heap.size w w' := by
  have HROWS : zAa (∀ X, Below w.heap.size w X → Calls Tryz.prog 106 #[.pointer (some ⟨p, 0, none⟩), .string o.k.f0, .string o.to_] X fun e w' => ∃ v, e = .returned v ∧ Kd.R kC 49 w' X.heap.size (fun _ => True) v (rowsC o.k.f0 o.to_ cs) ∧ Below X.heap.size X w') := ⟨fun X hX => rows_any ok X p a b cs (h.keep hX) hcs hl o.k.f0 o.to_ hr⟩
  have HLEN : zAa ((rowsC o.k.f0 o.to_ cs).length ≤ 100) := ⟨Nat.le_trans (List.length_filter_le _ _) hl⟩
  have HSC : zAa ((rowsC o.k.f0 o.to_ cs).filter (fun x => !x.f2) = scanL o.k.f0 o.to_ cs) := ⟨rfl⟩
  have HB1 : zAa (Below w.heap.size w ((w.alloc (.cells (opCs o A1 c1 A2 c2 A3 c3) 56)).alloc (.cells #[.int .i64 0, .slice none 0 0, .bool false] 59))) := ⟨zAb (zAb (Below.refl _ _) _) _⟩
  have HD1 : zAa (((w.alloc (.cells (opCs o A1 c1 A2 c2 A3 c3) 56)).alloc (.cells #[.int .i64 0, .slice none 0 0, .bool false] 59)).heap[w.heap.size + 1]? = some (.cells #[.int .i64 0, .slice none 0 0, .bool false] 59 (0, 0))) := ⟨Cp.zFi _ _ _⟩
  have HS1 : zAa (w.heap.size + 2 ≤ ((w.alloc (.cells (opCs o A1 c1 A2 c2 A3 c3) 56)).alloc (.cells #[.int .i64 0, .slice none 0 0, .bool false] 59)).heap.size) := ⟨by simp⟩
  unfold opCs at HB1 HD1 HS1
  generalize rowsC o.k.f0 o.to_ cs = rs at HROWS HLEN HSC
  generalize scanL o.k.f0 o.to_ cs = sl at HSC ⊢
  obtain ⟨n, hn⟩ : ∃ n, sl.length = n := ⟨_, rfl⟩
  have HN := zAa.mk hn
  rw [hn]
  clear hn
  unfold opV
  clear h hcs hl hr
  go_enter Tryz.func65, Tryz.ntmps65
  go_wp2_with fail
  refine (HROWS.out _ HB1.out).mono ?_
  rintro e w2 ⟨v, rfl, hr, hb⟩
  have HB2 : zAa (Below w.heap.size w w2) := ⟨HB1.out.trans (hb.mono HB1.out.size)⟩
  have HD2 := zAa.mk (zAf HD1.out hb)
  have hr2 := Kd.zCj (base' := w.heap.size + 2) hr HS1.out
  obtain ⟨A2', c2', rfl⟩ := Kd.zAk hr
  have HR2 := zAa.mk hr2
  have HS2 : zAa (w.heap.size + 2 ≤ w2.heap.size) := ⟨Nat.le_trans HS1.out hb.size⟩
  have hdel := delf_any (w.heap.size + 2) 107 #[] (enters_of Tryz.func107 (by kernel_rfl) rfl) (fun x => x.f2) rs A2' rs.length c2' w2 hr2 (by have := HLEN.out; omega) (fun g _ W x V c _ => scanpred x V c W) HS2.out (fun _ W x V c hb => (scanpred x V c W).mono fun e w' h9 => ⟨h9.1, hb.trans (h9.2.mono hb.size)⟩)
  rw [HSC.out] at hdel
  have HDEL := zAa.mk hdel
  obtain ⟨nr, hnr⟩ : ∃ n, rs.length = n := ⟨_, rfl⟩
  have HSL : zAa (sl.length ≤ 100) := ⟨by rw [← HSC.out]; exact Nat.le_trans (List.length_filter_le _ _) HLEN.out⟩
  rw [hnr] at HDEL ⊢
  clear hr hb hr2 hdel HROWS HB1 HD1 HR2 hnr
  go_wp2_with fail
  refine HDEL.out.mono ?_
  rintro e w3 ⟨v, rfl, hr, hb⟩
  have HB3 : zAa (Below w.heap.size w w3) := ⟨HB2.out.trans (hb.mono (by omega))⟩
  have HD3 := zAa.mk ((hb.block (w.heap.size + 1) (by omega)).trans HD2.out)
  obtain ⟨A3', c3', rfl⟩ := Kd.zAk hr
  have HR3 := zAa.mk hr
  have hcap := (Kd.zEe hr).2.1
  rw [HN.out] at HR3 hcap HSL ⊢
  obtain ⟨g, hg⟩ : ∃ g, w.heap.size + 1 = g := ⟨_, rfl⟩
  have HG : zAa (w.heap.size ≤ g ∧ w.heap.size + 2 = g + 1) := ⟨by omega, by omega⟩
  rw [hg] at HD3
  rw [HG.out.2] at HR3
  have f0 := zAd HD3.out 0
  have f1 := zAd HD3.out 1
  have f2 := zAd HD3.out 2
  have d0 := (zAc HD3.out 0).trans (rfl : _ = some (Value.int .i64 0))
  have d1 := (zAc HD3.out 1).trans (rfl : _ = some (Value.slice none 0 0))
  have d2 := (zAc HD3.out 2).trans (rfl : _ = some (Value.bool false))
  have hlg := zAj HD3.out
  have hn100 := HSL.out
  clear hr hb HDEL HB2 HD2 HS1 HS2
  rw [hg]
  have hfin : ∀ (m : Nat) (q : Bool), m = min n 16 → q = decide (16 < n) → (e0 : Ending) → (W : World) → e0 = .returned (.agg #[.int .i64 0, .slice A3' m c3', .bool q]) → Same_ (fun j => g + 1 ≤ j) w3 W → Below w.heap.size w W → ∃ A n' c, e0 = .returned (.agg #[.int .i64 0, .slice A n' c, .bool (decide (16 < n))]) ∧ CAt (fun j => w.heap.size ≤ j) W A n' c (sl.take 16) ∧ Below w.heap.size w W := fun m q hm hq e0 W he hs hb => by
    have h9 := R_CAt (Kd.R_take (m := m) HR3.out (by rw [HN.out]; omega))
    have e : sl.take m = sl.take 16 := by
      rcases Nat.lt_or_ge n 16 with h | h
      · rw [List.take_of_length_le (by rw [HN.out]; omega), List.take_of_length_le (by rw [HN.out]; omega)]
      · rw [show m = 16 by omega]
    rw [e] at h9
    exact ⟨A3', m, c3', by rw [he, hq], (h9.step hs).mono (fun j hj => by have := HG.out.1; omega), hb⟩
  have HFIN := zAa.mk hfin
  clear hfin
  rcases (by omega : n < 16 ∨ n = 16 ∨ 16 < n) with h1 | h1 | h1
  · have z1 : decide ((16 : Int) < (n : Int)) = false := Cp.df (by omega)
    have z2 : decide (16 < n) = false := Cp.df (by omega)
    have z3 : ¬ (16 : Int) < (n : Int) := by omega
    have z4 : (n : Int) < 16 := by omega
    have z5 : ¬ 16 < n := by omega
    have z6 : n < 16 := by omega
    have HM : zAa (n = min n 16) := ⟨by omega⟩
    have HQ : zAa (false = decide (16 < n)) := ⟨by rw [z2]⟩
    clear h1
    go_wp2_with fail
    have s1 := (zBh HD3.out 2 (.bool false)).trans rfl
    have s2 := (zBh s1 1 (.slice A3' n c3')).trans rfl
    have s3 := zFh s2 (.int .i64 0) (.slice A3' n c3') (.bool false)
    have e0 := (zAc s3 0).trans (rfl : _ = some (Value.int .i64 0))
    have e1 := (zAc s3 1).trans (rfl : _ = some (Value.slice A3' n c3'))
    have e2 := (zAc s3 2).trans (rfl : _ = some (Value.bool false))
    refine bodyPost_ret (v := .agg #[.int .i64 0, .slice A3' n c3', .bool false]) (by simp [results, Tryz.results65, go_sem, e0, e1, e2]) rfl ?_
    refine HFIN.out n false HM.out HQ.out _ _ rfl (fun k hk _ => ?_) (zCk ((HB3.out.setCell HG.out.1 _).setCell HG.out.1 _) HG.out.1 _ _ _)
    have hne : k ≠ g := by omega
    rw [Below.heap_setCell _ _ _ k hne, Below.heap_setCell _ _ _ k hne, Below.heap_setCell _ _ _ k hne, Below.heap_setCell _ _ _ k hne, Below.heap_setCell _ _ _ k hne]
  · subst h1
    have HM : zAa (16 = min 16 16) := ⟨by omega⟩
    have HQ : zAa (false = decide (16 < 16)) := ⟨by rfl⟩
    go_wp2_with fail
    have s1 := (zBh HD3.out 2 (.bool false)).trans rfl
    have s2 := (zBh s1 1 (.slice A3' 16 c3')).trans rfl
    have s3 := zFh s2 (.int .i64 0) (.slice A3' 16 c3') (.bool false)
    have e0 := (zAc s3 0).trans (rfl : _ = some (Value.int .i64 0))
    have e1 := (zAc s3 1).trans (rfl : _ = some (Value.slice A3' 16 c3'))
    have e2 := (zAc s3 2).trans (rfl : _ = some (Value.bool false))
    refine bodyPost_ret (v := .agg #[.int .i64 0, .slice A3' 16 c3', .bool false]) (by simp [results, Tryz.results65, go_sem, e0, e1, e2]) rfl ?_
    refine HFIN.out 16 false HM.out HQ.out _ _ rfl (fun k hk _ => ?_) (zCk ((HB3.out.setCell HG.out.1 _).setCell HG.out.1 _) HG.out.1 _ _ _)
    have hne : k ≠ g := by omega
    rw [Below.heap_setCell _ _ _ k hne, Below.heap_setCell _ _ _ k hne, Below.heap_setCell _ _ _ k hne, Below.heap_setCell _ _ _ k hne, Below.heap_setCell _ _ _ k hne]
  · have z1 : decide ((16 : Int) < (n : Int)) = true := Cp.dt (by omega)
    have z2 : decide (16 < n) = true := Cp.dt (by omega)
    have z3 : (16 : Int) < (n : Int) := by omega
    have z4 : ¬ (n : Int) < 16 := by omega
    have z5 : 16 < n := by omega
    have z6 : ¬ n < 16 := by omega
    have HM : zAa (16 = min n 16) := ⟨by omega⟩
    have HQ : zAa (true = decide (16 < n)) := ⟨by rw [z2]⟩
    clear h1
    go_wp2_with fail
    have s1 := (zBh HD3.out 2 (.bool true)).trans rfl
    have s2 := (zBh s1 1 (.slice A3' 16 c3')).trans rfl
    have s3 := zFh s2 (.int .i64 0) (.slice A3' 16 c3') (.bool true)
    have e0 := (zAc s3 0).trans (rfl : _ = some (Value.int .i64 0))
    have e1 := (zAc s3 1).trans (rfl : _ = some (Value.slice A3' 16 c3'))
    have e2 := (zAc s3 2).trans (rfl : _ = some (Value.bool true))
    refine bodyPost_ret (v := .agg #[.int .i64 0, .slice A3' 16 c3', .bool true]) (by simp [results, Tryz.results65, go_sem, e0, e1, e2]) rfl ?_
    refine HFIN.out 16 true HM.out HQ.out _ _ rfl (fun k hk _ => ?_) (zCk ((HB3.out.setCell HG.out.1 _).setCell HG.out.1 _) HG.out.1 _ _ _)
    have hne : k ≠ g := by omega
    rw [Below.heap_setCell _ _ _ k hne, Below.heap_setCell _ _ _ k hne, Below.heap_setCell _ _ _ k hne, Below.heap_setCell _ _ _ k hne, Below.heap_setCell _ _ _ k hne]
end Go.Proofs.YtpckachmleonlaaGreatDoor
end
