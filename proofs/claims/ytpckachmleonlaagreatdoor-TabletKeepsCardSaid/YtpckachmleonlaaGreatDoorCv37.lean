/- Words and walks for Split and Tablet: texts of these sessions, and of the kit's print, cut down to what is used (R4). -/
import Derived.Test.YtpckachmleonlaaGreatDoorCv36
section
set_option linter.unusedVariables false
set_option linter.unusedSimpArgs false
namespace Go.Proofs.YtpckachmleonlaaGreatDoor
open Go.RowKit Go.Proofs.YtpckachmleonlaaGreatDoorW.PrintWords Go.Proofs.YtpckachmleonlaaGreatDoorW.PrintMore
attribute [local go_sem high] eqK46
def lessL (ys cs : List CellM) : List CellM := cs.filter fun x => !hasK x.f0 ys
theorem key_uniq : ∀ {cs : List CellM}, SortedC cs → ∀ x ∈ cs, ∀ y ∈ cs, x.f0 = y.f0 → x = y
 | [], _, _, h, _, _, _ => by cases h
 | z :: l, h, x, hx, y, hy, e => by
  obtain ⟨h1, h2⟩ := List.pairwise_cons.1 h
  rcases List.mem_cons.1 hx with ex | hx2
  ·rcases List.mem_cons.1 hy with ey | hy2
   ·rw [ex, ey]
   ·have := h1 y hy2
    rw [← ex, e] at this
    exact absurd this (cmpK_irrefl _)
  ·rcases List.mem_cons.1 hy with ey | hy2
   ·have := h1 x hx2
    rw [← ey, e] at this
    exact absurd this (cmpK_irrefl _)
   ·exact key_uniq h2 x hx2 y hy2 e
theorem lessL_nil (cs : List CellM) : lessL [] cs = cs := filt_all fun y _ => rfl
theorem lessL_step {ys cs : List CellM} {k : Nat} {y : CellM} (h : ys[k]? = some y) : delF (lessL (ys.take k) cs) y.f0 = lessL (ys.take (k + 1)) cs := by
 have e : ys.take (k + 1) = ys.take k ++ [y] := by rw [List.take_add_one, h]; rfl
 unfold delF lessL
 rw [List.filter_filter, e]
 apply List.filter_congr
 intro x _
 unfold hasK
 rw [List.any_append]
 simp only [List.any_cons, List.any_nil, Bool.or_false, Bool.not_or]
 by_cases h1 : y.f0 = x.f0
 ·simp [h1]
 ·have h2 : ¬ x.f0 = y.f0 := fun e => h1 e.symm
  simp [h1, h2]
theorem lessL_all {cs : List CellM} (h : OkL cs) (p : CellM → Bool) : lessL (cs.filter p) cs = cs.filter fun x => !p x := by
 unfold lessL
 apply List.filter_congr
 intro x hx
 have e : hasK x.f0 (cs.filter p) = p x := by
  rw [Bool.eq_iff_iff]
  unfold hasK
  rw [List.any_eq_true]
  constructor
  ·rintro ⟨y, hy, e⟩
   obtain ⟨h1, h2⟩ := List.mem_filter.1 hy
   rw [← key_uniq h.so y h1 x hx (of_decide_eq_true e)]
   exact h2
  ·intro hp
   exact ⟨x, List.mem_filter.2 ⟨hx, hp⟩, decide_eq_true rfl⟩
 rw [e]
theorem lessL_mem {cs : List CellM} (h : OkL cs) {p : CellM → Bool} {k : Nat} {y : CellM} (hy : (cs.filter p)[k]? = some y) : y ∈ lessL ((cs.filter p).take k) cs := by
 have hm := (List.mem_filter.1 (List.mem_of_getElem? hy)).1
 refine List.mem_filter.2 ⟨hm, ?_⟩
 have hf : SortedC (cs.filter p) := h.so.filter _
 have e : hasK y.f0 ((cs.filter p).take k) = false := List.any_eq_false.2 fun z hz => by
  obtain ⟨j, hj⟩ := List.getElem?_of_mem hz
  rw [List.getElem?_take] at hj
  split at hj
  ·rename_i hjk
   have h1 := List.pairwise_iff_getElem.1 hf j k (List.getElem?_eq_some_iff.1 hj).1 (List.getElem?_eq_some_iff.1 hy).1 hjk
   rw [(List.getElem?_eq_some_iff.1 hj).2, (List.getElem?_eq_some_iff.1 hy).2] at h1
   have : ¬ z.f0 = y.f0 := fun e => by rw [e] at h1; exact cmpK_irrefl _ h1
   simp [this]
  ·cases hj
 rw [e]
 rfl
def WritePost (ok : Nat → Prop) (p : Nat) (a b : ByteArray) (o : OpM) (cs : List CellM) (w : World) (e : Ending) (w' : World) : Prop :=
 e = .returned (.int .i64 (zCg o cs).2) ∧ TabAt ok w' p a b (zCg o cs).1 ∧ But p w w'
theorem CAt.at {ok : Nat → Prop} {w : World} {A : Option Addr} {n c : Nat} {xs : List CellM} (h : CAt ok w A n c xs) (k : Nat) (hk : k < n) : ∃ ad x V cv, A = some ad ∧ xs[k]? = some x ∧ w.cell? (ad.add (k * 6)) = some (.string x.f0.f0) ∧ w.cell? ⟨(ad.add (k * 6)).block, (ad.add (k * 6)).off + 1, none⟩ = some (.string x.f0.f1) ∧ w.cell? ⟨(ad.add (k * 6)).block, (ad.add (k * 6)).off + 2, none⟩ = some (.string x.f0.f2) ∧ w.cell? ⟨(ad.add (k * 6)).block, (ad.add (k * 6)).off + 3, none⟩ = some (.int .u64 x.f0.f3) ∧ w.cell? ⟨(ad.add (k * 6)).block, (ad.add (k * 6)).off + 4, none⟩ = some (.slice V x.f1.length cv) ∧ w.cell? ⟨(ad.add (k * 6)).block, (ad.add (k * 6)).off + 5, none⟩ = some (.bool x.f2) ∧ FF (fun W => BAt W ⟨V, x.f1.length, cv⟩ x.f1) ok w := by
 obtain ⟨zs, e1, h1, h2⟩ := h.ex
 obtain ⟨ad, y, rfl, hy, p0, p1, p2, p3, p4, p5⟩ := at_kH h1.now k hk
 rw [List.getElem?_map, Option.map_eq_some_iff] at hy
 obtain ⟨z, hz, rfl⟩ := hy
 obtain ⟨k1, k2, k3⟩ := h2 z (List.mem_of_getElem? hz)
 have hn := k3.now.n
 rw [k1] at p0 p1 p2 p3
 rw [k2] at p5
 rw [hn] at p4
 rw [show z.1.h = ⟨z.1.h.A, z.2.f1.length, z.1.h.c⟩ by rw [← hn]] at k3
 exact ⟨ad, z.2, z.1.h.A, z.1.h.c, rfl, by rw [← e1, List.getElem?_map, hz]; rfl, p0, p1, p2, p3, p4, p5, k3⟩
set_option maxHeartbeats 8000000 in
set_option maxRecDepth 100000 in
theorem write_put (ok : Nat → Prop) (w : World) (p : Nat) (a b : ByteArray) (cs : List CellM) (h : TabAt ok w p a b cs) (hok : ∀ k, w.heap.size ≤ k → ok k) (hcs : OkL cs) (hl : cs.length ≤ 32) (o : OpM) (hk : o.kind = 1) (hx : OkC ⟨o.k, o.value, false⟩) (m : Nat) (A1 : Option Addr) (c1 : Nat) (A2 : Option Addr) (c2 : Nat) (A3 : Option Addr) (c3 : Nat) (hat : OpAt m w o A1 c1 A2 c2 A3 c3) :
  Calls Tryz.prog 66 #[.pointer (some ⟨p, 0, none⟩), opV o A1 c1 A2 c2 A3 c3] w fun e w' => WritePost ok p a b o cs w e w' := by
 have HM : zAa (zCg o cs = putC o.k o.value cs) := ⟨by unfold zCg; rw [if_pos hk]⟩
 have HB1 : zAa (Below w.heap.size w (w.alloc (.cells (opCs o A1 c1 A2 c2 A3 c3) 56))) := ⟨zAb (Below.refl _ _) _⟩
 have HPUT := zAa.mk (put_any9 ok _ p a b cs (h.keep HB1.out) (fun k hk => hok k (Nat.le_trans HB1.out.size hk)) hcs hl o hx m A1 c1 A2 c2 A3 c3 (hat.keep HB1.out))
 have HLP := zAa.mk h.lt
 unfold opV opCs at HPUT
 unfold opCs at HB1
 unfold opV
 rw [hk] at HPUT HB1 ⊢
 clear h hok hcs hl hx hat hk
 go_enter Tryz.func66, Tryz.ntmps66
 go_wp2_with fail
 refine HPUT.out.mono ?_
 rintro e w2 ⟨rfl, ht, hb⟩
 have HT := zAa.mk ht
 have HB2 : zAa (But p w w2) := ⟨(But.of_below HB1.out (Nat.le_of_lt HLP.out)).trans hb⟩
 clear ht hb HPUT
 go_wp2_with fail
 go_ret
 exact ⟨by rw [HM.out]; rfl, by rw [HM.out]; exact HT.out, HB2.out⟩
set_option maxHeartbeats 8000000 in
set_option maxRecDepth 100000 in
theorem beq_any (A0 : Option Addr) (c0 : Nat) (l0 : List Int) (A1 : Option Addr) (c1 : Nat) (l1 : List Int) (w : World) (h0 : kB.C w A0 l0.length l0) (h1 : kB.C w A1 l1.length l1) :
  Calls Tryz.prog 108 #[.slice A0 l0.length c0, .slice A1 l1.length c1] w fun e w' => e = .returned (.bool ((strOfNums l0).toList == (strOfNums l1).toList)) ∧ Below w.heap.size w w' := by
 have hcv3 := Kd.C_string (P := Tryz.prog) (A := A0) (c := c0) Tryz.underlying47 Tryz.underlying5 Tryz.underlying9 h0
 have hcv4 := Kd.C_string (P := Tryz.prog) (A := A1) (c := c1) Tryz.underlying47 Tryz.underlying5 Tryz.underlying9 h1
 clear h0 h1
 go_enter Tryz.func108, Tryz.ntmps108
 go_wp2
 go_ret
 exact ⟨by first | rfl | (simp; done) | (simp [*]; done), zBj.below (by repeat (first | exact zBj.refl _ | apply zBj.step))⟩
set_option maxHeartbeats 8000000 in
set_option maxRecDepth 100000 in
theorem write_check (ok : Nat → Prop) (w : World) (p : Nat) (a b : ByteArray) (cs : List CellM) (h : TabAt ok w p a b cs) (hok : ∀ k, w.heap.size ≤ k → ok k) (hcs : OkL cs) (hl : cs.length ≤ 32) (o : OpM) (hk : o.kind = 5) (hx : OkC ⟨o.k, o.value, false⟩) (m : Nat) (A1 : Option Addr) (c1 : Nat) (A2 : Option Addr) (c2 : Nat) (A3 : Option Addr) (c3 : Nat) (hat : OpAt m w o A1 c1 A2 c2 A3 c3) :
  Calls Tryz.prog 66 #[.pointer (some ⟨p, 0, none⟩), opV o A1 c1 A2 c2 A3 c3] w fun e w' => WritePost ok p a b o cs w e w' := by
 have HM : zAa (zCg o cs = if checkB o cs then putC o.k o.value cs else (cs, 18)) := ⟨by unfold zCg; rw [if_neg (by omega), if_pos hk]⟩
 have HB1 : zAa (Below w.heap.size w (w.alloc (.cells (opCs o A1 c1 A2 c2 A3 c3) 56))) := ⟨zAb (Below.refl _ _) _⟩
 have HG1 : zAa ((w.alloc (.cells (opCs o A1 c1 A2 c2 A3 c3) 56)).heap[w.heap.size]? = some (.cells (opCs o A1 c1 A2 c2 A3 c3) 56 (0, 0))) := ⟨heap_alloc_new _ _⟩
 have HPUT : zAa (∀ X, Below w.heap.size w X → Calls Tryz.prog 109 #[.pointer (some ⟨p, 0, none⟩), opV o A1 c1 A2 c2 A3 c3] X fun e w' => e = .returned (.int .i64 (putC o.k o.value cs).2) ∧ TabAt ok w' p a b (putC o.k o.value cs).1 ∧ But p X w') := ⟨fun X hX => put_any9 ok X p a b cs (h.keep hX) (fun k hk => hok k (Nat.le_trans hX.size hk)) hcs hl o hx m A1 c1 A2 c2 A3 c3 (hat.keep hX)⟩
 have HNEW := zAa.mk (newest_any ok _ p a b cs (h.keep HB1.out) hcs (by omega) o.k (okC_row hx))
 have HEQ : zAa (∀ (X : World) (V : Option Addr) (cv : Nat) (l : List Int), Below w.heap.size w X → BAt X ⟨V, l.length, cv⟩ l → Calls Tryz.prog 108 #[.slice V l.length cv, .slice A2 o.want.length c2] X fun e w' => e = .returned (.bool ((strOfNums l).toList == (strOfNums o.want).toList)) ∧ Below X.heap.size X w') := ⟨fun X V cv l hX hv => beq_any V cv l A2 c2 o.want X hv.row (Kd.zBb hat.u.row hX)⟩
 have HT0 := zAa.mk h
 have HLP := zAa.mk h.lt
 have HCK : zAa (checkB o cs = match newC o.k cs with
  | none => !o.has
  | some x => o.has && ((strOfNums x.f1).toList == (strOfNums o.want).toList)) := ⟨rfl⟩
 unfold opV at HPUT
 unfold opCs at HB1 HG1 HNEW
 unfold opV
 rw [hk] at HPUT HB1 HG1 HNEW ⊢
 obtain ⟨hs, hhs⟩ : ∃ hs, o.has = hs := ⟨_, rfl⟩
 rw [hhs] at HPUT HB1 HG1 HNEW HCK ⊢
 clear h hok hcs hl hx hat hk hhs
 go_enter Tryz.func66, Tryz.ntmps66
 go_wp2_with fail
 refine HNEW.out.mono ?_
 rintro e w2 ⟨hb, he⟩
 have HB2 : zAa (Below w.heap.size w w2) := ⟨HB1.out.trans (hb.mono HB1.out.size)⟩
 have HG2 := zAa.mk (zAf HG1.out hb)
 obtain ⟨nc, hnc⟩ : ∃ nc, newC o.k cs = nc := ⟨_, rfl⟩
 rw [hnc] at he HCK
 clear hb hnc HNEW HB1 HG1
 have q0 := (zAc HG2.out 0).trans (rfl : _ = some (Value.int .i64 5))
 have q1 := (zAc HG2.out 1).trans (rfl : _ = some (Value.string o.k.f0))
 have q2 := (zAc HG2.out 2).trans (rfl : _ = some (Value.string o.k.f1))
 have q3 := (zAc HG2.out 3).trans (rfl : _ = some (Value.string o.k.f2))
 have q4 := (zAc HG2.out 4).trans (rfl : _ = some (Value.int .u64 o.k.f3))
 have q5 := (zAc HG2.out 5).trans (rfl : _ = some (Value.string o.to_))
 have q6 := (zAc HG2.out 6).trans (rfl : _ = some (Value.slice A1 o.value.length c1))
 have q7 := (zAc HG2.out 7).trans (rfl : _ = some (Value.slice A2 o.want.length c2))
 have q8 := (zAc HG2.out 8).trans (rfl : _ = some (Value.bool hs))
 have q9 := (zAc HG2.out 9).trans (rfl : _ = some (Value.slice A3 o.sub.length c3))
 have hlg := zAj HG2.out
 cases nc with
 | none =>
  simp only at he HCK
  subst he
  have HBA : zAa (Below w.heap.size w (w2.alloc (.cells #[.string ⟨#[]⟩, .string ⟨#[]⟩, .string ⟨#[]⟩, .int .u64 0, .slice none 0 0, .bool false] 49))) := ⟨zAb HB2.out _⟩
  cases hs
  case true =>
   have HN : zAa (zCg o cs = (cs, 18)) := ⟨by rw [HM.out, HCK.out]; rfl⟩
   go_wp2_with fail
   go_ret
   exact ⟨by rw [HN.out]; rfl, by rw [HN.out]; exact HT0.out.keep HBA.out, But.of_below HBA.out (Nat.le_of_lt HLP.out)⟩
  case false =>
   have HN : zAa (zCg o cs = putC o.k o.value cs) := ⟨by rw [HM.out, HCK.out]; rfl⟩
   go_wp2_with fail
   refine (HPUT.out _ HBA.out).mono ?_
   rintro e w3 ⟨rfl, ht, hb⟩
   have HT := zAa.mk ht
   have HB3 : zAa (But p w w3) := ⟨(But.of_below HBA.out (Nat.le_of_lt HLP.out)).trans hb⟩
   clear ht hb HPUT
   go_wp2_with fail
   go_ret
   exact ⟨by rw [HN.out]; rfl, by rw [HN.out]; exact HT.out, HB3.out⟩
 | some x =>
  simp only at he HCK
  obtain ⟨V, cv, rfl, hv⟩ := he
  unfold cellV
  obtain ⟨lx, hlx⟩ : ∃ lx, x.f1.length = lx := ⟨_, rfl⟩
  have HV := zAa.mk hv
  have HBB : zAa (Below w2.heap.size w2 (w2.alloc (.cells #[.string x.f0.f0, .string x.f0.f1, .string x.f0.f2, .int .u64 x.f0.f3, .slice V lx cv, .bool x.f2] 49))) := ⟨zAb (Below.refl _ _) _⟩
  have HBA : zAa (Below w.heap.size w (w2.alloc (.cells #[.string x.f0.f0, .string x.f0.f1, .string x.f0.f2, .int .u64 x.f0.f3, .slice V lx cv, .bool x.f2] 49))) := ⟨zAb HB2.out _⟩
  have HEX := zAa.mk (HEQ.out _ V cv x.f1 HBA.out ((HV.out.keep HBB.out).now))
  rw [hlx] at HEX ⊢
  have HGA := zAa.mk (zAf HG2.out HBB.out)
  clear hlx hv HEQ HV HBB
  cases hs
  case false =>
   have HN : zAa (zCg o cs = (cs, 18)) := ⟨by rw [HM.out, HCK.out]; rfl⟩
   go_wp2_with fail
   go_ret
   exact ⟨by rw [HN.out]; rfl, by rw [HN.out]; exact HT0.out.keep HBA.out, But.of_below HBA.out (Nat.le_of_lt HLP.out)⟩
  case true =>
   go_wp2_with fail
   refine HEX.out.mono ?_
   rintro e w3 ⟨rfl, hb⟩
   have HB3 : zAa (Below w.heap.size w w3) := ⟨HBA.out.trans (hb.mono HBA.out.size)⟩
   have HG3 := zAa.mk (zAf HGA.out hb)
   obtain ⟨bq, hbq⟩ : ∃ bq, ((strOfNums x.f1).toList == (strOfNums o.want).toList) = bq := ⟨_, rfl⟩
   rw [hbq] at HCK ⊢
   clear hb hbq HEX HGA q0 q1 q2 q3 q4 q5 q6 q7 q8 q9 hlg HG2
   have q0 := (zAc HG3.out 0).trans (rfl : _ = some (Value.int .i64 5))
   have q1 := (zAc HG3.out 1).trans (rfl : _ = some (Value.string o.k.f0))
   have q2 := (zAc HG3.out 2).trans (rfl : _ = some (Value.string o.k.f1))
   have q3 := (zAc HG3.out 3).trans (rfl : _ = some (Value.string o.k.f2))
   have q4 := (zAc HG3.out 4).trans (rfl : _ = some (Value.int .u64 o.k.f3))
   have q5 := (zAc HG3.out 5).trans (rfl : _ = some (Value.string o.to_))
   have q6 := (zAc HG3.out 6).trans (rfl : _ = some (Value.slice A1 o.value.length c1))
   have q7 := (zAc HG3.out 7).trans (rfl : _ = some (Value.slice A2 o.want.length c2))
   have q8 := (zAc HG3.out 8).trans (rfl : _ = some (Value.bool true))
   have q9 := (zAc HG3.out 9).trans (rfl : _ = some (Value.slice A3 o.sub.length c3))
   have hlg := zAj HG3.out
   cases bq
   case false =>
    have HN : zAa (zCg o cs = (cs, 18)) := ⟨by rw [HM.out, HCK.out]; rfl⟩
    go_wp2_with fail
    go_ret
    exact ⟨by rw [HN.out]; rfl, by rw [HN.out]; exact HT0.out.keep HB3.out, But.of_below HB3.out (Nat.le_of_lt HLP.out)⟩
   case true =>
    have HN : zAa (zCg o cs = putC o.k o.value cs) := ⟨by rw [HM.out, HCK.out]; rfl⟩
    go_wp2_with fail
    refine (HPUT.out _ HB3.out).mono ?_
    rintro e w4 ⟨rfl, ht, hb⟩
    have HT := zAa.mk ht
    have HB4 : zAa (But p w w4) := ⟨(But.of_below HB3.out (Nat.le_of_lt HLP.out)).trans hb⟩
    clear ht hb HPUT
    go_wp2_with fail
    go_ret
    exact ⟨by rw [HN.out]; rfl, by rw [HN.out]; exact HT.out, HB4.out⟩
set_option maxHeartbeats 8000000 in
set_option maxRecDepth 100000 in
theorem write_cell (ok : Nat → Prop) (w : World) (p : Nat) (a b : ByteArray) (cs : List CellM) (h : TabAt ok w p a b cs) (hok : ∀ k, w.heap.size ≤ k → ok k) (hcs : OkL cs) (hl : cs.length ≤ 32) (o : OpM) (hk : o.kind = 2) (hx : OkC ⟨o.k, [], true⟩) (m : Nat) (A1 : Option Addr) (c1 : Nat) (A2 : Option Addr) (c2 : Nat) (A3 : Option Addr) (c3 : Nat) (hat : OpAt m w o A1 c1 A2 c2 A3 c3) :
  Calls Tryz.prog 66 #[.pointer (some ⟨p, 0, none⟩), opV o A1 c1 A2 c2 A3 c3] w fun e w' => WritePost ok p a b o cs w e w' := by
 have hrow : o.k.f0.size ≤ 32 := okC_row hx
 have HM : zAa (zCg o cs = if (colC o.k cs).any (fun y => decide (y.f0 = o.k) && !y.f2) then (putF cs ⟨o.k, [], true⟩, 0) else (cs, 7)) := ⟨by unfold zCg; rw [if_neg (by omega), if_neg (by omega), if_pos hk]⟩
 have HB1 : zAa (Below w.heap.size w (w.alloc (.cells (opCs o A1 c1 A2 c2 A3 c3) 56))) := ⟨zAb (Below.refl _ _) _⟩
 have HG1 : zAa ((w.alloc (.cells (opCs o A1 c1 A2 c2 A3 c3) 56)).heap[w.heap.size]? = some (.cells (opCs o A1 c1 A2 c2 A3 c3) 56 (0, 0))) := ⟨heap_alloc_new _ _⟩
 have HCOL : zAa (∀ X, Below w.heap.size w X → Calls Tryz.prog 105 #[.pointer (some ⟨p, 0, none⟩), .agg #[.string o.k.f0, .string o.k.f1, .string o.k.f2, .int .u64 o.k.f3]] X fun e w' => ∃ A n c, e = .returned (.slice A n c) ∧ n = (colC o.k cs).length ∧ CAt (fun k => w.heap.size ≤ k) w' A n c (colC o.k cs) ∧ n ≤ 32 ∧ Below X.heap.size X w') := ⟨fun X hX => (column_any ok X p a b cs (h.keep hX) hcs (by omega) o.k hrow).mono fun e w' h => by
  obtain ⟨v, rfl, hr, hb⟩ := h
  obtain ⟨A, c, rfl⟩ := Kd.zAk hr
  exact ⟨A, _, c, rfl, rfl, R_CAt (Kd.zCj hr hX.size), Nat.le_trans (colC_len _ _) hl, hb⟩⟩
 have HSET : zAa (∀ X, Below w.heap.size w X → Calls Tryz.prog 78 #[.pointer (some ⟨p, 0, none⟩), .agg #[.string o.k.f0, .string o.k.f1, .string o.k.f2, .int .u64 o.k.f3, .slice none 0 0, .bool true]] X fun e w' => e = .returned (.tuple #[]) ∧ TabAt ok w' p a b (putF cs ⟨o.k, [], true⟩) ∧ But p X w') := ⟨fun X hX => set_any ok X p a b cs (h.keep hX) (fun k hk => hok k (Nat.le_trans hX.size hk)) hcs (by omega) ⟨o.k, [], true⟩ hx none 0 ⟨rfl, by simp, fun h => absurd h (by simp)⟩ (Nat.le_refl _)⟩
 have HT0 := zAa.mk h
 have HLP := zAa.mk h.lt
 unfold opCs at HB1 HG1
 unfold opV
 rw [hk] at HB1 HG1 ⊢
 clear h hok hcs hl hx hat hk hrow
 go_enter Tryz.func66, Tryz.ntmps66
 go_wp2_with fail
 refine (HCOL.out _ HB1.out).mono ?_
 rintro e w2 ⟨A, n, c, rfl, hn, hC, hn32, hb⟩
 have HB2 : zAa (Below w.heap.size w w2) := ⟨HB1.out.trans (hb.mono HB1.out.size)⟩
 have HG2 := zAa.mk (zAf HG1.out hb)
 have HC := zAa.mk hC
 have HN := zAa.mk hn
 obtain ⟨ys, hys⟩ : ∃ ys, colC o.k cs = ys := ⟨_, rfl⟩
 rw [hys] at HC HN HM
 clear hb hn hC hys HB1 HG1 HCOL
 go_upto_region 13 with fail
 go_loopg [54] n (fun gg s54 wr => ∃ k : Nat, k ≤ n ∧ n - k ≤ gg ∧ s54 = .int .i64 k ∧ zAa (Below w2.heap.size w2 wr) ∧ zAa (∀ j : Nat, ∀ y, j < k → ys[j]? = some y → (decide (y.f0 = o.k) && !y.f2) = false))
 case atStart => exact ⟨0, Nat.zero_le _, by omega, rfl, ⟨Below.refl _ _⟩, ⟨fun j y hj => absurd hj (Nat.not_lt_zero _)⟩⟩
 case round =>
  obtain ⟨k, hk, hg, rfl, HB, HJ⟩ := hrel
  have HG3 := zAa.mk (zAf HG2.out HB.out)
  have HBW : zAa (Below w.heap.size w wr) := ⟨HB2.out.trans (HB.out.mono HB2.out.size)⟩
  by_cases hlt : k < n
  ·have hltz : (k : Int) < (n : Int) := by omega
   obtain ⟨ad, x, V, cv, rfl, hxk, p0, p1, p2, p3, p4, p5, hv⟩ := (HC.out.keep HB.out).at k hlt
   have HXK := zAa.mk hxk
   obtain ⟨lx, hlx⟩ : ∃ lx, x.f1.length = lx := ⟨_, rfl⟩
   rw [hlx] at p4
   obtain ⟨kb, hkb⟩ : ∃ kb, keyB x.f0.f0 x.f0.f1 x.f0.f2 x.f0.f3 o.k.f0 o.k.f1 o.k.f2 o.k.f3 = kb := ⟨_, rfl⟩
   have HKB : zAa (decide (x.f0 = o.k) = kb) := ⟨by rw [keyB_dec, hkb]⟩
   obtain ⟨xg, hxg⟩ : ∃ xg, x.f2 = xg := ⟨_, rfl⟩
   have HXG := zAa.mk hxg
   rw [hxg] at p5
   have q1 := (zAc HG3.out 1).trans (rfl : _ = some (Value.string o.k.f0))
   have q2 := (zAc HG3.out 2).trans (rfl : _ = some (Value.string o.k.f1))
   have q3 := (zAc HG3.out 3).trans (rfl : _ = some (Value.string o.k.f2))
   have q4 := (zAc HG3.out 4).trans (rfl : _ = some (Value.int .u64 o.k.f3))
   have hlg := zAj HG3.out
   have HBX : zAa (Below w.heap.size w (wr.alloc (.cells #[.string x.f0.f0, .string x.f0.f1, .string x.f0.f2, .int .u64 x.f0.f3, .slice V lx cv, .bool xg] 49))) := ⟨zAb HBW.out _⟩
   have HBY : zAa (Below w2.heap.size w2 (wr.alloc (.cells #[.string x.f0.f0, .string x.f0.f1, .string x.f0.f2, .int .u64 x.f0.f3, .slice V lx cv, .bool xg] 49))) := ⟨zAb HB.out _⟩
   clear hxk hlx hxg hv
   have hcase : (kb = true ∧ xg = false) ∨ (kb && !xg) = false := by cases kb <;> cases xg <;> simp
   rcases hcase with ⟨rfl, rfl⟩ | hno
   ·have HN2 : zAa (zCg o cs = (putF cs ⟨o.k, [], true⟩, 0)) := ⟨by
     rw [HM.out, if_pos (List.any_eq_true.2 ⟨x, List.mem_of_getElem? HXK.out, by rw [HKB.out, HXG.out]; rfl⟩)]⟩
    go_wp2_with fail
    refine (HSET.out _ HBX.out).mono ?_
    rintro e w3 ⟨rfl, ht, hb⟩
    have HT := zAa.mk ht
    have HB3 : zAa (But p w w3) := ⟨(But.of_below HBX.out (Nat.le_of_lt HLP.out)).trans hb⟩
    clear ht hb HSET
    go_wp2_with fail
    go_ret
    exact ⟨by rw [HN2.out]; rfl, by rw [HN2.out]; exact HT.out, HB3.out⟩
   ·have HNO : zAa (∀ j : Nat, ∀ y, j < k + 1 → ys[j]? = some y → (decide (y.f0 = o.k) && !y.f2) = false) := ⟨fun j y hj hy => by
     rcases Nat.lt_or_ge j k with h9 | h9
     ·exact HJ.out j y h9 hy
     ·obtain rfl : j = k := by omega
      rw [HXK.out] at hy
      cases hy
      rw [HKB.out, HXG.out]
      exact hno⟩
    cases kb
    ·clear hno
     go_wp2_with fail
     go_roundg (n - (k + 1))
     case measure => omega
     case rel => exact ⟨k + 1, by omega, by omega, by go_num, HBY, HNO⟩
    ·cases xg
     ·cases hno
     ·clear hno
      go_wp2_with fail
      go_roundg (n - (k + 1))
      case measure => omega
      case rel => exact ⟨k + 1, by omega, by omega, by go_num, HBY, HNO⟩
  ·have hltz : ¬ (k : Int) < (n : Int) := by omega
   obtain rfl : k = n := by omega
   have HN2 : zAa (zCg o cs = (cs, 7)) := ⟨by
    rw [HM.out, if_neg]
    rw [Bool.not_eq_true, List.any_eq_false]
    intro y hy
    obtain ⟨j, hj⟩ := List.getElem?_of_mem hy
    rw [HJ.out j y (by rw [HN.out]; exact (List.getElem?_eq_some_iff.1 hj).1) hj]
    simp⟩
   go_wp2_with fail
   go_ret
   exact ⟨by rw [HN2.out]; rfl, by rw [HN2.out]; exact HT0.out.keep HBW.out, But.of_below HBW.out (Nat.le_of_lt HLP.out)⟩
set_option maxHeartbeats 8000000 in
set_option maxRecDepth 100000 in
theorem write_col (ok : Nat → Prop) (w : World) (p : Nat) (a b : ByteArray) (cs : List CellM) (h : TabAt ok w p a b cs) (hok : ∀ k, w.heap.size ≤ k → ok k) (hcs : OkL cs) (hl : cs.length ≤ 32) (o : OpM) (hk : o.kind = 3) (hrow : o.k.f0.size ≤ 32) (m : Nat) (A1 : Option Addr) (c1 : Nat) (A2 : Option Addr) (c2 : Nat) (A3 : Option Addr) (c3 : Nat) (hat : OpAt m w o A1 c1 A2 c2 A3 c3) :
  Calls Tryz.prog 66 #[.pointer (some ⟨p, 0, none⟩), opV o A1 c1 A2 c2 A3 c3] w fun e w' => WritePost ok p a b o cs w e w' := by
 have HM : zAa (zCg o cs = lessC (fun x => colB x.f0 o.k) cs) := ⟨by unfold zCg; rw [if_neg (by omega), if_neg (by omega), if_neg (by omega), if_pos hk]⟩
 have HB1 : zAa (Below w.heap.size w (w.alloc (.cells (opCs o A1 c1 A2 c2 A3 c3) 56))) := ⟨zAb (Below.refl _ _) _⟩
 have HG1 : zAa ((w.alloc (.cells (opCs o A1 c1 A2 c2 A3 c3) 56)).heap[w.heap.size]? = some (.cells (opCs o A1 c1 A2 c2 A3 c3) 56 (0, 0))) := ⟨heap_alloc_new _ _⟩
 have HCOL : zAa (∀ X, Below w.heap.size w X → Calls Tryz.prog 105 #[.pointer (some ⟨p, 0, none⟩), .agg #[.string o.k.f0, .string o.k.f1, .string o.k.f2, .int .u64 o.k.f3]] X fun e w' => ∃ A n c, e = .returned (.slice A n c) ∧ n = (colC o.k cs).length ∧ CAt (fun k => w.heap.size ≤ k) w' A n c (colC o.k cs) ∧ n ≤ 32 ∧ Below X.heap.size X w') := ⟨fun X hX => (column_any ok X p a b cs (h.keep hX) hcs (by omega) o.k hrow).mono fun e w' h => by
  obtain ⟨v, rfl, hr, hb⟩ := h
  obtain ⟨A, c, rfl⟩ := Kd.zAk hr
  exact ⟨A, _, c, rfl, rfl, R_CAt (Kd.zCj hr hX.size), Nat.le_trans (List.length_filter_le _ _) hl, hb⟩⟩
 have HDROP : zAa (∀ (X : World) (ds : List CellM), TabAt ok X p a b ds → OkL ds → ds.length ≤ 32 → w.heap.size ≤ X.heap.size → ∀ x V cv, x ∈ ds → BAt X ⟨V, x.f1.length, cv⟩ x.f1 → Calls Tryz.prog 111 #[.pointer (some ⟨p, 0, none⟩), .agg #[.string x.f0.f0, .string x.f0.f1, .string x.f0.f2, .int .u64 x.f0.f3, .slice V x.f1.length cv, .bool x.f2]] X fun e w' => e = .returned (.tuple #[]) ∧ TabAt ok w' p a b (delF ds x.f0) ∧ But p X w') := ⟨fun X ds ht hds hl hX x V cv hx hv => drop_any ok X p a b ds ht (fun k hk => hok k (Nat.le_trans hX hk)) hds (by omega) x (hds.ok x hx) ⟨x, hx, rfl⟩ V cv hv.row hv.c⟩
 have HT0 := zAa.mk h
 have HLP := zAa.mk h.lt
 have HCS := zAa.mk (And.intro hcs hl)
 unfold opCs at HB1 HG1
 unfold opV
 rw [hk] at HB1 HG1 ⊢
 clear h hok hcs hl hat hk hrow
 go_enter Tryz.func66, Tryz.ntmps66
 go_wp2_with fail
 refine (HCOL.out _ HB1.out).mono ?_
 rintro e w2 ⟨A, n, c, rfl, hn, hC, hn32, hb⟩
 have HB2 : zAa (Below w.heap.size w w2) := ⟨HB1.out.trans (hb.mono HB1.out.size)⟩
 have HC := zAa.mk hC
 have HN := zAa.mk hn
 have HYS : zAa (lessL (colC o.k cs) cs = cs.filter fun x => !(fun x => colB x.f0 o.k) x) := ⟨lessL_all HCS.out.1 _⟩
 have HMEM : zAa (∀ (k : Nat) (y : CellM), (colC o.k cs)[k]? = some y → y ∈ lessL ((colC o.k cs).take k) cs) := ⟨fun k y hy => lessL_mem HCS.out.1 hy⟩
 have HM2 : zAa (lessC (fun x => colB x.f0 o.k) cs = if (colC o.k cs).length = 0 then (cs, 7) else (cs.filter fun x => !(fun x => colB x.f0 o.k) x, 0)) := ⟨rfl⟩
 obtain ⟨ys, hys⟩ : ∃ ys, colC o.k cs = ys := ⟨_, rfl⟩
 rw [hys] at HC HN HYS HMEM HM2
 clear hb hn hC hys HB1 HG1 HCOL
 go_upto_region 23 with fail
 go_loopg [84] n (fun gg s84 wr => ∃ k : Nat, k ≤ n ∧ n - k ≤ gg ∧ s84 = .int .i64 k ∧ zAa (TabAt ok wr p a b (lessL (ys.take k) cs)) ∧ zAa (But p w2 wr))
 case atStart => exact ⟨0, Nat.zero_le _, by omega, rfl, ⟨by rw [List.take_zero, lessL_nil]; exact HT0.out.keep HB2.out⟩, ⟨But.refl _ _⟩⟩
 case round =>
  obtain ⟨k, hk, hg, rfl, HT, HB⟩ := hrel
  by_cases hlt : k < n
  ·have hltz : (k : Int) < (n : Int) := by omega
   obtain ⟨ad, x, V, cv, rfl, hxk, p0, p1, p2, p3, p4, p5, hv⟩ := (HC.out.step fun j hj hjl => HB.out.same j (by have := HLP.out; omega) hjl).at k hlt
   have HXK := zAa.mk hxk
   have HBX : zAa (Below wr.heap.size wr (wr.alloc (.cells #[.string x.f0.f0, .string x.f0.f1, .string x.f0.f2, .int .u64 x.f0.f3, .slice V x.f1.length cv, .bool x.f2] 49))) := ⟨zAb (Below.refl _ _) _⟩
   have HDR := zAa.mk (HDROP.out _ _ (HT.out.keep HBX.out) (HCS.out.1.filter _) (Nat.le_trans (List.length_filter_le _ _) HCS.out.2) (Nat.le_trans (Nat.le_trans HB2.out.size HB.out.size) HBX.out.size) x V cv (HMEM.out k x hxk) (hv.now.keep HBX.out))
   have HBW : zAa (But p w2 (wr.alloc (.cells #[.string x.f0.f0, .string x.f0.f1, .string x.f0.f2, .int .u64 x.f0.f3, .slice V x.f1.length cv, .bool x.f2] 49))) := ⟨HB.out.trans (But.of_below HBX.out (Nat.le_of_lt HT.out.lt))⟩
   obtain ⟨lx, hlx⟩ : ∃ lx, x.f1.length = lx := ⟨_, rfl⟩
   rw [hlx] at p4 HDR HBW
   clear hxk hlx hv
   go_wp2_with fail
   refine HDR.out.mono ?_
   rintro e w3 ⟨rfl, ht, hb⟩
   rw [lessL_step HXK.out] at ht
   have HT3 := zAa.mk ht
   have HB3 : zAa (But p w2 w3) := ⟨HBW.out.trans hb⟩
   clear ht hb HDR
   go_wp2_with fail
   go_roundg (n - (k + 1))
   case measure => omega
   case rel => exact ⟨k + 1, by omega, by omega, by go_num, HT3, HB3⟩
  ·have hltz : ¬ (k : Int) < (n : Int) := by omega
   obtain rfl : k = n := by omega
   have HE : zAa (ys.take k = ys) := ⟨List.take_of_length_le (by rw [HN.out]; exact Nat.le_refl _)⟩
   have HBW : zAa (But p w wr) := ⟨(But.of_below HB2.out (Nat.le_of_lt HLP.out)).trans HB.out⟩
   rcases Nat.eq_zero_or_pos k with h0 | h0
   ·subst h0
    have HN2 : zAa (zCg o cs = (cs, 7)) := ⟨by rw [HM.out, HM2.out, if_pos HN.out.symm]⟩
    go_wp2_with fail
    go_ret
    refine ⟨by rw [HN2.out]; rfl, ?_, HBW.out⟩
    have h9 := HT.out
    rw [List.take_zero, lessL_nil] at h9
    rw [HN2.out]
    exact h9
   ·have HN2 : zAa (zCg o cs = (cs.filter fun x => !(fun x => colB x.f0 o.k) x, 0)) := ⟨by rw [HM.out, HM2.out, if_neg (by rw [← HN.out]; omega)]⟩
    have z0 : ((k : Int) == 0) = false := by simp; omega
    go_wp2_with fail
    go_ret
    refine ⟨by rw [HN2.out]; rfl, ?_, HBW.out⟩
    have h9 := HT.out
    rw [HE.out, HYS.out] at h9
    rw [HN2.out]
    exact h9
set_option maxHeartbeats 8000000 in
set_option maxRecDepth 100000 in
theorem write_row (ok : Nat → Prop) (w : World) (p : Nat) (a b : ByteArray) (cs : List CellM) (h : TabAt ok w p a b cs) (hok : ∀ k, w.heap.size ≤ k → ok k) (hcs : OkL cs) (hl : cs.length ≤ 32) (o : OpM) (hk : o.kind = 4) (hrow : o.k.f0.size ≤ 32) (m : Nat) (A1 : Option Addr) (c1 : Nat) (A2 : Option Addr) (c2 : Nat) (A3 : Option Addr) (c3 : Nat) (hat : OpAt m w o A1 c1 A2 c2 A3 c3) :
  Calls Tryz.prog 66 #[.pointer (some ⟨p, 0, none⟩), opV o A1 c1 A2 c2 A3 c3] w fun e w' => WritePost ok p a b o cs w e w' := by
 have HM : zAa (zCg o cs = lessC (fun x => decide (x.f0.f0 = o.k.f0)) cs) := ⟨by unfold zCg; rw [if_neg (by omega), if_neg (by omega), if_neg (by omega), if_neg (by omega), if_pos hk]⟩
 have HB1 : zAa (Below w.heap.size w (w.alloc (.cells (opCs o A1 c1 A2 c2 A3 c3) 56))) := ⟨zAb (Below.refl _ _) _⟩
 have HG1 : zAa ((w.alloc (.cells (opCs o A1 c1 A2 c2 A3 c3) 56)).heap[w.heap.size]? = some (.cells (opCs o A1 c1 A2 c2 A3 c3) 56 (0, 0))) := ⟨heap_alloc_new _ _⟩
 have HCOL : zAa (∀ X, Below w.heap.size w X → Calls Tryz.prog 110 #[.pointer (some ⟨p, 0, none⟩), .agg #[.string o.k.f0, .string o.k.f1, .string o.k.f2, .int .u64 o.k.f3]] X fun e w' => ∃ A n c, e = .returned (.slice A n c) ∧ n = (rowC o.k.f0 cs).length ∧ CAt (fun k => w.heap.size ≤ k) w' A n c (rowC o.k.f0 cs) ∧ n ≤ 32 ∧ Below X.heap.size X w') := ⟨fun X hX => (row_any ok X p a b cs (h.keep hX) hcs (by omega) o.k hrow).mono fun e w' h => by
  obtain ⟨v, rfl, hr, hb⟩ := h
  obtain ⟨A, c, rfl⟩ := Kd.zAk hr
  exact ⟨A, _, c, rfl, rfl, R_CAt (Kd.zCj hr hX.size), Nat.le_trans (List.length_filter_le _ _) hl, hb⟩⟩
 have HDROP : zAa (∀ (X : World) (ds : List CellM), TabAt ok X p a b ds → OkL ds → ds.length ≤ 32 → w.heap.size ≤ X.heap.size → ∀ x V cv, x ∈ ds → BAt X ⟨V, x.f1.length, cv⟩ x.f1 → Calls Tryz.prog 111 #[.pointer (some ⟨p, 0, none⟩), .agg #[.string x.f0.f0, .string x.f0.f1, .string x.f0.f2, .int .u64 x.f0.f3, .slice V x.f1.length cv, .bool x.f2]] X fun e w' => e = .returned (.tuple #[]) ∧ TabAt ok w' p a b (delF ds x.f0) ∧ But p X w') := ⟨fun X ds ht hds hl hX x V cv hx hv => drop_any ok X p a b ds ht (fun k hk => hok k (Nat.le_trans hX hk)) hds (by omega) x (hds.ok x hx) ⟨x, hx, rfl⟩ V cv hv.row hv.c⟩
 have HT0 := zAa.mk h
 have HLP := zAa.mk h.lt
 have HCS := zAa.mk (And.intro hcs hl)
 unfold opCs at HB1 HG1
 unfold opV
 rw [hk] at HB1 HG1 ⊢
 clear h hok hcs hl hat hk hrow
 go_enter Tryz.func66, Tryz.ntmps66
 go_wp2_with fail
 refine (HCOL.out _ HB1.out).mono ?_
 rintro e w2 ⟨A, n, c, rfl, hn, hC, hn32, hb⟩
 have HB2 : zAa (Below w.heap.size w w2) := ⟨HB1.out.trans (hb.mono HB1.out.size)⟩
 have HC := zAa.mk hC
 have HN := zAa.mk hn
 have HYS : zAa (lessL (rowC o.k.f0 cs) cs = cs.filter fun x => !(fun x => decide (x.f0.f0 = o.k.f0)) x) := ⟨lessL_all HCS.out.1 _⟩
 have HMEM : zAa (∀ (k : Nat) (y : CellM), (rowC o.k.f0 cs)[k]? = some y → y ∈ lessL ((rowC o.k.f0 cs).take k) cs) := ⟨fun k y hy => lessL_mem HCS.out.1 hy⟩
 have HM2 : zAa (lessC (fun x => decide (x.f0.f0 = o.k.f0)) cs = if (rowC o.k.f0 cs).length = 0 then (cs, 7) else (cs.filter fun x => !(fun x => decide (x.f0.f0 = o.k.f0)) x, 0)) := ⟨rfl⟩
 obtain ⟨ys, hys⟩ : ∃ ys, rowC o.k.f0 cs = ys := ⟨_, rfl⟩
 rw [hys] at HC HN HYS HMEM HM2
 clear hb hn hC hys HB1 HG1 HCOL
 go_upto_region 23 with fail
 go_loopg [84] n (fun gg s84 wr => ∃ k : Nat, k ≤ n ∧ n - k ≤ gg ∧ s84 = .int .i64 k ∧ zAa (TabAt ok wr p a b (lessL (ys.take k) cs)) ∧ zAa (But p w2 wr))
 case atStart => exact ⟨0, Nat.zero_le _, by omega, rfl, ⟨by rw [List.take_zero, lessL_nil]; exact HT0.out.keep HB2.out⟩, ⟨But.refl _ _⟩⟩
 case round =>
  obtain ⟨k, hk, hg, rfl, HT, HB⟩ := hrel
  by_cases hlt : k < n
  ·have hltz : (k : Int) < (n : Int) := by omega
   obtain ⟨ad, x, V, cv, rfl, hxk, p0, p1, p2, p3, p4, p5, hv⟩ := (HC.out.step fun j hj hjl => HB.out.same j (by have := HLP.out; omega) hjl).at k hlt
   have HXK := zAa.mk hxk
   have HBX : zAa (Below wr.heap.size wr (wr.alloc (.cells #[.string x.f0.f0, .string x.f0.f1, .string x.f0.f2, .int .u64 x.f0.f3, .slice V x.f1.length cv, .bool x.f2] 49))) := ⟨zAb (Below.refl _ _) _⟩
   have HDR := zAa.mk (HDROP.out _ _ (HT.out.keep HBX.out) (HCS.out.1.filter _) (Nat.le_trans (List.length_filter_le _ _) HCS.out.2) (Nat.le_trans (Nat.le_trans HB2.out.size HB.out.size) HBX.out.size) x V cv (HMEM.out k x hxk) (hv.now.keep HBX.out))
   have HBW : zAa (But p w2 (wr.alloc (.cells #[.string x.f0.f0, .string x.f0.f1, .string x.f0.f2, .int .u64 x.f0.f3, .slice V x.f1.length cv, .bool x.f2] 49))) := ⟨HB.out.trans (But.of_below HBX.out (Nat.le_of_lt HT.out.lt))⟩
   obtain ⟨lx, hlx⟩ : ∃ lx, x.f1.length = lx := ⟨_, rfl⟩
   rw [hlx] at p4 HDR HBW
   clear hxk hlx hv
   go_wp2_with fail
   refine HDR.out.mono ?_
   rintro e w3 ⟨rfl, ht, hb⟩
   rw [lessL_step HXK.out] at ht
   have HT3 := zAa.mk ht
   have HB3 : zAa (But p w2 w3) := ⟨HBW.out.trans hb⟩
   clear ht hb HDR
   go_wp2_with fail
   go_roundg (n - (k + 1))
   case measure => omega
   case rel => exact ⟨k + 1, by omega, by omega, by go_num, HT3, HB3⟩
  ·have hltz : ¬ (k : Int) < (n : Int) := by omega
   obtain rfl : k = n := by omega
   have HE : zAa (ys.take k = ys) := ⟨List.take_of_length_le (by rw [HN.out]; exact Nat.le_refl _)⟩
   have HBW : zAa (But p w wr) := ⟨(But.of_below HB2.out (Nat.le_of_lt HLP.out)).trans HB.out⟩
   rcases Nat.eq_zero_or_pos k with h0 | h0
   ·subst h0
    have HN2 : zAa (zCg o cs = (cs, 7)) := ⟨by rw [HM.out, HM2.out, if_pos HN.out.symm]⟩
    go_wp2_with fail
    go_ret
    refine ⟨by rw [HN2.out]; rfl, ?_, HBW.out⟩
    have h9 := HT.out
    rw [List.take_zero, lessL_nil] at h9
    rw [HN2.out]
    exact h9
   ·have HN2 : zAa (zCg o cs = (cs.filter fun x => !(fun x => decide (x.f0.f0 = o.k.f0)) x, 0)) := ⟨by rw [HM.out, HM2.out, if_neg (by rw [← HN.out]; omega)]⟩
    have z0 : ((k : Int) == 0) = false := by simp; omega
    go_wp2_with fail
    go_ret
    refine ⟨by rw [HN2.out]; rfl, ?_, HBW.out⟩
    have h9 := HT.out
    rw [HE.out, HYS.out] at h9
    rw [HN2.out]
    exact h9
theorem write_any (ok : Nat → Prop) (w : World) (p : Nat) (a b : ByteArray) (cs : List CellM) (h : TabAt ok w p a b cs) (hok : ∀ k, w.heap.size ≤ k → ok k) (hcs : OkL cs) (hl : cs.length ≤ 32) (o : OpM) (ho : leafB o = true) (hk : 1 ≤ o.kind ∧ o.kind ≤ 5) (ht : TimeK o.k) (m : Nat) (A1 : Option Addr) (c1 : Nat) (A2 : Option Addr) (c2 : Nat) (A3 : Option Addr) (c3 : Nat) (hat : OpAt m w o A1 c1 A2 c2 A3 c3) :
  Calls Tryz.prog 66 #[.pointer (some ⟨p, 0, none⟩), opV o A1 c1 A2 c2 A3 c3] w fun e w' => WritePost ok p a b o cs w e w' := by
 have hlk := ho
 unfold leafB leafK at hlk
 simp only [Bool.and_eq_true] at hlk
 rcases (by omega : o.kind = 1 ∨ o.kind = 2 ∨ o.kind = 3 ∨ o.kind = 4 ∨ o.kind = 5) with e | e | e | e | e
 ·exact write_put ok w p a b cs h hok hcs hl o e (okC_leaf ho (.inl e) ht) m A1 c1 A2 c2 A3 c3 hat
 ·exact write_cell ok w p a b cs h hok hcs hl o e (okC_leafD ho e ht) m A1 c1 A2 c2 A3 c3 hat
 ·have h1 := hlk.1.1
  rw [if_pos (.inl e), Bool.and_eq_true] at h1
  have h2 := of_decide_eq_true h1.2
  exact write_col ok w p a b cs h hok hcs hl o e h2.2.2.1 m A1 c1 A2 c2 A3 c3 hat
 ·have h1 := hlk.1.1
  rw [if_neg (by omega), if_neg (by omega), if_pos e, Bool.and_eq_true] at h1
  have h2 := of_decide_eq_true h1.1
  exact write_row ok w p a b cs h hok hcs hl o e h2.2.2.2 m A1 c1 A2 c2 A3 c3 hat
 ·exact write_check ok w p a b cs h hok hcs hl o e (okC_leaf ho (.inr e) ht) m A1 c1 A2 c2 A3 c3 hat
end Go.Proofs.YtpckachmleonlaaGreatDoor
end
