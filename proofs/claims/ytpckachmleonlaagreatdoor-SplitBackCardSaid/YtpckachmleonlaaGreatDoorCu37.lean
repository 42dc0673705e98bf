/- Words and walks for Split and Tablet: texts of these sessions, and of the kit's print, cut down to what is used (G4 H4 D4 Card3 Card5). -/
import Derived.Test.YtpckachmleonlaaGreatDoorCu36
import Derived.ProofKit
import Derived.OpenShut
import Derived.ShutString
import Derived.SizedLaws
import Derived.Deep.Slices
import Derived.Deep.Fields
section
set_option linter.unusedVariables false
set_option linter.unusedSimpArgs false
namespace Go.Proofs.YtpckachmleonlaaGreatDoor
open Go.RowKit Go.Proofs.YtpckachmleonlaaGreatDoorW.PrintWords
theorem snocRec {α : Type} {P : List α → Prop} (h0 : P []) (h1 : ∀ xs x, P xs → P (xs ++ [x])) (xs : List α) : P xs := by
 rw [← List.reverse_reverse xs]
 induction xs.reverse with
 | nil => exact h0
 | cons x l ih => rw [List.reverse_cons]; exact h1 _ _ ih
theorem rows_le {cs : List CellM} (h : OkL cs) : (cs.map fun x => x.f0.f0).Pairwise fun x y => ltS y x = false := by
 rw [List.pairwise_map]
 refine h.so.imp fun {x y} hxy => ?_
 cases hl : ltS y.f0.f0 x.f0.f0 with
 | false => rfl
 | true =>
  have h1 := cmpK_row (a := y.f0) (b := x.f0) hl
  rw [cmpK_swap x.f0 y.f0] at h1
  omega
theorem compS_mem {x : ByteArray} (xs : List ByteArray) : x ∈ compS xs → x ∈ xs := by
 refine snocRec (P := fun xs => x ∈ compS xs → x ∈ xs) (fun h => h) (fun xs y ih => ?_) xs
 ·intro h
  rw [compS_snoc] at h
  unfold stepS at h
  split at h
  ·exact List.mem_append_left _ (ih h)
  ·rcases List.mem_append.1 h with h | h
   ·exact List.mem_append_left _ (ih h)
   ·exact List.mem_append_right _ h
theorem compS_head (xs : List ByteArray) : (compS xs).head? = xs.head? := by
 refine snocRec (P := fun xs => (compS xs).head? = xs.head?) rfl (fun xs y ih => ?_) xs
 ·rw [compS_snoc]
  unfold stepS
  split
  ·rename_i h1
   rw [ih]
   cases xs with
   | nil => cases h1
   | cons z zs => rfl
  ·cases xs with
   | nil => rfl
   | cons z zs =>
    cases hc : compS (z :: zs) with
    | nil => rw [hc] at ih; cases ih
    | cons u us => rw [hc] at ih; exact ih
theorem compS_lt (xs : List ByteArray) : xs.Pairwise (fun x y => ltS y x = false) → (compS xs).Pairwise fun x y => ltS x y = true := by
 refine snocRec (P := fun xs => xs.Pairwise (fun x y => ltS y x = false) → (compS xs).Pairwise fun x y => ltS x y = true) (fun _ => List.Pairwise.nil) (fun xs y ih => ?_) xs
 ·intro h
  rw [List.pairwise_append] at h
  obtain ⟨h1, _, h2⟩ := h
  have h3 := ih h1
  rw [compS_snoc]
  unfold stepS
  split
  ·exact h3
  ·rename_i hn
   rw [List.pairwise_append]
   refine ⟨h3, List.pairwise_singleton _ _, fun a ha b hb => ?_⟩
   obtain rfl : b = y := by simpa using hb
   have h4 : ∀ z, (compS xs).getLast? = some z → ltS z b = true := fun z hz => by
    have hz2 := hz
    rw [compS_last] at hz2
    have h5 := h2 z (List.mem_of_getLast? hz2) b (by simp)
    rcases ltS_total h5 with e | h6
    ·exact absurd (by rw [hz, e]) hn
    ·exact h6
   rcases List.eq_nil_or_concat (compS xs) with e | ⟨q, z, e⟩
   rotate_left
   rw [List.concat_eq_append] at e
   rotate_left
   ·rw [e] at ha
    cases ha
   ·rw [e] at ha h3 h4
    have h7 := h4 z (by simp)
    rcases List.mem_append.1 ha with ha | ha
    ·exact ltS_trans ((List.pairwise_append.1 h3).2.2 a ha z (by simp)) h7
    ·obtain rfl : a = z := by simpa using ha
     exact h7
theorem ltS_nil {r : ByteArray} (h : 1 ≤ r.size) : ltS ⟨#[]⟩ r = true := by
 unfold ltS
 obtain ⟨⟨l⟩⟩ := r
 cases l with
 | nil => exact absurd h (by decide)
 | cons a l => exact decide_eq_true (by simp [Cp.cmpL])
theorem mid_no {cs : List CellM} (h : midB cs = false) : midR cs = ⟨#[]⟩ ∧ (cs = [] ∨ ∃ x y, cs.head? = some x ∧ cs.getLast? = some y ∧ x.f0.f0 = y.f0.f0) := by
 unfold midB at h
 have h1 : (rowsOf cs).length < 2 := by have := of_decide_eq_false h; omega
 refine ⟨by unfold midR; rw [if_pos h1], ?_⟩
 cases cs with
 | nil => exact .inl rfl
 | cons x l =>
  refine .inr ⟨x, (x :: l).getLast (by simp), rfl, List.getLast?_eq_some_getLast (by simp), ?_⟩
  unfold rowsOf at h1
  have e1 := compS_head ((x :: l).map fun x => x.f0.f0)
  have e2 := compS_last ((x :: l).map fun x => x.f0.f0)
  rw [List.getLast?_map, List.getLast?_eq_some_getLast (by simp : x :: l ≠ [])] at e2
  simp only [Option.map_some] at e2
  obtain ⟨R, hR⟩ : ∃ R, compS ((x :: l).map fun x => x.f0.f0) = R := ⟨_, rfl⟩
  rw [hR] at h1 e1 e2
  have e3 : ((x :: l).map fun x => x.f0.f0).head? = some x.f0.f0 := rfl
  rw [e3] at e1
  match R, h1, e1, e2 with
  | [], _, e1, _ => cases e1
  | [r], _, e1, e2 =>
   have e4 := Option.some.inj e1
   have e5 := Option.some.inj e2
   rw [← e4, ← e5]
   rfl
  | _ :: _ :: _, h1, _, _ => exact absurd h1 (by simp)
theorem mid_yes {cs : List CellM} (h : OkL cs) (hm : midB cs = true) : splitK ⟨#[]⟩ ⟨#[]⟩ (midR cs) = 0 ∧ 0 < (loC (midR cs) cs).length ∧ ∃ x l, hiC (midR cs) cs = x :: l ∧ x.f0.f0 = midR cs := by
 unfold midB at hm
 have h1 : 2 ≤ (rowsOf cs).length := of_decide_eq_true hm
 have hr : midR cs = (rowsOf cs)[(rowsOf cs).length / 2]'(by omega) := by
  unfold midR
  rw [if_neg (by omega), List.getD_eq_getElem?_getD, List.getElem?_eq_getElem (by omega)]
  rfl
 have hlt := compS_lt _ (rows_le h)
 have h2 : ltS ((rowsOf cs)[0]'(by omega)) (midR cs) = true := by
  rw [hr]
  exact List.pairwise_iff_getElem.1 hlt 0 _ _ _ (by omega)
 have h3 : (rowsOf cs)[0]'(by omega) ∈ rowsOf cs := List.getElem_mem _
 have h4 : midR cs ∈ rowsOf cs := by rw [hr]; exact List.getElem_mem _
 obtain ⟨y, hy, ey⟩ := List.mem_map.1 (compS_mem _ h3)
 obtain ⟨x, hx, ex⟩ := List.mem_map.1 (compS_mem _ h4)
 have hk := (h.ok x hx).k
 unfold Cp.okB at hk
 have hk := of_decide_eq_true hk
 have hz : 1 ≤ (midR cs).size ∧ (midR cs).size ≤ 32 := by rw [← ex]; exact ⟨hk.1, hk.2.2.1⟩
 refine ⟨?_, ?_, ?_⟩
 ·unfold splitK
  rw [if_neg (by omega), if_neg (fun h => by
   rcases h with h | h
   ·rw [ltS_nil hz.1] at h; cases h
   ·exact h.1 rfl)]
 ·exact List.length_pos_of_mem (List.mem_filter.2 ⟨hy, by rw [ey]; exact h2⟩)
 ·have hxm : x ∈ hiC (midR cs) cs := List.mem_filter.2 ⟨hx, by rw [ex, ltS_self]; rfl⟩
  cases hh : hiC (midR cs) cs with
  | nil => rw [hh] at hxm; cases hxm
  | cons z l =>
   refine ⟨z, l, rfl, ?_⟩
   have hz1 : z ∈ hiC (midR cs) cs := by rw [hh]; simp
   have hz2 := (List.mem_filter.1 hz1).2
   have hz3 : ltS z.f0.f0 (midR cs) = false := by simpa using hz2
   rcases ltS_total hz3 with e | e
   ·exact e
   ·exfalso
    have hp := (rows_le h).sublist ((List.filter_sublist (p := fun x => !ltS x.f0.f0 (midR cs)) (l := cs)).map (fun x => x.f0.f0))
    have hp2 : ((z :: l).map fun x => x.f0.f0).Pairwise fun x y => ltS y x = false := by rw [← hh]; exact hp
    rw [hh] at hxm
    rcases List.mem_cons.1 hxm with e2 | e2
    ·subst e2
     rw [ex, ltS_self] at e
     cases e
    ·have h9 := (List.pairwise_cons.1 hp2).1 (midR cs) (List.mem_map.2 ⟨x, e2, ex⟩)
     rw [e] at h9
     cases h9
end Go.Proofs.YtpckachmleonlaaGreatDoor
end
section
set_option linter.unusedVariables false
set_option linter.unusedSimpArgs false
namespace Go.Proofs.YtpckachmleonlaaGreatDoor
open Go.RowKit Go.Proofs.YtpckachmleonlaaGreatDoorW.PrintWords
theorem row_at {w : World} {A : Option Addr} {n : Nat} {cs : List CellM} (h : kC.C w A n cs) (k : Nat) (x : CellM) (hx : cs[k]? = some x) : ∃ ad, A = some ad ∧ w.cell? (ad.add (k * 6)) = some (.string x.f0.f0) := by
 have hn := h.1
 obtain ⟨zs, e1, h1, h2⟩ := C_open h
 have hk : k < n := by have := (List.getElem?_eq_some_iff.1 hx).1; omega
 obtain ⟨ad, y, e2, e3, e4, _⟩ := at_kH h1 k hk
 rw [List.getElem?_map, Option.map_eq_some_iff] at e3
 obtain ⟨z, hz, rfl⟩ := e3
 have h3 := h2 z (List.mem_of_getElem? hz)
 rw [← e1, List.getElem?_map, hz] at hx
 obtain rfl := Option.some.inj hx
 exact ⟨ad, e2, by rw [e4, h3.k]⟩
set_option maxHeartbeats 8000000 in
set_option maxRecDepth 100000 in
theorem splitHalf_law (A : Option Addr) (c : Nat) (l : List CellM) (w : World) (hC : kC.C w A l.length l) (hc : l.length ≤ c) (hf : ∀ x ∈ l, Fit x.f0) (ht : ∀ x ∈ l, TimeOk x) :
  Calls Tryz.prog 5 #[.slice A l.length c] w fun e w' => e = .returned (.bool true) ∧ Below w.heap.size w w' := by
 have HT := zA.mk ht
 have HMADE := zA.mk (made_any (fun j => j < w.heap.size) ⟨#[]⟩ ⟨#[]⟩ l A c w (fun j h => h) (CAt.of hC rfl hc) hf ht)
 obtain ⟨n, hn⟩ : ∃ n, l.length = n := ⟨_, rfl⟩
 rw [hn] at HMADE ⊢
 clear hC hc hf ht hn
 go_enter Tryz.func5, Tryz.ntmps5
 go_wp2_with fail
 refine HMADE.out.mono ?_
 rintro e w1 ⟨pt, a', b', A', n', c', rfl, hm, hb1⟩
 obtain ⟨q, hq⟩ : ∃ q, madeB ⟨#[]⟩ ⟨#[]⟩ l = q := ⟨_, rfl⟩
 have HQ := zA.mk hq
 rw [hq] at hm ⊢
 have HM := zA.mk hm
 have HB1 := zA.mk hb1
 have HAL : zA (∀ X, Below w.heap.size w X → Calls Tryz.prog 16 #[] X fun e w' => e = .returned (.bool true) ∧ Below w.heap.size w w' ∧ Below X.heap.size X w') := ⟨fun X hX => (alive11 X).mono fun e w' h => ⟨h.1, hX.trans (h.2.mono hX.size), h.2⟩⟩
 clear hq hm hb1 HMADE
 have HB2 : zA (Below w.heap.size w (w1.alloc (.cells #[.string a', .string b', .slice A' n' c'] 25))) := ⟨zAa HB1.out _⟩
 have HBX : zA (Below w1.heap.size w1 (w1.alloc (.cells #[.string a', .string b', .slice A' n' c'] 25))) := ⟨zAa (Below.refl _ _) _⟩
 have HG2 : zA ((w1.alloc (.cells #[.string a', .string b', .slice A' n' c'] 25)).heap[w1.heap.size]? = some (.cells #[.string a', .string b', .slice A' n' c'] 25 (0, 0))) := ⟨heap_alloc_new _ _⟩
 cases q
 case false =>
  go_wp2_with fail
  refine (HAL.out _ HB2.out).mono ?_
  rintro e w3 ⟨rfl, hb, _⟩
  have HB3 := zA.mk hb
  clear hb
  go_wp2_with fail
  go_ret
  exact ⟨rfl, HB3.out⟩
 have HTL := zA.mk (made_tab HQ.out HT.out)
 obtain ⟨p, rfl, hp1, htab, ea, eb, hcat⟩ := HM.out rfl
 subst ea eb
 have HTAB := zA.mk (htab.keep HBX.out)
 have HCAT := zA.mk (hcat.keep HBX.out)
 have HLEN := zA.mk HCAT.out.len
 clear hp1 htab hcat HM HQ
 go_upto_region 4 with fail
 generalize w1.alloc (.cells #[.string ⟨#[]⟩, .string ⟨#[]⟩, .slice A' n' c'] 25) = w2 at HB2 HBX HG2 HTAB HCAT ⊢
 generalize w1.heap.size = g at HG2 ⊢
 obtain ⟨cs, hcs⟩ : ∃ cs, zDi l = cs := ⟨_, rfl⟩
 rw [hcs] at HTL HTAB HCAT HLEN
 clear HBX hcs
 have HMID := zA.mk (middle_any _ w2 p ⟨#[]⟩ ⟨#[]⟩ cs HTAB.out HTL.out.ok (by have := HTL.out.len; omega))
 go_wp2_with fail
 refine HMID.out.mono ?_
 rintro e w3 ⟨rfl, hb⟩
 have HB3 : zA (Below w.heap.size w w3) := ⟨HB2.out.trans (hb.mono HB2.out.size)⟩
 have HG3 := zA.mk (zAe HG2.out hb)
 have HT3 := zA.mk (HTAB.out.keep hb)
 have HC3 : zA (kC.C w3 A' n' cs) := ⟨Kd.zBa HCAT.out.now hb⟩
 have HCAP := zA.mk HCAT.out.cap
 clear hb HMID HG2 HTAB HCAT HB2
 obtain ⟨mb, hmb⟩ : ∃ x, midB cs = x := ⟨_, rfl⟩
 obtain ⟨s, hs⟩ : ∃ x, midR cs = x := ⟨_, rfl⟩
 rw [hmb, hs]
 have HMB := zA.mk (And.intro hmb hs)
 clear hmb hs
 have HCUT := zA.mk (split_tab _ w3 p ⟨#[]⟩ ⟨#[]⟩ cs HT3.out HTL.out s)
 cases mb
 case false =>
  obtain ⟨e1, e2⟩ := mid_no HMB.out.1
  rw [HMB.out.2] at e1
  subst e1
  have HE := zA.mk e2
  have hk : splitK ⟨#[]⟩ ⟨#[]⟩ ⟨#[]⟩ = 1 := by decide +kernel
  have HK := zA.mk hk
  clear e2 hk
  go_wp2_with fail
  refine HCUT.out.mono ?_
  rintro e w4 ⟨_, hno, hb⟩
  obtain rfl := hno (by rw [HK.out]; decide)
  rw [HK.out]
  have HB4 : zA (Below w.heap.size w w4) := ⟨HB3.out.trans (hb.mono HB3.out.size)⟩
  have HG4 := zA.mk (zAe HG3.out hb)
  have HC4 : zA (kC.C w4 A' n' cs) := ⟨Kd.zBa HC3.out hb⟩
  clear hno hb HCUT HG3 HC3 HT3 HB3
  have m2 := (zAb HG4.out 2).trans (rfl : _ = some (Value.slice A' n' c'))
  have hlg := zAi HG4.out
  have HCALL : zA (∀ W : Bl w4, Calls Tryz.prog 16 #[] W.1 fun e w'' => e = .returned (.bool true) ∧ ∃ j : Bl w4, w'' = j.1) := ⟨fun W => bl_call (i := W) (alive11 W.1)⟩
  cases cs with
  | nil =>
   have h0 : n' = 0 := HLEN.out
   subst h0
   clear HE
   go_upto_region 7 with fail
   have Q_m2 := fun i => zDc m2 i
   refine wp_region_bl (by kernel_rfl) (by kernel_rfl) ?_
   repeat (go_big_quiet_step (exact HCALL.out _))
   refine wpQuiet_nil ?_
   intro w5 hw5
   obtain ⟨i5, e5⟩ := hw5
   have hb5 := i5.2
   rw [← e5] at hb5
   have HB5 : zA (Below w.heap.size w w5) := ⟨HB4.out.trans (hb5.mono HB4.out.size)⟩
   clear e5 i5 hb5
   go_wp2_with fail
   go_ret
   exact ⟨rfl, HB5.out⟩
  | cons x0 xs =>
   have hrow : ∃ ad r, A' = some ad ∧ w4.cell? (ad.add (0 * 6)) = some (.string r) ∧ w4.cell? (ad.add ((n' - 1) * 6)) = some (.string r) := by
    rcases HE.out with h | ⟨x, y, hx, hy, hxy⟩
    ·cases h
    ·obtain ⟨ad, e1, e2⟩ := row_at HC4.out 0 x (by rw [← hx]; rfl)
     obtain ⟨ad2, e3, e4⟩ := row_at HC4.out (n' - 1) y (by rw [← hy, List.getLast?_eq_getElem?, HLEN.out])
     rw [e1] at e3
     obtain rfl := Option.some.inj e3
     exact ⟨ad, x.f0.f0, e1, e2, by rw [hxy]; exact e4⟩
   obtain ⟨ad, r, rfl, r0, r1⟩ := hrow
   have hn1 : 1 ≤ n' := by have := HLEN.out; simp at this; omega
   have hnl : n' ≤ 32 := by have := HLEN.out; have := HTL.out.len; omega
   have z0 : ((n' : Int) == 0) = false := by simp; omega
   have z1 : ((n' : Int) - 1).toNat = n' - 1 := by omega
   have z2 : (0 : Int) ≤ (n' : Int) - 1 := by omega
   have z3 : (n' : Int) - 1 < n' := by omega
   have z4 : (0 : Int) < (n' : Int) := by omega
   clear HE
   go_upto_region 7 with fail
   have Q_m2 := fun i => zDc m2 i
   have r0a : w4.cell? ad = some (.string r) := by rw [← r0, Nat.zero_mul, Addr.add_zero']
   have Q_r0 := fun i => zDc r0a i
   have Q_r1 := fun i => zDc r1 i
   refine wp_region_bl (by kernel_rfl) (by kernel_rfl) ?_
   repeat (go_big_quiet_step (exact HCALL.out _))
   refine wpQuiet_nil ?_
   intro w5 hw5
   obtain ⟨i5, e5⟩ := hw5
   have hb5 := i5.2
   rw [← e5] at hb5
   have HB5 : zA (Below w.heap.size w w5) := ⟨HB4.out.trans (hb5.mono HB4.out.size)⟩
   clear e5 i5 hb5
   go_wp2_with fail
   go_ret
   exact ⟨rfl, HB5.out⟩
 case true =>
  have hy := mid_yes HTL.out.ok HMB.out.1
  rw [HMB.out.2] at hy
  obtain ⟨hk, hlo, x0, xs, hhi, hx0⟩ := hy
  have HK := zA.mk hk
  have HLO := zA.mk hlo
  have HHI := zA.mk (And.intro hhi hx0)
  have HOK : zA (OkL (loC s cs) ∧ OkL (hiC s cs) ∧ (loC s cs).length ≤ 100 ∧ (hiC s cs).length ≤ 100) := ⟨HTL.out.ok.filter _, HTL.out.ok.filter _, Nat.le_trans (List.length_filter_le _ _) (by have := HTL.out.len; omega), Nat.le_trans (List.length_filter_le _ _) (by have := HTL.out.len; omega)⟩
  clear hk hlo hhi hx0
  go_wp2_with fail
  refine HCUT.out.mono ?_
  rintro e w4 ⟨hz, _, hb⟩
  obtain ⟨q, r, rfl, _, _, ht1, ht2⟩ := hz HK.out
  have HB4 : zA (Below w.heap.size w w4) := ⟨HB3.out.trans (hb.mono HB3.out.size)⟩
  have HT4 := zA.mk (HT3.out.keep hb)
  have HQ4 := zA.mk ht1
  have HR4 := zA.mk ht2
  clear hz hb ht1 ht2 HCUT HG3 HC3 HT3 HB3
  go_wp2_with fail
  refine (split_nil w4 s).mono ?_
  rintro e w5 ⟨rfl, hb⟩
  have HB5 : zA (Below w.heap.size w w5) := ⟨HB4.out.trans (hb.mono HB4.out.size)⟩
  have HT5 := zA.mk (HT4.out.keep hb)
  have HQ5 := zA.mk (HQ4.out.keep hb)
  have HR5 := zA.mk (HR4.out.keep hb)
  clear hb HT4 HQ4 HR4 HB4
  go_wp2_with fail
  refine (merge_nil _ w5 p _ _ cs HT5.out).mono ?_
  rintro e w6 ⟨rfl, hb⟩
  have HB6 : zA (Below w.heap.size w w6) := ⟨HB5.out.trans (hb.mono HB5.out.size)⟩
  have HQ6 := zA.mk (HQ5.out.keep hb)
  have HR6 := zA.mk (HR5.out.keep hb)
  clear hb HT5 HQ5 HR5 HB5
  go_wp2_with fail
  refine (zG _ w6 q _ _ _ HQ6.out HOK.out.1 HOK.out.2.2.1).mono ?_
  rintro e w7 ⟨v, rfl, hr, hb⟩
  obtain ⟨A1, k1, rfl, _, _⟩ := Kd.zEg hr
  have HB7 : zA (Below w.heap.size w w7) := ⟨HB6.out.trans (hb.mono HB6.out.size)⟩
  have HR7 := zA.mk (HR6.out.keep hb)
  have d1 : decide ((0 : Int) < ((loC s cs).length : Int)) = true := Cp.dt (by have := HLO.out; omega)
  have d1n : 0 < (loC s cs).length := HLO.out
  generalize (loC s cs).length = n1 at d1 d1n ⊢
  clear hr hb HQ6 HR6 HB6
  go_wp2_with fail
  refine (zG _ w7 r _ _ _ HR7.out HOK.out.2.1 HOK.out.2.2.2).mono ?_
  rintro e w8 ⟨v, rfl, hr, hb⟩
  obtain ⟨A2, k2, rfl, _, _⟩ := Kd.zEg hr
  have HB8 : zA (Below w.heap.size w w8) := ⟨HB7.out.trans (hb.mono HB7.out.size)⟩
  have HR8 := zA.mk (HR7.out.keep hb)
  have d2 : decide ((0 : Int) < ((hiC s cs).length : Int)) = true := Cp.dt (by rw [HHI.out.1, List.length_cons]; omega)
  have d2n : 0 < (hiC s cs).length := by rw [HHI.out.1, List.length_cons]; omega
  generalize hn2 : (hiC s cs).length = n2 at d2 d2n ⊢
  clear hr hb HR7 HB7 hn2
  go_wp2_with fail
  refine (zG _ w8 r _ _ _ HR8.out HOK.out.2.1 HOK.out.2.2.2).mono ?_
  rintro e w9 ⟨v, rfl, hr, hb⟩
  obtain ⟨A3, k3, rfl, _, hc3⟩ := Kd.zEg hr
  have HB9 : zA (Below w.heap.size w w9) := ⟨HB8.out.trans (hb.mono HB8.out.size)⟩
  obtain ⟨ad, rfl, r0⟩ := row_at hc3 0 x0 (by rw [HHI.out.1]; rfl)
  have r0a : w9.cell? ad = some (.string s) := by
   have h9 := r0
   rw [Nat.zero_mul, Addr.add_zero', HHI.out.2] at h9
   exact h9
  have hn3 : (0 : Int) < ((hiC s cs).length : Int) := by rw [HHI.out.1, List.length_cons]; omega
  generalize hn2 : (hiC s cs).length = n3 at hn3 ⊢
  clear hr hb hc3 HR8 HB8 hn2 r0
  go_wp2_with fail
  refine (HAL.out _ HB9.out).mono ?_
  rintro e w10 ⟨rfl, hb, _⟩
  have HB10 := zA.mk hb
  clear hb
  go_wp2_with fail
  go_ret
  exact ⟨rfl, HB10.out⟩
end Go.Proofs.YtpckachmleonlaaGreatDoor
end
section
set_option linter.unusedVariables false
set_option linter.unusedSimpArgs false
namespace Go.Proofs.YtpckachmleonlaaGreatDoor
open Go.RowKit Go.Proofs.YtpckachmleonlaaGreatDoorW.PrintWords Go.ChangeShapes Go.WideShapes Go.Deep
def RdW {α : Type} (P : Program) (t : TypeId) (d : Kd α) (ok : α → Prop) : Prop :=
  ∀ (H : Type) (enc : TypeId × Value → H) (w : World) (base : Nat) (spare : Nat → Bool) (held : Bool) (fuel : Nat) (cs : List Value) (x : DataW H × List MemPlace),
    DataW.trod enc P w base spare held fuel t cs = some x → (∀ n ∈ x.1.weights P t, n ≤ reachBytes) → ∃ a, d.K w a cs ∧ ok a
theorem mem_each {H : Type} {P : Program} : ∀ {ts : List TypeId} {ds : List (DataW H)} {i : Nat} {t : TypeId} {d : DataW H} {n : Nat}, ts[i]? = some t → ds[i]? = some d → n ∈ d.weights P t → n ∈ DataW.weightsEach P ts ds
  | [], _, _, _, _, _, h, _, _ => by simp at h
  | _ :: _, [], _, _, _, _, _, h, _ => by simp at h
  | t :: ts, d :: ds, 0, _, _, _, h1, h2, h3 => by
    simp at h1 h2
    subst h1 h2
    rw [DataW.weightsEach]
    exact List.mem_append_left _ h3
  | t :: ts, d :: ds, i + 1, _, _, _, h1, h2, h3 => by
    rw [DataW.weightsEach]
    exact List.mem_append_right _ (mem_each (by simpa using h1) (by simpa using h2) h3)
theorem mem_all {H : Type} {P : Program} {e : TypeId} : ∀ {ds : List (DataW H)} {d : DataW H} {n : Nat}, d ∈ ds → n ∈ d.weights P e → n ∈ DataW.weightsAll P e ds
  | [], _, _, h, _ => by cases h
  | a :: ds, d, n, h, hn => by
    rw [DataW.weightsAll]
    rcases List.mem_cons.1 h with rfl | h
    · exact List.mem_append_left _ hn
    · exact List.mem_append_right _ (mem_all h hn)
section
variable {P : Program} {t e : TypeId}
theorem RdW.string (h : P.underlying t = some .string) : RdW P t Kd.string (fun s => s.size ≤ reachBytes) := by
  intro H enc w base spare held fuel cs x hx hw
  obtain ⟨s, rfl, rfl, hs⟩ := DataW.trod_string h hx
  refine ⟨s, rfl, ?_⟩
  have := hw s.data.toList.length (by rw [DataW.weights]; simp)
  simpa using this
theorem RdW.int {k : IntKind} (h : P.underlying t = some (.int k)) : RdW P t (Kd.int k) (fun n => (Lit.int k n).wf = true) := by
  intro H enc w base spare held fuel cs x hx _
  obtain ⟨n, rfl, _, hn⟩ := DataW.trod_int h hx
  exact ⟨n, rfl, hn⟩
theorem RdW.bool (h : P.underlying t = some .bool) : RdW P t Kd.bool (fun _ => True) := by
  intro H enc w base spare held fuel cs x hx _
  obtain ⟨b, rfl, _⟩ := DataW.trod_bool h hx
  exact ⟨b, rfl, trivial⟩
theorem rdw_field {H : Type} {enc : TypeId × Value → H} {w : World} {base : Nat} {spare : Nat → Bool} {held : Bool} {fuel : Nat} {cs : List Value} {x : DataW H × List MemPlace} {fs : Array Field}
    (ht : P.underlying t = some (.struct fs)) (h : DataW.trod enc P w base spare held fuel t cs = some x) (hw : ∀ n ∈ x.1.weights P t, n ≤ reachBytes) :
    cs.length = P.cellsOf t ∧ ∀ (i : Nat) (f : Field), fs[i]? = some f → ∀ {α : Type} {d : Kd α} {ok : α → Prop}, RdW P f.type d ok → ∃ a, d.K w a ((cs.drop f.offset).take (P.cellsOf f.type)) ∧ ok a := by
  obtain ⟨xs, n, _, rfl, hl, hxs, hf⟩ := DataW.trod_struct ht h
  refine ⟨hl, fun i f hi α d ok hr => ?_⟩
  have h1 := hf i f hi
  have hlt : i < xs.length := by rw [hxs]; exact (Array.getElem?_eq_some_iff.1 hi).1
  rw [List.getElem?_eq_getElem hlt] at h1
  refine hr H enc w base spare held n _ _ h1 (fun m hm => hw m ?_)
  rw [DataW.weights]
  simp only [ht]
  refine mem_each (i := i) (t := f.type) (d := xs[i].1) ?_ ?_ hm
  · rw [List.getElem?_map, Array.getElem?_toList, hi]
    rfl
  · rw [List.getElem?_map, List.getElem?_eq_getElem hlt]
    rfl
theorem RdW.slice {α : Type} {d : Kd α} {ok : α → Prop} (ht : P.underlying t = some (.slice e)) (hC : P.cellsOf e = d.sz) (hr : RdW P e d ok) : RdW P t (Kd.slice e d) (fun l => ∀ a ∈ l, ok a) := by
  intro H enc w base spare held fuel cs x hx hw
  rcases open_slice ht hx with ⟨rfl, _⟩ | ⟨a, len, cap, m, n, D, Pl, rfl, _, hl, hcap, hm, hxe, hi⟩
  · exact ⟨[], ⟨none, 0, rfl, Nat.le_refl _, rfl, by simp, fun h => absurd h (by simp)⟩, fun a ha => absurd ha (by simp)⟩
  · subst hxe
    have hlm : len ≤ m := by rw [hm]; split <;> omega
    have key : ∀ i, i < len → ∃ v, (∃ c, c.length = d.sz ∧ d.K w v c ∧ ∀ j u, c[j]? = some u → w.cell? (a.add (i * d.sz + j)) = some u) ∧ ok v := by
      intro i hlt
      obtain ⟨cs', hc, ht'⟩ := hi i (by omega)
      obtain ⟨v, hk, ho⟩ := hr H enc w base spare held n cs' _ ht' (fun q hq => hw q (by
        rw [DataW.weights]
        simp only [ht]
        refine List.mem_cons_of_mem _ (List.mem_append_left _ (mem_all (d := D i) ?_ hq))
        exact List.mem_map.2 ⟨i, List.mem_range.2 hlt, rfl⟩))
      obtain ⟨_, hcl, hat⟩ := World.cells?_some hc
      rw [hC] at hcl hat
      refine ⟨v, ⟨cs', hcl, hk, fun j u hu => ?_⟩, ho⟩
      have hj : j < d.sz := by rw [← hcl]; exact (List.getElem?_eq_some_iff.1 hu).1
      rw [← Go.Deep.add_add, hat j hj, hu]
    have hch := fun i : Fin len => Classical.choose_spec (key i.1 i.2)
    refine ⟨List.ofFn fun i : Fin len => Classical.choose (key i.1 i.2), ⟨some a, cap, by rw [List.length_ofFn], by rw [List.length_ofFn]; exact hl, by simp, by rw [List.length_ofFn]; unfold maxLen at hcap; omega, fun _ => ⟨a, rfl, fun j p hp => ?_⟩⟩, ?_⟩
    · rw [List.getElem?_ofFn] at hp
      split at hp
      · rename_i hj
        injection hp with hp
        rw [← hp]
        exact (hch ⟨j, hj⟩).1
      · cases hp
    · intro b hb
      rw [List.mem_ofFn] at hb
      obtain ⟨i, rfl⟩ := hb
      exact (hch i).2
end
def KeyOk (k : KeyM) : Prop := Fit k ∧ 0 ≤ k.f3 ∧ k.f3 < 18446744073709551616
theorem rd_key {P : Program} {t : TypeId} {n0 n1 n2 n3 : Field} (ht : P.underlying t = some (.struct #[n0, n1, n2, n3])) (hc : P.cellsOf t = 4) (h0 : P.underlying n0.type = some .string) (h1 : P.underlying n1.type = some .string) (h2 : P.underlying n2.type = some .string) (h3 : P.underlying n3.type = some (.int .u64))
    (o0 : n0.offset = 0) (o1 : n1.offset = 1) (o2 : n2.offset = 2) (o3 : n3.offset = 3) (c0 : P.cellsOf n0.type = 1) (c1 : P.cellsOf n1.type = 1) (c2 : P.cellsOf n2.type = 1) (c3 : P.cellsOf n3.type = 1) : RdW P t PSplitCuts.k46 KeyOk := by
  intro H enc w base spare held fuel cs x hx hw
  obtain ⟨hl, hf⟩ := rdw_field ht hx hw
  rw [hc] at hl
  match cs, hl with
  | [a, b, c, d], _ =>
    obtain ⟨x0, k0, y0⟩ := hf 0 n0 rfl (RdW.string h0)
    obtain ⟨x1, k1, y1⟩ := hf 1 n1 rfl (RdW.string h1)
    obtain ⟨x2, k2, y2⟩ := hf 2 n2 rfl (RdW.string h2)
    obtain ⟨x3, k3, y3⟩ := hf 3 n3 rfl (RdW.int h3)
    rw [o0, c0] at k0
    rw [o1, c1] at k1
    rw [o2, c2] at k2
    rw [o3, c3] at k3
    refine ⟨⟨x0, x1, x2, x3⟩, ⟨[a], [b, c, d], rfl, k0, [b], [c, d], rfl, k1, [c], [d], rfl, k2, k3⟩, ⟨?_, ?_, ?_⟩, Cp.u64_wf y3⟩
    · exact Nat.le_trans y0 (by unfold reachBytes; omega)
    · exact Nat.le_trans y1 (by unfold reachBytes; omega)
    · exact Nat.le_trans y2 (by unfold reachBytes; omega)
theorem rd_cell {P : Program} {t : TypeId} {n0 n1 n2 : Field} (ht : P.underlying t = some (.struct #[n0, n1, n2])) (hc : P.cellsOf t = 6) (h0 : RdW P n0.type PSplitCuts.k46 KeyOk) (h1 : RdW P n1.type (Kd.slice 5 kB) (fun _ => True)) (h2 : P.underlying n2.type = some .bool)
    (o0 : n0.offset = 0) (o1 : n1.offset = 4) (o2 : n2.offset = 5) (c0 : P.cellsOf n0.type = 4) (c1 : P.cellsOf n1.type = 1) (c2 : P.cellsOf n2.type = 1) : RdW P t kC (fun x => KeyOk x.f0) := by
  intro H enc w base spare held fuel cs x hx hw
  obtain ⟨hl, hf⟩ := rdw_field ht hx hw
  rw [hc] at hl
  match cs, hl with
  | [a, b, c, d, e, f], _ =>
    obtain ⟨x0, k0, y0⟩ := hf 0 n0 rfl h0
    obtain ⟨x1, k1, y1⟩ := hf 1 n1 rfl h1
    obtain ⟨x2, k2, y2⟩ := hf 2 n2 rfl (RdW.bool h2)
    rw [o0, c0] at k0
    rw [o1, c1] at k1
    rw [o2, c2] at k2
    exact ⟨⟨x0, x1, x2⟩, ⟨[a, b, c, d], [e, f], rfl, k0, [e], [f], rfl, k1, k2⟩, y0⟩
theorem RdW.weaken {α : Type} {P : Program} {t : TypeId} {d : Kd α} {ok ok' : α → Prop} (h : RdW P t d ok) (hk : ∀ a, ok a → ok' a) : RdW P t d ok' := fun H enc w base spare held fuel cs x hx hw => by
  obtain ⟨a, h1, h2⟩ := h H enc w base spare held fuel cs x hx hw
  exact ⟨a, h1, hk a h2⟩
theorem rd_cells : RdW Tryz.prog 22 (Kd.slice 49 kC) (fun l => ∀ x ∈ l, KeyOk x.f0) :=
  RdW.slice Tryz.underlying22 (by kernel_rfl) (rd_cell Tryz.underlying49 (by kernel_rfl) (rd_key Tryz.underlying46 (by kernel_rfl) Tryz.underlying9 Tryz.underlying9 Tryz.underlying9 Tryz.underlying44 rfl rfl rfl rfl (by kernel_rfl) (by kernel_rfl) (by kernel_rfl) (by kernel_rfl))
    ((RdW.slice Tryz.underlying47 (by kernel_rfl) (RdW.int Tryz.underlying5)).weaken (fun _ _ => trivial)) Tryz.underlying4 rfl rfl rfl (by kernel_rfl) (by kernel_rfl) (by kernel_rfl))
end Go.Proofs.YtpckachmleonlaaGreatDoor
end
section
set_option linter.unusedVariables false
namespace Go.Proofs.YtpckachmleonlaaGreatDoor
open Go.RowKit Go.Proofs.YtpckachmleonlaaGreatDoorW.PrintWords
theorem each_le {H : Type} {P : Program} {ts : List TypeId} {ds : List (DataW H)} (h : (DataW.weightsEach P ts ds).all (· ≤ reachBytes) = true) (i : Nat) (t : TypeId) (d : DataW H) (ht : ts[i]? = some t) (hd : ds[i]? = some d) : ∀ n ∈ d.weights P t, n ≤ reachBytes := fun n hn => by
  have h9 := List.all_eq_true.1 h n (mem_each ht hd hn)
  simpa using h9
end Go.Proofs.YtpckachmleonlaaGreatDoor
end
section
set_option linter.unusedVariables false
namespace Go.Proofs.YtpckachmleonlaaGreatDoor
open Go.RowKit Go.Proofs.YtpckachmleonlaaGreatDoorW.PrintWords
theorem splitHalf_card (A : Option Addr) (c : Nat) (l : List CellM) (W : World) (hr : kC.C W A l.length l) (hc : l.length ≤ c) (ok : ∀ x ∈ l, KeyOk x.f0) :
    Calls Tryz.prog 5 #[.slice A l.length c] W fun e W' => e = .returned (.bool true) ∧ Below W.heap.size W W' :=
  splitHalf_law A c l W hr hc (fun x hx => (ok x hx).1) (fun x hx => (ok x hx).2)
end Go.Proofs.YtpckachmleonlaaGreatDoor
end
