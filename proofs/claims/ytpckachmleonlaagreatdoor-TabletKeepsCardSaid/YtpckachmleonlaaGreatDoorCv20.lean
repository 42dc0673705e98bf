/- Words and walks for Split and Tablet: texts of these sessions, and of the kit's print, cut down to what is used (M2 N2 O2). -/
import Derived.Test.YtpckachmleonlaaGreatDoorCv19
section
set_option linter.unusedVariables false
set_option linter.unusedSimpArgs false
namespace Go.Proofs.YtpckachmleonlaaGreatDoor
open Go.RowKit Go.Proofs.YtpckachmleonlaaGreatDoorW.PrintWords
def mes (w : World) (v : Value) : Nat :=
 match v with
 | .pointer (some ad) => match w.cell? ⟨ad.block, 5, none⟩ with
  | some (.int _ n) => n.toNat + 1
  | _ => 0
 | _ => 0
theorem mes_some {ok : Nat → Prop} {w : World} {g n m : Nat} {js : List Jt} {ks : List (Option Nat)} {h : List Int} (hN : zEa ok w g n js ks h m) : mes w (.pointer (some ⟨g, 0, none⟩)) = m + 1 := by
 obtain ⟨Ak, ck, Av, cv, Ac, cc, As, cs, h1, -⟩ := hN.ex
 have hc : w.cell? ⟨g, 5, none⟩ = some (.int .i64 m) := (zAc h1 5).trans rfl
 simp [mes, hc]
theorem mes_part {ok : Nat → Prop} {w : World} {o : Option Nat} {l : List It} (hp : PartAt ok w o l) : mes w (ptrV o) ≤ l.length + 1 := by
 rcases hp.inv with ⟨rfl, rfl⟩ | ⟨g, n, js, zs, rfl, rfl, hN, -⟩
 ·exact Nat.zero_le _
 ·exact Nat.le_of_eq (mes_some hN)
def Has (l : List It) (key : List Int) : Bool := l.any fun x => x.1 == key
theorem has_iff {l : List It} {key : List Int} : Has l key = true ↔ ∃ x ∈ l, x.1 = key := by simp [Has]
structure StepD (ok : Nat → Prop) (g : Nat) (l : List It) (A : Option Addr) (c : Nat) (key : List Int) (w : World) (i : Nat) (b : Bool) : Prop where
 find : Calls Tryz.prog 159 #[.pointer (some ⟨g, 0, none⟩), .slice A key.length c] w fun e w' => e = .returned (.tuple #[.int .i64 i, .bool b]) ∧ w' = w
 lt : g < w.heap.size
 yes : b = true → ∃ adv cv m ad2 A2 c2 val, w.cell? ⟨g, 2, none⟩ = some (.slice (some adv) m cv) ∧ i < m ∧ adv.add i = ad2 ∧ w.cell? ad2 = some (.slice A2 val c2) ∧ (∃ vl : List Int, vl.length = val ∧ val ≤ c2 ∧ val ≤ 1100 ∧ kB.C w A2 val vl) ∧ Has l key = true
 no : b = false → ∃ adc cc m ad2 o l', w.cell? ⟨g, 3, none⟩ = some (.slice (some adc) m cc) ∧ i < m ∧ adc.add i = ad2 ∧ w.cell? ad2 = some (ptrV o) ∧ PartAt ok w o l' ∧ ItOk l' ∧ Sorted l' ∧ Has l' key = Has l key ∧ mes w (ptrV o) < mes w (.pointer (some ⟨g, 0, none⟩))
theorem step_d {ok : Nat → Prop} {g n : Nat} {js : List Jt} {zs : List Kid} {A : Option Addr} {c : Nat} {key : List Int} {w : World} (hNI : zEa ok w g n js (zs.map (·.1)) (hashT (partL js zs)) (partL js zs).length) (hL : LvOk n (zs.map (·.2)) (js.map Jt.it)) (hJ : js ≠ []) (hz : ∀ z ∈ zs, PartAt ok w z.1 z.2) (hi : ItOk (partL js zs)) (hs : Sorted (partL js zs)) (hk : kB.C w A key.length key) (hkb : IsB key) : ∃ i b, StepD ok g (partL js zs) A c key w i b := by
 have hjk : Sorted (js.map Jt.it) := inter_keys (l := []) hL.len hs
 have hjm : ∀ j ∈ js, j.it ∈ partL js zs := fun j hj => (zDa hL _).2 (.inl (List.mem_map_of_mem hj))
 have hj100 : js.length ≤ 100 := by have := zDh hL; have := hi.n; omega
 have hzl : zs.length = js.length + 1 := by have := hL.len; simpa using this
 obtain ⟨adk, ck, adv, cv, adc, cc, As, cs, h1, h2, h3, h4, h5, h6, h7, h8⟩ := hNI.data hJ (by simpa using hzl)
 obtain ⟨i, b, hF, hC⟩ := find_at ok g n js _ _ _ A c key w hNI hjk (by omega) hk (fun j hj => (hi.k _ (hjm j hj)).2.2) hkb
 refine ⟨i, b, hC, zAj h1, fun hb => ?_, fun hb => ?_⟩
 ·cases hF with
  | not_ _ _ _ => cases hb
  | @there P Q q he hq hPb hQa =>
   obtain ⟨ad, A0, c0, hA, hbl, k1, k2, k3⟩ := rowAt h3.now.deep P.length (by rw [List.length_map, List.length_map, he]; simp)
   injection hA with hA
   subst hA
   have e1 : rd_L ((js.map (·.2)).map (·.2)) P.length = q.2.2 := by rw [he]; simp [rd_L]
   rw [e1] at k1 k2 k3
   have hqm : q ∈ js := by rw [he]; simp
   exact ⟨adv, cv, js.length, _, A0, c0, q.2.2.length, (zAc h1 2).trans rfl, by rw [he]; simp, rfl, k1, ⟨q.2.2, rfl, k2, (hi.k _ (hjm q hqm)).2.1, k3⟩, has_iff.2 ⟨q.it, hjm q hqm, hq⟩⟩
 ·cases hF with
  | there _ _ _ _ => cases hb
  | @not_ P Q he hPb hQa =>
   subst he
   obtain ⟨A', z, C, rfl, hA⟩ := kids_at (zs := zs) (i := P.length) (by rw [hzl]; simp; omega)
   have hzc : (((A' ++ z :: C).map (·.1)).getD P.length none) = z.1 := by rw [List.map_append, List.map_cons, List.getD_eq_getElem?_getD, List.getElem?_append_right (by rw [List.length_map, hA]; exact Nat.le_refl _), List.length_map, hA, Nat.sub_self]; rfl
   have hcz := cell_of_C h4.now.row (by rw [List.length_map, List.length_append, List.length_cons, hA]; omega) hzc
   have hzlen : z.2.length < (partL (P ++ Q) (A' ++ z :: C)).length := zGe hL hJ z (by simp)
   refine ⟨adc, cc, (P ++ Q).length + 1, _, z.1, z.2, (zAc h1 3).trans rfl, by rw [List.length_append]; omega, rfl, hcz, hz z (by simp), hi.sub (by omega) (fun x hx => (zDa hL x).2 (.inr ⟨z, by simp, hx⟩)), kid_sorted hL hs z (by simp), ?_, by rw [mes_some hNI]; have := mes_part (hz z (by simp)); omega⟩
   rw [Bool.eq_iff_iff, has_iff, has_iff]
   constructor
   ·rintro ⟨x, hx, hxk⟩
    exact ⟨x, (zDa hL x).2 (.inr ⟨z, by simp, hx⟩), hxk⟩
   ·rintro ⟨x, hx, hxk⟩
    exact ⟨x, in_kid hL hA hs hPb hQa hx hxk, hxk⟩
structure GetAt (ok : Nat → Prop) (w : World) (o : Option Nat) (l l0 : List It) (key : List Int) : Prop where
 p : PartAt ok w o l
 i : ItOk l
 s : Sorted l
 h : Has l key = Has l0 key
set_option maxHeartbeats 4000000 in
set_option maxRecDepth 100000 in
theorem get_any (ok : Nat → Prop) (t : Option Nat) (l0 : List It) (A : Option Addr) (c : Nat) (key : List Int) (w : World) (h : zDk ok w t l0) (hi : ItOk l0) (hs : Sorted l0) (hk : kB.C w A key.length key) (hkb : IsB key) :
  Calls Tryz.prog 153 #[ptrV t, .slice A key.length c] w fun e w' => ∃ v, e = .returned (.tuple #[v, .bool (Has l0 key)]) ∧ Below w.heap.size w w' := by
 obtain ⟨o, hp, hr⟩ := root_any ok t l0 w h
 have HR := zAa.mk hr
 have HG : zAa (GetAt ok w o l0 l0 key) := ⟨⟨hp, hi, hs, rfl⟩⟩
 have HK := zAa.mk hk
 have HKB := zAa.mk hkb
 obtain ⟨pt, hpt⟩ := zBc t
 obtain ⟨po, hpo⟩ := zBc o
 have HPO := zAa.mk hpo
 rw [hpt, hpo] at HR
 rw [hpt]
 obtain ⟨kl, hkl⟩ : ∃ kl, key.length = kl := ⟨_, rfl⟩
 have HKL := zAa.mk hkl
 rw [hkl]
 clear hp hr h hpt hpo hi hs hk hkb hkl
 go_enter Tryz.func153, Tryz.ntmps153
 go_wp2_with fail
 refine wp_scope_jumps 0 (fun a' w' => w' = w ∧ ∃ (po : Option Addr) (u7 u8 u9 u10 u11 u12 u13 u14 u15 u16 u17 u18 u19 u20 u21 u22 u23 u24 u25 u26 u27 u28 u29 u30 u31 u32 u33 u34 : Value), a' = { tmps := #[.pointer pt, .slice A kl c, undef, undef, .slice none 0 0, .bool false, .pointer po, u7, u8, u9, u10, u11, u12, u13, u14, u15, u16, u17, u18, u19, u20, u21, u22, u23, u24, u25, u26, u27, u28, u29, u30, u31, u32, u33, u34], defers := [] } ∧ ∃ (o : Option Nat) (l : List It), ptrV o = .pointer po ∧ zAa (GetAt ok w o l l0 key)) (fun a' w' => mes w' (a'.tmps.getD 6 undef)) rfl ?_ ?_
 ·go_wp2_with (go_at_call 70; refine HR.out.mono ?_; rintro e0 w0 ⟨rfl, hw⟩; have hw2 := hw.symm; subst hw2; clear hw)
  go_step3
  rcases HG.out.p.inv with ⟨hn1, hn2⟩ | ⟨g, n, js, zs, hn1, hn2, hNI, hL, hJ, hz⟩
  ·have HE : zAa (Has l0 key = false) := ⟨by rw [← HG.out.h, hn2]; rfl⟩
   subst hn1
   obtain rfl : po = none := by injection HPO.out with h9; exact h9.symm
   clear hn2
   go_wp2_with fail
   (try simp only [Exit.jump])
   go_ret2
   exact ⟨_, by rw [HE.out]; rfl, Below.refl _ _⟩
  ·obtain ⟨i, b, hSD⟩ := step_d (A := A) (c := c) (key := key) hNI hL hJ hz (by rw [← hn2]; exact HG.out.i) (by rw [← hn2]; exact HG.out.s) HK.out HKB.out
   rw [← hn2] at hSD
   subst hn1
   obtain rfl : po = some ⟨g, 0, none⟩ := by injection HPO.out with h9; exact h9.symm
   have HFD := zAa.mk hSD.find
   rw [HKL.out] at HFD
   have hgl := hSD.lt
   have HN := zAa.mk hNI
   have HSD := zAa.mk hSD
   clear hNI hL hJ hz hn2 hSD
   cases b with
   | true =>
    obtain ⟨adv, cv, m, ad2, A2, c2, val, d2, him, had, d3, hvl, hh⟩ := HSD.out.yes rfl
    obtain ⟨vl, hvl1, hvl2, hvl3, hvl4⟩ := hvl
    have HH : zAa (Has l0 key = true) := ⟨by rw [← HG.out.h]; exact hh⟩
    have HCB := zAa.mk (cloneB_any A2 c2 vl w (by rw [hvl1]; exact hvl4) (by rw [hvl1]; exact hvl2) (by rw [hvl1]; omega))
    rw [hvl1] at HCB
    have hI : (i : Int) < (m : Int) := by omega
    clear hh hvl1 hvl2 hvl3 hvl4
    subst had
    go_wp2_with (go_at_call 159; refine HFD.out.mono ?_; rintro e1 w1 ⟨rfl, hw⟩; have hw2 := hw.symm; subst hw2; clear hw)
    go_wp2_with fail
    refine HCB.out.mono ?_
    rintro e2 w2 ⟨v2, rfl, hr, hb⟩
    have HB2 := zAa.mk hb
    clear hr hb
    go_wp2_with fail
    (try simp only [Exit.jump])
    go_ret2
    exact ⟨_, by rw [HH.out]; rfl, HB2.out⟩
   | false =>
    obtain ⟨adc, cc, m, ad2, o', l', d2, him, had, d3, hp', hi', hs', hh, hmes⟩ := HSD.out.no rfl
    have HG' : zAa (GetAt ok w o' l' l0 key) := ⟨⟨hp', hi', hs', hh.trans HG.out.h⟩⟩
    have HME := zAa.mk hmes
    obtain ⟨po', hpo'⟩ := zBc o'
    have HPO' := zAa.mk hpo'
    rw [hpo'] at d3 HME
    have hI : (i : Int) < (m : Int) := by omega
    clear hp' hi' hs' hh hmes hpo'
    subst had
    go_wp2_with (go_at_call 159; refine HFD.out.mono ?_; rintro e1 w1 ⟨rfl, hw⟩; have hw2 := hw.symm; subst hw2; clear hw)
    go_wp2_with fail
    go_step3
    exact ⟨rfl, rfl, po', _, _, _, _, _, _, _, _, _, _, _, _, _, _, _, _, _, _, _, _, _, _, _, _, _, _, _, _, rfl, o', l', HPO'.out, HG'⟩
 ·rintro a' w' ⟨hw', po, u7, u8, u9, u10, u11, u12, u13, u14, u15, u16, u17, u18, u19, u20, u21, u22, u23, u24, u25, u26, u27, u28, u29, u30, u31, u32, u33, u34, rfl, o, l, hPO, HG⟩
  have hw2 := hw'.symm
  subst hw2
  have HPO := zAa.mk hPO
  clear hPO
  rcases HG.out.p.inv with ⟨hn1, hn2⟩ | ⟨g, n, js, zs, hn1, hn2, hNI, hL, hJ, hz⟩
  ·have HE : zAa (Has l0 key = false) := ⟨by rw [← HG.out.h, hn2]; rfl⟩
   subst hn1
   obtain rfl : po = none := by injection HPO.out with h9; exact h9.symm
   clear hn2
   go_wp2_with fail
   (try simp only [Exit.jump])
   go_ret2
   exact ⟨_, by rw [HE.out]; rfl, Below.refl _ _⟩
  ·obtain ⟨i, b, hSD⟩ := step_d (A := A) (c := c) (key := key) hNI hL hJ hz (by rw [← hn2]; exact HG.out.i) (by rw [← hn2]; exact HG.out.s) HK.out HKB.out
   rw [← hn2] at hSD
   subst hn1
   obtain rfl : po = some ⟨g, 0, none⟩ := by injection HPO.out with h9; exact h9.symm
   have HFD := zAa.mk hSD.find
   rw [HKL.out] at HFD
   have hgl := hSD.lt
   have HN := zAa.mk hNI
   have HSD := zAa.mk hSD
   clear hNI hL hJ hz hn2 hSD
   cases b with
   | true =>
    obtain ⟨adv, cv, m, ad2, A2, c2, val, d2, him, had, d3, hvl, hh⟩ := HSD.out.yes rfl
    obtain ⟨vl, hvl1, hvl2, hvl3, hvl4⟩ := hvl
    have HH : zAa (Has l0 key = true) := ⟨by rw [← HG.out.h]; exact hh⟩
    have HCB := zAa.mk (cloneB_any A2 c2 vl w (by rw [hvl1]; exact hvl4) (by rw [hvl1]; exact hvl2) (by rw [hvl1]; omega))
    rw [hvl1] at HCB
    have hI : (i : Int) < (m : Int) := by omega
    clear hh hvl1 hvl2 hvl3 hvl4
    subst had
    go_wp2_with (go_at_call 159; refine HFD.out.mono ?_; rintro e1 w1 ⟨rfl, hw⟩; have hw2 := hw.symm; subst hw2; clear hw)
    go_wp2_with fail
    refine HCB.out.mono ?_
    rintro e2 w2 ⟨v2, rfl, hr, hb⟩
    have HB2 := zAa.mk hb
    clear hr hb
    go_wp2_with fail
    (try simp only [Exit.jump])
    go_ret2
    exact ⟨_, by rw [HH.out]; rfl, HB2.out⟩
   | false =>
    obtain ⟨adc, cc, m, ad2, o', l', d2, him, had, d3, hp', hi', hs', hh, hmes⟩ := HSD.out.no rfl
    have HG' : zAa (GetAt ok w o' l' l0 key) := ⟨⟨hp', hi', hs', hh.trans HG.out.h⟩⟩
    have HME := zAa.mk hmes
    obtain ⟨po', hpo'⟩ := zBc o'
    have HPO' := zAa.mk hpo'
    rw [hpo'] at d3 HME
    have hI : (i : Int) < (m : Int) := by omega
    clear hp' hi' hs' hh hmes hpo'
    subst had
    go_wp2_with (go_at_call 159; refine HFD.out.mono ?_; rintro e1 w1 ⟨rfl, hw⟩; have hw2 := hw.symm; subst hw2; clear hw)
    go_wp2_with fail
    go_step3
    exact ⟨rfl, ⟨rfl, po', _, _, _, _, _, _, _, _, _, _, _, _, _, _, _, _, _, _, _, _, _, _, _, _, _, _, _, _, rfl, o', l', HPO'.out, HG'⟩, HME.out⟩
end Go.Proofs.YtpckachmleonlaaGreatDoor
end
section
set_option linter.unusedVariables false
set_option linter.unusedSimpArgs false
namespace Go.Proofs.YtpckachmleonlaaGreatDoor
open Go.RowKit Go.Proofs.YtpckachmleonlaaGreatDoorW.PrintWords
set_option maxHeartbeats 2000000 in
set_option maxRecDepth 100000 in
theorem tdel_any (ok : Nat → Prop) (t : Option Nat) (l : List It) (A : Option Addr) (c : Nat) (key : List Int) (w : World) (hok : ∀ k, w.heap.size ≤ k → ok k) (h : zDk ok w t l) (hi : ItOk l) (hs : Sorted l) (hk : kB.C w A key.length key) (hkb : IsB key) (hin : ∃ x ∈ l, x.1 = key) :
    Calls Tryz.prog 137 #[ptrV t, .slice A key.length c] w fun e w' => ∃ t' la x lb, e = .returned (.tuple #[ptrV t', .bool true]) ∧ l = la ++ x :: lb ∧ x.1 = key ∧ zDk ok w' t' (la ++ lb) ∧ Below w.heap.size w w' := by
  have hg := get_any ok t l A c key w h hi hs hk hkb
  rw [has_iff.2 hin] at hg
  have HG := zAa.mk hg
  have H := zAa.mk h
  have HI := zAa.mk (And.intro hi (And.intro hs hin))
  have HOK := zAa.mk hok
  have HK := zAa.mk (And.intro hk hkb)
  obtain ⟨pt, hpt⟩ := zBc t
  have HPT := zAa.mk hpt
  rw [hpt] at HG ⊢
  obtain ⟨kl, hkl⟩ : ∃ kl, key.length = kl := ⟨_, rfl⟩
  have HKL := zAa.mk hkl
  rw [hkl] at HG ⊢
  clear hg h hpt hi hs hin hok hk hkb hkl
  go_enter Tryz.func137, Tryz.ntmps137
  go_wp2_with fail
  refine HG.out.mono ?_
  rintro e w1 ⟨v, rfl, hb⟩
  have HB := zAa.mk hb
  clear hb
  obtain ⟨o, hp, hr⟩ := root_any ok t l w1 (H.out.keep HB.out)
  have HP := zAa.mk hp
  obtain ⟨po, hpo⟩ := zBc o
  have HPO := zAa.mk hpo
  rw [HPT.out, hpo] at hr
  have HR := zAa.mk hr
  have hdel := del_any A c key HK.out.2 (l.length + 1) ok o l w1 (Nat.lt_succ_self _) (fun k hk => HOK.out k (Nat.le_trans HB.out.size hk)) hp HI.out.1 HI.out.2.1 (Kd.zBb HK.out.1 HB.out) HI.out.2.2
  rw [hpo, HKL.out] at hdel
  have HD := zAa.mk hdel
  clear hp hr hpo hdel
  go_wp2_with (go_at_call 70; refine HR.out.mono ?_; rintro e2 w2 ⟨rfl, hw⟩; have hw2 := hw.symm; subst hw2; clear hw)
  refine HD.out.mono ?_
  rintro e3 w3 ⟨o3, la, x, lb, he, hl, hx, hpt, hb⟩
  obtain ⟨p3, hp3⟩ := zBc o3
  rw [hp3] at he
  subst he
  have HP3 := zAa.mk hp3
  have HL := zAa.mk (And.intro hl hx)
  have HPT3 := zAa.mk hpt
  have HB3 := zAa.mk (bl_to HB.out hb)
  clear hp3 hl hx hpt hb
  go_wp2_with fail
  go_ret2
  refine ⟨some w3.heap.size, la, x, lb, rfl, HL.out.1, HL.out.2, ⟨o3, HPT3.out.keep (zAb (Below.refl _ _) _), .inr ⟨_, rfl, HOK.out _ HB3.out.size, ?_⟩⟩, zAb HB3.out _⟩
  rw [HP3.out]
  exact heap_alloc_new _ _
end Go.Proofs.YtpckachmleonlaaGreatDoor
end
section
set_option linter.unusedVariables false
set_option linter.unusedSimpArgs false
namespace Go.Proofs.YtpckachmleonlaaGreatDoor
open Go.RowKit Go.Proofs.YtpckachmleonlaaGreatDoorW.PrintWords
abbrev kI : Kd It := Kd.pair (Kd.slice 5 kB) (Kd.slice 5 kB)
theorem info129 : (Tryz.prog.info? 129).map (fun i => (i.zero, i.size, i.bytes)) = some (some (.agg #[.slice none 0 0, .slice none 0 0]), 2, 48) := by kernel_rfl
def insB (lo hi key : List Int) : Bool := !(decide (cmpI key lo < 0)) && decide (cmpI key hi < 0)
structure ItR (w0 : World) (lo hi : List Int) (most : Nat) (W : World) : Prop where
 below : Below w0.heap.size w0 W
 l : ∃ A c, W.heap[w0.heap.size]? = some (.cells #[.slice A lo.length c] 47 (0, 0)) ∧ kB.C w0 A lo.length lo
 h : ∃ A c, W.heap[w0.heap.size + 1]? = some (.cells #[.slice A hi.length c] 47 (0, 0)) ∧ kB.C w0 A hi.length hi
 m : W.heap[w0.heap.size + 2]? = some (.cells #[.int .i64 most] 3 (0, 0))
 q : W.heap[w0.heap.size + 4]? = some (.cells #[.bool false] 4 (0, 0))
structure ItInv (w0 : World) (lo hi : List Int) (most : Nat) (W : World) (acc : List It) : Prop extends ItR w0 lo hi most W where
 o : ∃ v, W.heap[w0.heap.size + 3]? = some (.cells #[v] 88 (0, 0)) ∧ Kd.R kI 129 W w0.heap.size (fun _ => True) v acc
theorem ItR.keep {w0 W W' : World} {lo hi : List Int} {most : Nat} (h : ItR w0 lo hi most W) (hb : Below W.heap.size W W') : ItR w0 lo hi most W' := by
 obtain ⟨h1, ⟨A, c, h2, h3⟩, ⟨A', c', h4, h5⟩, h6, h7⟩ := h
 exact ⟨h1.trans (hb.mono h1.size), ⟨A, c, zAf h2 hb, h3⟩, ⟨A', c', zAf h4 hb, h5⟩, zAf h6 hb, zAf h7 hb⟩
theorem ItR.grown {w0 W W' : World} {lo hi : List Int} {most : Nat} {v : Value} {xs : List It} (h : ItR w0 lo hi most W) (hr : Kd.R kI 129 W w0.heap.size (fun _ => True) v xs) (hg : W.grownBy W' v.ownBlock) : ItR w0 lo hi most W' := by
 obtain ⟨h1, ⟨A, c, h2, h3⟩, ⟨A', c', h4, h5⟩, h6, h7⟩ := h
 exact ⟨h1.grown hg h1.size (fun k hk => (own_in hr k hk).1), ⟨A, c, zEc h2 hg (Kd.R_ne hr h2 (by decide)), h3⟩, ⟨A', c', zEc h4 hg (Kd.R_ne hr h4 (by decide)), h5⟩, zEc h6 hg (Kd.R_ne hr h6 (by decide)), zEc h7 hg (Kd.R_ne hr h7 (by decide))⟩
theorem ItR.set3 {w0 W : World} {lo hi : List Int} {most : Nat} (h : ItR w0 lo hi most W) (u : Value) : ItR w0 lo hi most (W.setCell ⟨w0.heap.size + 3, 0, none⟩ u) := by
 obtain ⟨h1, ⟨A, c, h2, h3⟩, ⟨A', c', h4, h5⟩, h6, h7⟩ := h
 exact ⟨h1.setCell (by simp) _, ⟨A, c, zDj h2 (by simp) _, h3⟩, ⟨A', c', zDj h4 (by simp) _, h5⟩, zDj h6 (by simp) _, zDj h7 (by simp) _⟩
theorem ItR.set4 {w0 W : World} {lo hi : List Int} {most : Nat} (h : ItR w0 lo hi most W) : ItR w0 lo hi most (W.setCell ⟨w0.heap.size + 4, 0, none⟩ (.bool false)) := by
 obtain ⟨h1, ⟨A, c, h2, h3⟩, ⟨A', c', h4, h5⟩, h6, h7⟩ := h
 exact ⟨h1.setCell (by simp) _, ⟨A, c, zDj h2 (by simp) _, h3⟩, ⟨A', c', zDj h4 (by simp) _, h5⟩, zDj h6 (by simp) _, by rw [zBh h7 0 (.bool false)]; rfl⟩
set_option maxHeartbeats 4000000 in
set_option maxRecDepth 100000 in
theorem each_any (w0 : World) (lo hi : List Int) (most : Nat) (W : World) (acc : List It) (A B : Option Addr) (c d : Nat) (key val : List Int) (h : ItInv w0 lo hi most W acc) (hk : kB.C w0 A key.length key) (hkc : key.length ≤ c) (hv : kB.C w0 B val.length val) (hvc : val.length ≤ d) (hkl : key.length ≤ 256) (hvl : val.length ≤ 1100) (hn : insB lo hi key = true → acc.length < most) (hm : most ≤ 1000) (acc' : List It) (he : (if insB lo hi key then acc ++ [(key, val)] else acc) = acc') :
  Calls Tryz.prog 126 #[.slice A key.length c, .slice B val.length d, .pointer (some ⟨w0.heap.size, 0, none⟩), .pointer (some ⟨w0.heap.size + 1, 0, none⟩), .pointer (some ⟨w0.heap.size + 3, 0, none⟩), .pointer (some ⟨w0.heap.size + 2, 0, none⟩), .pointer (some ⟨w0.heap.size + 4, 0, none⟩)] W
   fun e w' => e = .returned (.bool true) ∧ ItInv w0 lo hi most w' acc' := by
 obtain ⟨Al, cl, l1, l2⟩ := h.l
 obtain ⟨Ah, ch, h1, h2⟩ := h.h
 obtain ⟨v, o1, o2⟩ := h.o
 have H := zAa.mk h
 have HE := zAa.mk he
 clear he
 have HC1 := zAa.mk (compare_any A Al c cl key lo W (Kd.zBb hk h.below) (Kd.zBb l2 h.below))
 have HC2 := zAa.mk (compare_any A Ah c ch key hi W (Kd.zBb hk h.below) (Kd.zBb h2 h.below))
 have c0 : W.cell? ⟨w0.heap.size, 0, none⟩ = some (.slice Al lo.length cl) := (zAc l1 0).trans rfl
 have c1 : W.cell? ⟨w0.heap.size + 1, 0, none⟩ = some (.slice Ah hi.length ch) := (zAc h1 0).trans rfl
 have hl0 := zAj l1
 have hl1 := zAj h1
 have HK := zAa.mk (And.intro hk hkc)
 have HV := zAa.mk (And.intro hv hvc)
 have HN := zAa.mk hn
 have HO := zAa.mk (And.intro o1 o2)
 have HM := zAa.mk hm
 obtain ⟨ll, hll⟩ : ∃ ll, lo.length = ll := ⟨_, rfl⟩
 obtain ⟨hh, hhh⟩ : ∃ hh, hi.length = hh := ⟨_, rfl⟩
 obtain ⟨kl, hkl'⟩ : ∃ kl, key.length = kl := ⟨_, rfl⟩
 obtain ⟨vl, hvl'⟩ : ∃ vl, val.length = vl := ⟨_, rfl⟩
 have HKL := zAa.mk hkl'
 have HVL := zAa.mk hvl'
 rw [hkl'] at HC1 HC2 HK hkl ⊢
 rw [hvl'] at HV hvl ⊢
 rw [hll] at HC1 c0
 rw [hhh] at HC2 c1
 clear h l1 l2 h1 h2 o1 o2 hk hkc hv hvc hn hll hhh hkl' hvl'
 obtain ⟨x, hx⟩ : ∃ x, cmpI key lo = x := ⟨_, rfl⟩
 obtain ⟨y, hy⟩ : ∃ y, cmpI key hi = y := ⟨_, rfl⟩
 have HX := zAa.mk (And.intro hx hy)
 rw [hx] at HC1
 rw [hy] at HC2
 clear hx hy
 obtain ⟨g, hg⟩ : ∃ g, w0.heap.size = g := ⟨_, rfl⟩
 have HG := zAa.mk hg
 rw [hg] at c0 c1 hl0 hl1 HO ⊢
 clear hg
 by_cases hx0 : x < 0
 ·have t1 : decide (x < 0) = true := dt hx0
  have HI : zAa (insB lo hi key = false) := ⟨by unfold insB; rw [HX.out.1, t1]; rfl⟩
  clear hx0
  go_enter Tryz.func126, Tryz.ntmps126
  go_wp2_with (go_at_call 127; refine HC1.out.mono ?_; rintro e w1 ⟨rfl, hw⟩; have hw2 := hw.symm; subst hw2; clear hw)
  go_ret
  have h9 := HE.out
  rw [HI.out] at h9
  exact ⟨rfl, by rw [← h9]; exact H.out⟩
 ·have t1 : decide (x < 0) = false := df hx0
  by_cases hy0 : 0 ≤ y
  ·have t2 : decide (0 ≤ y) = true := dt hy0
   have HI : zAa (insB lo hi key = false) := ⟨by unfold insB; rw [HX.out.1, HX.out.2, df (show ¬ y < 0 by omega), Bool.and_false]⟩
   clear hx0 hy0
   go_enter Tryz.func126, Tryz.ntmps126
   go_wp2_with (first | (go_at_call_of 127 (Value.slice Ah hh ch); refine HC2.out.mono ?_; rintro e w1 ⟨rfl, hw⟩; have hw2 := hw.symm; subst hw2; clear hw) | (go_at_call 127; refine HC1.out.mono ?_; rintro e w1 ⟨rfl, hw⟩; have hw2 := hw.symm; subst hw2; clear hw))
   go_ret
   have h9 := HE.out
   rw [HI.out] at h9
   exact ⟨rfl, by rw [← h9]; exact H.out⟩
  ·have t2 : decide (0 ≤ y) = false := df hy0
   have HI : zAa (insB lo hi key = true) := ⟨by unfold insB; rw [HX.out.1, HX.out.2, t1, dt (show y < 0 by omega)]; rfl⟩
   have hn := HN.out HI.out
   clear hx0 hy0
   have HA : zAa (acc ++ [(key, val)] = acc') := ⟨by have h9 := HE.out; rw [HI.out] at h9; exact h9⟩
   obtain ⟨Ao, co, eo⟩ := Kd.zAk HO.out.2
   subst eo
   have hla : acc.length < 1000 := by have := HM.out; omega
   have c3 : W.cell? ⟨g + 3, 0, none⟩ = some (.slice Ao acc.length co) := (zAc HO.out.1 0).trans rfl
   have hq4 := H.out.q
   have hm2 := H.out.m
   rw [HG.out] at hq4 hm2
   have c2 : W.cell? ⟨g + 2, 0, none⟩ = some (.int .i64 most) := (zAc hm2 0).trans rfl
   have c4 : W.cell? ⟨g + 4, 0, none⟩ = some (.bool false) := (zAc hq4 0).trans rfl
   have f4 := zAd hq4 0
   have hl2 := zAj hm2
   have hl3 := zAj HO.out.1
   have hl4 := zAj hq4
   have HQ4 := zAa.mk hq4
   have s1 : decide ((most : Int) ≤ (acc.length : Int)) = false := df (by omega)
   have s2 : decide (most ≤ acc.length) = false := df (by omega)
   have s1' : ¬ ((most : Int) ≤ (acc.length : Int)) := by omega
   clear hn hq4 hm2
   obtain ⟨na, hna⟩ : ∃ na, acc.length = na := ⟨_, rfl⟩
   have HNA := zAa.mk hna
   rw [hna] at c3 s1 s1' s2 hla
   clear hna
   go_enter Tryz.func126, Tryz.ntmps126
   go_upto_region 6 with (first | (go_at_call_of 127 (Value.slice Ah hh ch); refine HC2.out.mono ?_; rintro e w1 ⟨rfl, hw⟩; have hw2 := hw.symm; subst hw2; clear hw) | (go_at_call 127; refine HC1.out.mono ?_; rintro e w1 ⟨rfl, hw⟩; have hw2 := hw.symm; subst hw2; clear hw))
   have HR5 : zAa (ItR w0 lo hi most (W.setCell ⟨g + 4, 0, none⟩ (.bool false))) := ⟨by rw [← HG.out]; exact H.out.toItR.set4⟩
   have HO5 : zAa ((W.setCell ⟨g + 4, 0, none⟩ (.bool false)).heap[g + 3]? = some (.cells #[.slice Ao na co] 88 (0, 0)) ∧ Kd.R kI 129 (W.setCell ⟨g + 4, 0, none⟩ (.bool false)) g (fun _ => True) (.slice Ao na co) acc) := ⟨⟨by rw [← HNA.out]; exact zDj HO.out.1 (by simp) _, by rw [← HNA.out]; exact Kd.R_set HO.out.2 HQ4.out (by decide) 0 _⟩⟩
   clear c0 c1 c2 c3 c4 f4 hl0 hl1 hl2 hl3 hl4
   generalize W.setCell ⟨g + 4, 0, none⟩ (.bool false) = W5 at HR5 HO5 ⊢
   have HCK : zAa (∀ X, Below w0.heap.size w0 X → Calls Tryz.prog 87 #[.slice A kl c] X fun e w' => ∃ v, e = .returned v ∧ Kd.R kB 5 w' X.heap.size (fun _ => True) v key ∧ Below X.heap.size X w') := ⟨fun X hX => by
    have := cloneB_any A c key X (by rw [HKL.out]; exact Kd.zBb HK.out.1 hX) (by rw [HKL.out]; exact HK.out.2) (by rw [HKL.out]; omega)
    rw [HKL.out] at this
    exact this⟩
   have HCV : zAa (∀ X, Below w0.heap.size w0 X → Calls Tryz.prog 87 #[.slice B vl d] X fun e w' => ∃ v, e = .returned v ∧ Kd.R kB 5 w' X.heap.size (fun _ => True) v val ∧ Below X.heap.size X w') := ⟨fun X hX => by
    have := cloneB_any B d val X (by rw [HVL.out]; exact Kd.zBb HV.out.1 hX) (by rw [HVL.out]; exact HV.out.2) (by rw [HVL.out]; omega)
    rw [HVL.out] at this
    exact this⟩
   have c3 : W5.drew.cell? ⟨g + 3, 0, none⟩ = some (.slice Ao na co) := (zAc (w := W5.drew) HO5.out.1 0).trans rfl
   have hl3 : g + 3 < W5.drew.heap.size := zAj HO5.out.1
   have HRd : zAa (ItR w0 lo hi most W5.drew) := ⟨HR5.out.keep (zAg (Below.refl _ _))⟩
   have HOd : zAa (W5.drew.heap[g + 3]? = some (.cells #[.slice Ao na co] 88 (0, 0)) ∧ Kd.R kI 129 W5.drew g (fun _ => True) (.slice Ao na co) acc) := ⟨⟨HO5.out.1, Kd.zGd HO5.out.2⟩⟩
   refine Go.Proofs.YtpckachmleonlaaGreatDoorW.PrintLast.start_ (n := 9) (S := fun w' => w'.cell? ⟨g + 3, 0, none⟩ = some (.slice Ao na co)) (ds := [8]) #[false, false, false, false, false, false, false, false, false] (by kernel_rfl) rfl rfl c3 (fun hHeld => ?_)
   refine Go.Proofs.YtpckachmleonlaaGreatDoorW.PrintLast.take_ (i := 0) (N := some 25) (v := ?_) (a' := ?_) #[true, false, false, false, false, false, false, false, false] rfl rfl (by kernel_rfl) (fun _ _ _ h => h) (Or.inl ⟨by rfl, ?_⟩) hHeld ?_ ?_
   rotate_left
   ·intro w' s0
    go_simp
    with_reducible rfl
   rotate_left
   ·simp only [Act.put, List.setIfInBounds_toArray, List.set_cons_zero, List.set_cons_succ]
    rfl
   refine Go.Proofs.YtpckachmleonlaaGreatDoorW.PrintLast.pure_ (i := 1) (N := some 26) (v := ?_) (a' := ?_) #[true, true, false, false, false, false, false, false, false] rfl rfl (by kernel_rfl) (fun _ _ _ h => h) (Or.inl ⟨by rfl, ?_⟩) ?_ ?_
   rotate_left
   ·intro w'
    go_simp
    with_reducible rfl
   rotate_left
   ·simp only [Act.put, List.setIfInBounds_toArray, List.set_cons_zero, List.set_cons_succ]
    rfl
   refine Go.Proofs.YtpckachmleonlaaGreatDoorW.PrintLast.pure_ (i := 3) (N := some 28) (v := ?_) (a' := ?_) #[true, true, false, true, false, false, false, false, false] rfl rfl (by kernel_rfl) (fun _ _ _ h => h) (Or.inl ⟨by rfl, ?_⟩) ?_ ?_
   rotate_left
   ·intro w'
    go_simp
    with_reducible rfl
   rotate_left
   ·simp only [Act.put, List.setIfInBounds_toArray, List.set_cons_zero, List.set_cons_succ]
    rfl
   refine Go.Proofs.YtpckachmleonlaaGreatDoorW.PrintLast.one_ (i := 2) (N := some 27) #[true, true, true, true, false, false, false, false, false] rfl rfl (by kernel_rfl) (by decide) (fun K hK => ?_)
   first | (go_at_call_of 87 (Value.slice A kl c); refine (HCK.out _ HRd.out.below).mono ?_; rintro e6 W6 ⟨v6, rfl, hr, hb⟩; obtain ⟨inner, how⟩ := Kd.R_own HOd.out.2; have HR6 := zAa.mk (Kd.zCj (base' := g) (Kd.R_new hr how) (by have h9 := HRd.out.below.size; rw [HG.out] at h9; exact h9)); have HQ6 := zAa.mk (HRd.out.keep hb); have HO6 : zAa (W6.heap[g + 3]? = some (.cells #[.slice Ao na co] 88 (0, 0)) ∧ Kd.R kI 129 W6 g (fun _ => True) (.slice Ao na co) acc) := ⟨zAf HOd.out.1 hb, Kd.zFa HOd.out.2 hb⟩; have c36 : W6.cell? ⟨g + 3, 0, none⟩ = some (.slice Ao na co) := (zAc HO6.out.1 0).trans rfl; have hl36 := zAj HO6.out.1; clear hr hb how; obtain ⟨A6, c6, e6⟩ := Kd.zAk HR6.out; rw [HKL.out] at e6; subst e6) | (go_simp; go_at_call_of 87 (Value.slice A kl c); refine (HCK.out _ HRd.out.below).mono ?_; rintro e6 W6 ⟨v6, rfl, hr, hb⟩; obtain ⟨inner, how⟩ := Kd.R_own HOd.out.2; have HR6 := zAa.mk (Kd.zCj (base' := g) (Kd.R_new hr how) (by have h9 := HRd.out.below.size; rw [HG.out] at h9; exact h9)); have HQ6 := zAa.mk (HRd.out.keep hb); have HO6 : zAa (W6.heap[g + 3]? = some (.cells #[.slice Ao na co] 88 (0, 0)) ∧ Kd.R kI 129 W6 g (fun _ => True) (.slice Ao na co) acc) := ⟨zAf HOd.out.1 hb, Kd.zFa HOd.out.2 hb⟩; have c36 : W6.cell? ⟨g + 3, 0, none⟩ = some (.slice Ao na co) := (zAc HO6.out.1 0).trans rfl; have hl36 := zAj HO6.out.1; clear hr hb how; obtain ⟨A6, c6, e6⟩ := Kd.zAk HR6.out; rw [HKL.out] at e6; subst e6)
   all_goals try go_wp2_with fail
   refine hK.out _ _ c36 (fun hHeld => ?_)
   clear hK K
   try simp only [Act.put, List.setIfInBounds_toArray, List.set_cons_zero, List.set_cons_succ]
   refine Go.Proofs.YtpckachmleonlaaGreatDoorW.PrintLast.one_ (i := 4) (N := some 29) #[true, true, true, true, true, false, false, false, false] rfl rfl (by kernel_rfl) (by decide) (fun K hK => ?_)
   first | (go_at_call_of 87 (Value.slice B vl d); refine (HCV.out _ HQ6.out.below).mono ?_; rintro e7 W7 ⟨v7, rfl, hr, hb⟩; obtain ⟨inner7, how⟩ := Kd.R_own HO6.out.2; have HR7 := zAa.mk (Kd.zCj (base' := g) (Kd.R_new hr how) (by have h9 := HQ6.out.below.size; rw [HG.out] at h9; exact h9)); have HR67 := zAa.mk (Kd.zFa HR6.out hb); have HQ7 := zAa.mk (HQ6.out.keep hb); have HO7 : zAa (W7.heap[g + 3]? = some (.cells #[.slice Ao na co] 88 (0, 0)) ∧ Kd.R kI 129 W7 g (fun _ => True) (.slice Ao na co) acc) := ⟨zAf HO6.out.1 hb, Kd.zFa HO6.out.2 hb⟩; have c37 : W7.cell? ⟨g + 3, 0, none⟩ = some (.slice Ao na co) := (zAc HO7.out.1 0).trans rfl; have hl37 := zAj HO7.out.1; have c37a : ∀ o, (W7.alloc o).cell? ⟨g + 3, 0, none⟩ = some (.slice Ao na co) := fun o => (zAc (zAf HO7.out.1 (zAb (Below.refl _ _) o)) 0).trans rfl; clear hr hb how; obtain ⟨A7, c7, e7⟩ := Kd.zAk HR7.out; rw [HVL.out] at e7; subst e7) | (go_simp; go_at_call_of 87 (Value.slice B vl d); refine (HCV.out _ HQ6.out.below).mono ?_; rintro e7 W7 ⟨v7, rfl, hr, hb⟩; obtain ⟨inner7, how⟩ := Kd.R_own HO6.out.2; have HR7 := zAa.mk (Kd.zCj (base' := g) (Kd.R_new hr how) (by have h9 := HQ6.out.below.size; rw [HG.out] at h9; exact h9)); have HR67 := zAa.mk (Kd.zFa HR6.out hb); have HQ7 := zAa.mk (HQ6.out.keep hb); have HO7 : zAa (W7.heap[g + 3]? = some (.cells #[.slice Ao na co] 88 (0, 0)) ∧ Kd.R kI 129 W7 g (fun _ => True) (.slice Ao na co) acc) := ⟨zAf HO6.out.1 hb, Kd.zFa HO6.out.2 hb⟩; have c37 : W7.cell? ⟨g + 3, 0, none⟩ = some (.slice Ao na co) := (zAc HO7.out.1 0).trans rfl; have hl37 := zAj HO7.out.1; have c37a : ∀ o, (W7.alloc o).cell? ⟨g + 3, 0, none⟩ = some (.slice Ao na co) := fun o => (zAc (zAf HO7.out.1 (zAb (Below.refl _ _) o)) 0).trans rfl; clear hr hb how; obtain ⟨A7, c7, e7⟩ := Kd.zAk HR7.out; rw [HVL.out] at e7; subst e7)
   all_goals try go_wp2_with fail
   refine hK.out _ _ c37 (fun hHeld => ?_)
   clear hK K
   try simp only [Act.put, List.setIfInBounds_toArray, List.set_cons_zero, List.set_cons_succ]
   refine Go.Proofs.YtpckachmleonlaaGreatDoorW.PrintLast.pure_ (i := 5) (N := some 30) (v := ?_) (a' := ?_) #[true, true, true, true, true, true, false, false, false] rfl rfl (by kernel_rfl) (fun _ _ _ h => h) (Or.inl ⟨by rfl, ?_⟩) ?_ ?_
   rotate_left
   ·intro w'
    go_simp
    with_reducible rfl
   rotate_left
   ·simp only [Act.put, List.setIfInBounds_toArray, List.set_cons_zero, List.set_cons_succ]
    rfl
   refine Go.Proofs.YtpckachmleonlaaGreatDoorW.PrintLast.one_ (i := 6) (N := some 31) #[true, true, true, true, true, true, true, false, false] rfl rfl (by kernel_rfl) (by decide) (fun K hK => ?_)
   go_simp
   refine hK.out _ _ (c37a _) (fun hHeld => ?_)
   clear hK K
   try simp only [Act.put, List.setIfInBounds_toArray, List.set_cons_zero, List.set_cons_succ]
   refine Go.Proofs.YtpckachmleonlaaGreatDoorW.PrintLast.one_ (i := 7) (N := some 32) #[true, true, true, true, true, true, true, true, false] rfl rfl (by kernel_rfl) (by decide) (fun K hK => ?_)
   refine Kd.R_append_step kI (w0 := w0) g (by rfl) (.tmp 25) (.tmp 31) 88 129 (.agg #[.slice none 0 0, .slice none 0 0]) 48 rfl Tryz.underlying88 info129 rfl (by decide) (by omega) (.slice Ao na co) acc (key, val) [.slice A6 kl c6, .slice A7 vl c7] (fun _ => True) _ rfl rfl ⟨[.slice A6 kl c6], [.slice A7 vl c7], rfl, ⟨_, rfl, HR67.out⟩, ⟨_, rfl, HR7.out⟩⟩ (fun k hk => hk) (fun _ _ => trivial) HO7.out.2 (by rw [← HG.out]; exact HQ7.out.below) (by have h9 := HQ7.out.below.size; rw [HG.out] at h9; exact h9) (by rw [HNA.out]; omega) ?_; intro v9 W9 ho hb hg hat; have HO9 := zAa.mk ho; have HQ9 : zAa (ItR w0 lo hi most W9) := ⟨HQ7.out.grown (v := .slice Ao na co) (xs := acc) (by rw [HG.out]; exact HO7.out.2) hg⟩; have HG9 := zAa.mk (zEc HO7.out.1 hg (Kd.R_ne HO7.out.2 HO7.out.1 (by decide))); have c39 : W9.cell? ⟨g + 3, 0, none⟩ = some (.slice Ao na co) := (zAc HG9.out 0).trans rfl; have f39 := zAd HG9.out 0; have hl39 := zAj HG9.out; clear ho hb hg hat; obtain ⟨A9, c9, e9⟩ := Kd.zAk HO9.out; rw [List.length_append, List.length_singleton, HNA.out] at e9; subst e9
   refine hK.out _ _ c39 (fun hHeld => ?_)
   clear hK K
   try simp only [Act.put, List.setIfInBounds_toArray, List.set_cons_zero, List.set_cons_succ]
   refine Go.Proofs.YtpckachmleonlaaGreatDoorW.PrintLast.last_ (i := 8) (N := none) #[true, true, true, true, true, true, true, true, true] rfl rfl (by kernel_rfl) (by decide) (fun K hK => ?_)
   go_simp
   refine hK.out _ _ ?_
   clear hK K
   refine Go.Proofs.YtpckachmleonlaaGreatDoorW.PrintLast.done_ (by kernel_rfl) ?_
   all_goals
    go_wp2_with fail
    go_ret
    refine ⟨rfl, by have h9 := HQ9.out.set3 (.slice A9 (na + 1) c9); rw [HG.out] at h9; exact h9, .slice A9 (na + 1) c9, by rw [HG.out, zBh HG9.out 0 (.slice A9 (na + 1) c9)]; rfl, ?_⟩
    rw [← HA.out, HG.out]
    exact Kd.R_set HO9.out HG9.out (by decide) 0 _
end Go.Proofs.YtpckachmleonlaaGreatDoor
end
