/- Words and walks for Split and Tablet: texts of these sessions, and of the kit's print, cut down to what is used (J2 L2 O2). -/
import Derived.Test.YtpckachmleonlaaGreatDoorCu15
section
set_option linter.unusedVariables false
set_option linter.unusedSimpArgs false
namespace Go.Proofs.YtpckachmleonlaaGreatDoor
open Go.RowKit Go.Proofs.YtpckachmleonlaaGreatDoorW.PrintWords
def zFb (ok : Nat → Prop) (w : World) (t : Option Nat) (l : List It) : Prop := ∃ o, PartAt ok w o l ∧ ((t = none ∧ o = none) ∨ ∃ b, t = some b ∧ ok b ∧ w.heap[b]? = some (.cells #[ptrV o] 147 (0, 0)))
section
variable {ok ok' : Nat → Prop} {w w' : World} {t : Option Nat} {l : List It}
theorem zFb.step (h : zFb ok w t l) (hs : Same_ ok w w') : zFb ok w' t l := by
  obtain ⟨o, hp, h | ⟨b, h1, h2, h3⟩⟩ := h
  · exact ⟨o, hp.step hs, .inl h⟩
  · exact ⟨o, hp.step hs, .inr ⟨b, h1, h2, (hs b h2 (zAi h3)).trans h3⟩⟩
theorem zFb.keep (h : zFb ok w t l) (hb : Below w.heap.size w w') : zFb ok w' t l := h.step (.of_below hb)
theorem zFb.mono (h : zFb ok w t l) (hk : ∀ k, ok k → ok' k) : zFb ok' w t l := by
  obtain ⟨o, hp, h | ⟨b, h1, h2, h3⟩⟩ := h
  · exact ⟨o, hp.mono hk, .inl h⟩
  · exact ⟨o, hp.mono hk, .inr ⟨b, h1, hk b h2, h3⟩⟩
end
theorem zFb.nil (ok : Nat → Prop) (w : World) : zFb ok w none [] := ⟨none, .nil_, .inl ⟨rfl, rfl⟩⟩
set_option maxHeartbeats 1000000 in
set_option maxRecDepth 100000 in
theorem root_any (ok : Nat → Prop) (t : Option Nat) (l : List It) (w : World) (h : zFb ok w t l) : ∃ o, PartAt ok w o l ∧ Calls Tryz.prog 70 #[ptrV t] w fun e w' => e = .returned (ptrV o) ∧ w' = w := by
  obtain ⟨o, hp, ⟨rfl, rfl⟩ | ⟨b, rfl, _, h3⟩⟩ := h
  · refine ⟨none, hp, ?_⟩
    change Calls Tryz.prog 70 #[.pointer none] w _
    go_enter Tryz.func70, Tryz.ntmps70
    go_wp2_with fail
    go_ret
    exact ⟨rfl, rfl⟩
  · refine ⟨o, hp, ?_⟩
    obtain ⟨p, hpo⟩ := zDa o
    have hc : w.cell? ⟨b, 0, none⟩ = some (.pointer p) := by rw [← hpo]; exact (zAb h3 0).trans rfl
    have hlt := zAi h3
    have HPO := zA.mk hpo
    clear h3 hp hpo
    change Calls Tryz.prog 70 #[.pointer (some ⟨b, 0, none⟩)] w _
    go_enter Tryz.func70, Tryz.ntmps70
    go_wp2_with fail
    go_ret
    exact ⟨by rw [HPO.out]; rfl, rfl⟩
set_option maxHeartbeats 1000000 in
set_option maxRecDepth 100000 in
theorem len_any (ok : Nat → Prop) (t : Option Nat) (l : List It) (w : World) (h : zFb ok w t l) : Calls Tryz.prog 39 #[ptrV t] w fun e w' => e = .returned (.int .i64 l.length) ∧ w' = w := by
  obtain ⟨o, hp, hr⟩ := root_any ok t l w h
  have HR := zA.mk hr
  have HP := zA.mk (many_any ok o l w hp)
  obtain ⟨p, hpt⟩ := zDa t
  rw [hpt] at HR ⊢
  obtain ⟨m, hm⟩ : ∃ m, l.length = m := ⟨_, rfl⟩
  rw [hm] at HP ⊢
  clear hp hr h hpt hm
  go_enter Tryz.func39, Tryz.ntmps39
  go_wp2_with (first | (go_at_call 70; refine HR.out.mono ?_; rintro e w1 ⟨rfl, rfl⟩) | (go_at_call 71; refine HP.out.mono ?_; rintro e w1 ⟨rfl, rfl⟩))
  go_ret
  exact ⟨rfl, rfl⟩
set_option maxHeartbeats 1000000 in
set_option maxRecDepth 100000 in
theorem troot_any (ok : Nat → Prop) (t : Option Nat) (l : List It) (w : World) (h : zFb ok w t l) : Calls Tryz.prog 47 #[ptrV t] w fun e w' => ∃ v, e = .returned v ∧ Kd.R kB 5 w' w.heap.size (fun _ => True) v (hashT l) ∧ Below w.heap.size w w' := by
  obtain ⟨o, hp, hr⟩ := root_any ok t l w h
  have HR := zA.mk hr
  have HP := zA.mk (hash_any ok o l w w hp (Below.refl _ _))
  have HL := zA.mk (hashT_len l)
  obtain ⟨p, hpt⟩ := zDa t
  rw [hpt] at HR ⊢
  obtain ⟨m, hm⟩ : ∃ m, hashT l = m := ⟨_, rfl⟩
  have HM := zA.mk hm
  rw [hm] at HP HL
  clear hp hr h hpt hm
  go_enter Tryz.func47, Tryz.ntmps47
  go_wp2_with (go_at_call 70; refine HR.out.mono ?_; rintro e w1 ⟨rfl, rfl⟩)
  refine HP.out.mono ?_
  rintro e w2 ⟨A, c, rfl, hb, hh⟩
  have HB := zA.mk hb
  have HC : zA (m.length ≤ c ∧ kB.C w2 A m.length m) := ⟨by
    rcases hh with ⟨rfl, h2⟩ | h2
    · exact ⟨h2.now.c, h2.now.row⟩
    · exact R_cap h2⟩
  clear hb hh
  go_wp2_with fail
  refine (cloneB_any A c m w2 HC.out.2 HC.out.1 (by have := HL.out; omega)).mono ?_
  rintro e w3 ⟨v, rfl, hr, hb⟩
  have HR3 := zA.mk (Kd.zDk hr HB.out.size)
  have HB3 := zA.mk (bl_to HB.out hb)
  clear hr hb
  obtain ⟨A3, c3, e3⟩ := Kd.zAk HR3.out
  subst e3
  go_wp2_with fail
  go_ret
  exact ⟨_, rfl, by rw [HM.out]; exact HR3.out, HB3.out⟩
end Go.Proofs.YtpckachmleonlaaGreatDoor
end
section
set_option linter.unusedVariables false
set_option linter.unusedSimpArgs false
namespace Go.Proofs.YtpckachmleonlaaGreatDoor
open Go.RowKit Go.Proofs.YtpckachmleonlaaGreatDoorW.PrintWords
set_option maxHeartbeats 1000000 in
set_option maxRecDepth 100000 in
theorem asked_ok (A B : Option Addr) (n c m d : Nat) (w : World) (h0 : 0 < n) (h1 : n ≤ 256) (h2 : m ≤ 1024) : Calls Tryz.prog 140 #[.slice A n c, .slice B m d] w fun e w' => e = .returned (.int .i64 0) ∧ w' = w := by
  have e0 : ((n : Int) == 0) = false := ine (by omega)
  have e1 : decide ((256 : Int) < (n : Int)) = false := df (by omega)
  have e1' : ¬ ((256 : Int) < (n : Int)) := by omega
  have e2 : decide ((1024 : Int) < (m : Int)) = false := df (by omega)
  have e2' : ¬ ((1024 : Int) < (m : Int)) := by omega
  go_enter Tryz.func140, Tryz.ntmps140
  go_wp2
  go_ret
  exact ⟨rfl, rfl⟩
set_option maxHeartbeats 2000000 in
set_option maxRecDepth 100000 in
theorem tput_any (ok : Nat → Prop) (t : Option Nat) (l : List It) (A B : Option Addr) (c d : Nat) (key val : List Int) (w : World) (hok : ∀ k, w.heap.size ≤ k → ok k) (h : zFb ok w t l) (hi : ItOk l) (hn : l.length < 100) (hs : Sorted l) (hk : kB.C w A key.length key) (hkc : key.length ≤ c) (hv : kB.C w B val.length val) (hvc : val.length ≤ d)
    (hk0 : 0 < key.length) (hk1 : key.length ≤ 256) (hv1 : val.length ≤ 1024) (hkb : IsB key) :
    Calls Tryz.prog 113 #[ptrV t, .slice A key.length c, .slice B val.length d] w fun e w' => ∃ t' l', e = .returned (.tuple #[ptrV t', .int .i64 0]) ∧ PutL l key val l' ∧ zFb ok w' t' l' ∧ Below w.heap.size w w' := by
  obtain ⟨o, hp, hr⟩ := root_any ok t l w h
  have HR := zA.mk hr
  have HP := zA.mk hp
  have HI := zA.mk (And.intro hi (And.intro hn hs))
  have HOK := zA.mk hok
  have HA := zA.mk (asked_ok A B key.length c val.length d w hk0 hk1 hv1)
  have HLV := zA.mk (level_any A c key w hk hkc (by omega) (by rw [ofM_len]; decide))
  have HK := zA.mk (And.intro hk hkc)
  have HV := zA.mk (And.intro hv hvc)
  have HPI : zA (PutI key val) := ⟨⟨hk1, by omega, hkb⟩⟩
  obtain ⟨p, hpt⟩ := zDa t
  obtain ⟨po, hpo⟩ := zDa o
  have HPO := zA.mk hpo
  rw [hpt, hpo] at HR
  rw [hpt]
  have hl64 := levelM_le key
  obtain ⟨lv, hlv⟩ : ∃ lv, zBg key = lv := ⟨_, rfl⟩
  have HLE := zA.mk hlv
  rw [hlv] at HLV hl64
  obtain ⟨kl, hkl⟩ : ∃ kl, key.length = kl := ⟨_, rfl⟩
  have HKL := zA.mk hkl
  obtain ⟨vl, hvl⟩ : ∃ vl, val.length = vl := ⟨_, rfl⟩
  have HVL := zA.mk hvl
  rw [hkl] at HA HLV HK hk1 ⊢
  rw [hvl] at HA HV hv1 ⊢
  clear hp hr h hpt hpo hi hn hs hok hk hkc hv hvc hk0 hkb hlv hkl hvl
  go_enter Tryz.func113, Tryz.ntmps113
  go_wp2_with (first | (go_at_call 140; refine HA.out.mono ?_; rintro e w1 ⟨rfl, rfl⟩) | (go_at_call 70; refine HR.out.mono ?_; rintro e w1 ⟨rfl, rfl⟩))
  refine HLV.out.mono ?_
  rintro e w2 ⟨rfl, hb⟩
  have HB2 := zA.mk hb
  clear hb
  go_wp2_with fail
  have h87 := cloneB_any A c key w2 (by rw [HKL.out]; exact Kd.zBa HK.out.1 HB2.out) (by rw [HKL.out]; exact HK.out.2) (by rw [HKL.out]; omega)
  rw [HKL.out] at h87
  refine h87.mono ?_
  rintro e w3 ⟨v3, rfl, hr, hb⟩
  obtain ⟨A3, c3, e3⟩ := Kd.zAk hr
  rw [HKL.out] at e3
  subst e3
  have HF3 := zA.mk (BAt_FF hr)
  have HB3' := zA.mk hb
  have HB3 := zA.mk (bl_to HB2.out hb)
  clear hr hb h87
  go_wp2_with fail
  have h87 := cloneB_any B d val w3 (by rw [HVL.out]; exact Kd.zBa HV.out.1 HB3.out) (by rw [HVL.out]; exact HV.out.2) (by rw [HVL.out]; omega)
  rw [HVL.out] at h87
  refine h87.mono ?_
  rintro e w4 ⟨v4, rfl, hr, hb⟩
  obtain ⟨A4, c4, e4⟩ := Kd.zAk hr
  rw [HVL.out] at e4
  subst e4
  have HF4 := zA.mk (BAt_FF hr)
  have HB4 := zA.mk (bl_to HB3.out hb)
  have HF3' := zA.mk (HF3.out.keep hb)
  clear hr hb h87 HF3
  have hput := put_any A3 A4 c3 c4 key val HPI.out (l.length + 1) ok o l w4 (Nat.lt_succ_self _) (fun k hk => HOK.out k (Nat.le_trans HB4.out.size hk)) (HP.out.keep HB4.out) HI.out.1 HI.out.2.1 HI.out.2.2
    (by rw [HKL.out]; exact HF3'.out.mono (fun k hk => HOK.out k (Nat.le_trans HB2.out.size hk))) (by rw [HVL.out]; exact HF4.out.mono (fun k hk => HOK.out k (Nat.le_trans HB3.out.size hk)))
  rw [HPO.out, HLE.out, HKL.out, HVL.out] at hput
  go_wp2_with fail
  refine hput.mono ?_
  rintro e w5 ⟨o5, l5, he, hpl, hpt, hb⟩
  obtain ⟨p5, hp5⟩ := zDa o5
  rw [hp5] at he
  subst he
  have HP5' := zA.mk hp5
  have HPL := zA.mk hpl
  have HPT := zA.mk hpt
  have HB5 := zA.mk (bl_to HB4.out hb)
  clear hpl hpt hb hput hp5
  go_wp2_with fail
  go_ret2
  refine ⟨some w5.heap.size, l5, rfl, HPL.out, ⟨o5, HPT.out.keep (zAa (Below.refl _ _) _), .inr ⟨_, rfl, HOK.out _ HB5.out.size, ?_⟩⟩, zAa HB5.out _⟩
  rw [HP5'.out]
  exact heap_alloc_new _ _
end Go.Proofs.YtpckachmleonlaaGreatDoor
end
section
set_option linter.unusedVariables false
set_option linter.unusedSimpArgs false
namespace Go.Proofs.YtpckachmleonlaaGreatDoor
open Go.RowKit Go.Proofs.YtpckachmleonlaaGreatDoorW.PrintWords
abbrev kI : Kd It := Kd.pair (Kd.slice 5 kB) (Kd.slice 5 kB)
theorem info129 : (Tryz.prog.info? 129).map (fun i => (i.zero, i.size, i.bytes)) = some (some (.agg #[.slice none 0 0, .slice none 0 0]), 2, 48) := by kernel_rfl
def insB (lo hi key : List Int) : Bool := !(decide (cmpI key lo < 0)) && decide (cmpI key hi < 0)
structure ItR (w0 : World) (lo hi : List Int) (most : Nat) (W : World) : Prop where
 below : Below w0.heap.size w0 W
 l : ∃ A c, W.heap[w0.heap.size]? = some (.cells #[.slice A lo.length c] 47 (0, 0)) ∧ kB.C w0 A lo.length lo
 h : ∃ A c, W.heap[w0.heap.size + 1]? = some (.cells #[.slice A hi.length c] 47 (0, 0)) ∧ kB.C w0 A hi.length hi
 m : W.heap[w0.heap.size + 2]? = some (.cells #[.int .i64 most] 3 (0, 0))
 q : W.heap[w0.heap.size + 4]? = some (.cells #[.bool false] 4 (0, 0))
structure ItInv (w0 : World) (lo hi : List Int) (most : Nat) (W : World) (acc : List It) : Prop extends ItR w0 lo hi most W where
 o : ∃ v, W.heap[w0.heap.size + 3]? = some (.cells #[v] 88 (0, 0)) ∧ Kd.R kI 129 W w0.heap.size (fun _ => True) v acc
theorem ItR.keep {w0 W W' : World} {lo hi : List Int} {most : Nat} (h : ItR w0 lo hi most W) (hb : Below W.heap.size W W') : ItR w0 lo hi most W' := by
 obtain ⟨h1, ⟨A, c, h2, h3⟩, ⟨A', c', h4, h5⟩, h6, h7⟩ := h
 exact ⟨h1.trans (hb.mono h1.size), ⟨A, c, zAe h2 hb, h3⟩, ⟨A', c', zAe h4 hb, h5⟩, zAe h6 hb, zAe h7 hb⟩
theorem ItR.grown {w0 W W' : World} {lo hi : List Int} {most : Nat} {v : Value} {xs : List It} (h : ItR w0 lo hi most W) (hr : Kd.R kI 129 W w0.heap.size (fun _ => True) v xs) (hg : W.grownBy W' v.ownBlock) : ItR w0 lo hi most W' := by
 obtain ⟨h1, ⟨A, c, h2, h3⟩, ⟨A', c', h4, h5⟩, h6, h7⟩ := h
 exact ⟨h1.grown hg h1.size (fun k hk => (own_in hr k hk).1), ⟨A, c, zCg h2 hg (Kd.R_ne hr h2 (by decide)), h3⟩, ⟨A', c', zCg h4 hg (Kd.R_ne hr h4 (by decide)), h5⟩, zCg h6 hg (Kd.R_ne hr h6 (by decide)), zCg h7 hg (Kd.R_ne hr h7 (by decide))⟩
theorem ItR.set3 {w0 W : World} {lo hi : List Int} {most : Nat} (h : ItR w0 lo hi most W) (u : Value) : ItR w0 lo hi most (W.setCell ⟨w0.heap.size + 3, 0, none⟩ u) := by
 obtain ⟨h1, ⟨A, c, h2, h3⟩, ⟨A', c', h4, h5⟩, h6, h7⟩ := h
 exact ⟨h1.setCell (by simp) _, ⟨A, c, zCi h2 (by simp) _, h3⟩, ⟨A', c', zCi h4 (by simp) _, h5⟩, zCi h6 (by simp) _, zCi h7 (by simp) _⟩
theorem ItR.set4 {w0 W : World} {lo hi : List Int} {most : Nat} (h : ItR w0 lo hi most W) : ItR w0 lo hi most (W.setCell ⟨w0.heap.size + 4, 0, none⟩ (.bool false)) := by
 obtain ⟨h1, ⟨A, c, h2, h3⟩, ⟨A', c', h4, h5⟩, h6, h7⟩ := h
 exact ⟨h1.setCell (by simp) _, ⟨A, c, zCi h2 (by simp) _, h3⟩, ⟨A', c', zCi h4 (by simp) _, h5⟩, zCi h6 (by simp) _, by rw [zCf h7 0 (.bool false)]; rfl⟩
set_option maxHeartbeats 4000000 in
set_option maxRecDepth 100000 in
theorem each_any (w0 : World) (lo hi : List Int) (most : Nat) (W : World) (acc : List It) (A B : Option Addr) (c d : Nat) (key val : List Int) (h : ItInv w0 lo hi most W acc) (hk : kB.C w0 A key.length key) (hkc : key.length ≤ c) (hv : kB.C w0 B val.length val) (hvc : val.length ≤ d) (hkl : key.length ≤ 256) (hvl : val.length ≤ 1100) (hn : insB lo hi key = true → acc.length < most) (hm : most ≤ 1000) (acc' : List It) (he : (if insB lo hi key then acc ++ [(key, val)] else acc) = acc') :
  Calls Tryz.prog 126 #[.slice A key.length c, .slice B val.length d, .pointer (some ⟨w0.heap.size, 0, none⟩), .pointer (some ⟨w0.heap.size + 1, 0, none⟩), .pointer (some ⟨w0.heap.size + 3, 0, none⟩), .pointer (some ⟨w0.heap.size + 2, 0, none⟩), .pointer (some ⟨w0.heap.size + 4, 0, none⟩)] W
   fun e w' => e = .returned (.bool true) ∧ ItInv w0 lo hi most w' acc' := by
 obtain ⟨Al, cl, l1, l2⟩ := h.l
 obtain ⟨Ah, ch, h1, h2⟩ := h.h
 obtain ⟨v, o1, o2⟩ := h.o
 have H := zA.mk h
 have HE := zA.mk he
 clear he
 have HC1 := zA.mk (compare_any A Al c cl key lo W (Kd.zBa hk h.below) (Kd.zBa l2 h.below))
 have HC2 := zA.mk (compare_any A Ah c ch key hi W (Kd.zBa hk h.below) (Kd.zBa h2 h.below))
 have c0 : W.cell? ⟨w0.heap.size, 0, none⟩ = some (.slice Al lo.length cl) := (zAb l1 0).trans rfl
 have c1 : W.cell? ⟨w0.heap.size + 1, 0, none⟩ = some (.slice Ah hi.length ch) := (zAb h1 0).trans rfl
 have hl0 := zAi l1
 have hl1 := zAi h1
 have HK := zA.mk (And.intro hk hkc)
 have HV := zA.mk (And.intro hv hvc)
 have HN := zA.mk hn
 have HO := zA.mk (And.intro o1 o2)
 have HM := zA.mk hm
 obtain ⟨ll, hll⟩ : ∃ ll, lo.length = ll := ⟨_, rfl⟩
 obtain ⟨hh, hhh⟩ : ∃ hh, hi.length = hh := ⟨_, rfl⟩
 obtain ⟨kl, hkl'⟩ : ∃ kl, key.length = kl := ⟨_, rfl⟩
 obtain ⟨vl, hvl'⟩ : ∃ vl, val.length = vl := ⟨_, rfl⟩
 have HKL := zA.mk hkl'
 have HVL := zA.mk hvl'
 rw [hkl'] at HC1 HC2 HK hkl ⊢
 rw [hvl'] at HV hvl ⊢
 rw [hll] at HC1 c0
 rw [hhh] at HC2 c1
 clear h l1 l2 h1 h2 o1 o2 hk hkc hv hvc hn hll hhh hkl' hvl'
 obtain ⟨x, hx⟩ : ∃ x, cmpI key lo = x := ⟨_, rfl⟩
 obtain ⟨y, hy⟩ : ∃ y, cmpI key hi = y := ⟨_, rfl⟩
 have HX := zA.mk (And.intro hx hy)
 rw [hx] at HC1
 rw [hy] at HC2
 clear hx hy
 obtain ⟨g, hg⟩ : ∃ g, w0.heap.size = g := ⟨_, rfl⟩
 have HG := zA.mk hg
 rw [hg] at c0 c1 hl0 hl1 HO ⊢
 clear hg
 by_cases hx0 : x < 0
 ·have t1 : decide (x < 0) = true := dt hx0
  have HI : zA (insB lo hi key = false) := ⟨by unfold insB; rw [HX.out.1, t1]; rfl⟩
  clear hx0
  go_enter Tryz.func126, Tryz.ntmps126
  go_wp2_with (go_at_call 127; refine HC1.out.mono ?_; rintro e w1 ⟨rfl, hw⟩; have hw2 := hw.symm; subst hw2; clear hw)
  go_ret
  have h9 := HE.out
  rw [HI.out] at h9
  exact ⟨rfl, by rw [← h9]; exact H.out⟩
 ·have t1 : decide (x < 0) = false := df hx0
  by_cases hy0 : 0 ≤ y
  ·have t2 : decide (0 ≤ y) = true := dt hy0
   have HI : zA (insB lo hi key = false) := ⟨by unfold insB; rw [HX.out.1, HX.out.2, df (show ¬ y < 0 by omega), Bool.and_false]⟩
   clear hx0 hy0
   go_enter Tryz.func126, Tryz.ntmps126
   go_wp2_with (first | (go_at_call_of 127 (Value.slice Ah hh ch); refine HC2.out.mono ?_; rintro e w1 ⟨rfl, hw⟩; have hw2 := hw.symm; subst hw2; clear hw) | (go_at_call 127; refine HC1.out.mono ?_; rintro e w1 ⟨rfl, hw⟩; have hw2 := hw.symm; subst hw2; clear hw))
   go_ret
   have h9 := HE.out
   rw [HI.out] at h9
   exact ⟨rfl, by rw [← h9]; exact H.out⟩
  ·have t2 : decide (0 ≤ y) = false := df hy0
   have HI : zA (insB lo hi key = true) := ⟨by unfold insB; rw [HX.out.1, HX.out.2, t1, dt (show y < 0 by omega)]; rfl⟩
   have hn := HN.out HI.out
   clear hx0 hy0
   have HA : zA (acc ++ [(key, val)] = acc') := ⟨by have h9 := HE.out; rw [HI.out] at h9; exact h9⟩
   obtain ⟨Ao, co, eo⟩ := Kd.zAk HO.out.2
   subst eo
   have hla : acc.length < 1000 := by have := HM.out; omega
   have c3 : W.cell? ⟨g + 3, 0, none⟩ = some (.slice Ao acc.length co) := (zAb HO.out.1 0).trans rfl
   have hq4 := H.out.q
   have hm2 := H.out.m
   rw [HG.out] at hq4 hm2
   have c2 : W.cell? ⟨g + 2, 0, none⟩ = some (.int .i64 most) := (zAb hm2 0).trans rfl
   have c4 : W.cell? ⟨g + 4, 0, none⟩ = some (.bool false) := (zAb hq4 0).trans rfl
   have f4 := zAd hq4 0
   have hl2 := zAi hm2
   have hl3 := zAi HO.out.1
   have hl4 := zAi hq4
   have HQ4 := zA.mk hq4
   have s1 : decide ((most : Int) ≤ (acc.length : Int)) = false := df (by omega)
   have s2 : decide (most ≤ acc.length) = false := df (by omega)
   have s1' : ¬ ((most : Int) ≤ (acc.length : Int)) := by omega
   clear hn hq4 hm2
   obtain ⟨na, hna⟩ : ∃ na, acc.length = na := ⟨_, rfl⟩
   have HNA := zA.mk hna
   rw [hna] at c3 s1 s1' s2 hla
   clear hna
   go_enter Tryz.func126, Tryz.ntmps126
   go_upto_region 6 with (first | (go_at_call_of 127 (Value.slice Ah hh ch); refine HC2.out.mono ?_; rintro e w1 ⟨rfl, hw⟩; have hw2 := hw.symm; subst hw2; clear hw) | (go_at_call 127; refine HC1.out.mono ?_; rintro e w1 ⟨rfl, hw⟩; have hw2 := hw.symm; subst hw2; clear hw))
   have HR5 : zA (ItR w0 lo hi most (W.setCell ⟨g + 4, 0, none⟩ (.bool false))) := ⟨by rw [← HG.out]; exact H.out.toItR.set4⟩
   have HO5 : zA ((W.setCell ⟨g + 4, 0, none⟩ (.bool false)).heap[g + 3]? = some (.cells #[.slice Ao na co] 88 (0, 0)) ∧ Kd.R kI 129 (W.setCell ⟨g + 4, 0, none⟩ (.bool false)) g (fun _ => True) (.slice Ao na co) acc) := ⟨⟨by rw [← HNA.out]; exact zCi HO.out.1 (by simp) _, by rw [← HNA.out]; exact Kd.R_set HO.out.2 HQ4.out (by decide) 0 _⟩⟩
   clear c0 c1 c2 c3 c4 f4 hl0 hl1 hl2 hl3 hl4
   generalize W.setCell ⟨g + 4, 0, none⟩ (.bool false) = W5 at HR5 HO5 ⊢
   have HCK : zA (∀ X, Below w0.heap.size w0 X → Calls Tryz.prog 87 #[.slice A kl c] X fun e w' => ∃ v, e = .returned v ∧ Kd.R kB 5 w' X.heap.size (fun _ => True) v key ∧ Below X.heap.size X w') := ⟨fun X hX => by
    have := cloneB_any A c key X (by rw [HKL.out]; exact Kd.zBa HK.out.1 hX) (by rw [HKL.out]; exact HK.out.2) (by rw [HKL.out]; omega)
    rw [HKL.out] at this
    exact this⟩
   have HCV : zA (∀ X, Below w0.heap.size w0 X → Calls Tryz.prog 87 #[.slice B vl d] X fun e w' => ∃ v, e = .returned v ∧ Kd.R kB 5 w' X.heap.size (fun _ => True) v val ∧ Below X.heap.size X w') := ⟨fun X hX => by
    have := cloneB_any B d val X (by rw [HVL.out]; exact Kd.zBa HV.out.1 hX) (by rw [HVL.out]; exact HV.out.2) (by rw [HVL.out]; omega)
    rw [HVL.out] at this
    exact this⟩
   have c3 : W5.drew.cell? ⟨g + 3, 0, none⟩ = some (.slice Ao na co) := (zAb (w := W5.drew) HO5.out.1 0).trans rfl
   have hl3 : g + 3 < W5.drew.heap.size := zAi HO5.out.1
   have HRd : zA (ItR w0 lo hi most W5.drew) := ⟨HR5.out.keep (zAf (Below.refl _ _))⟩
   have HOd : zA (W5.drew.heap[g + 3]? = some (.cells #[.slice Ao na co] 88 (0, 0)) ∧ Kd.R kI 129 W5.drew g (fun _ => True) (.slice Ao na co) acc) := ⟨⟨HO5.out.1, Kd.zEa HO5.out.2⟩⟩
   refine Go.Proofs.YtpckachmleonlaaGreatDoorW.PrintLast.start_ (n := 9) (S := fun w' => w'.cell? ⟨g + 3, 0, none⟩ = some (.slice Ao na co)) (ds := [8]) #[false, false, false, false, false, false, false, false, false] (by kernel_rfl) rfl rfl c3 (fun hHeld => ?_)
   refine Go.Proofs.YtpckachmleonlaaGreatDoorW.PrintLast.take_ (i := 0) (N := some 25) (v := ?_) (a' := ?_) #[true, false, false, false, false, false, false, false, false] rfl rfl (by kernel_rfl) (fun _ _ _ h => h) (Or.inl ⟨by rfl, ?_⟩) hHeld ?_ ?_
   rotate_left
   ·intro w' s0
    go_simp
    with_reducible rfl
   rotate_left
   ·simp only [Act.put, List.setIfInBounds_toArray, List.set_cons_zero, List.set_cons_succ]
    rfl
   refine Go.Proofs.YtpckachmleonlaaGreatDoorW.PrintLast.pure_ (i := 1) (N := some 26) (v := ?_) (a' := ?_) #[true, true, false, false, false, false, false, false, false] rfl rfl (by kernel_rfl) (fun _ _ _ h => h) (Or.inl ⟨by rfl, ?_⟩) ?_ ?_
   rotate_left
   ·intro w'
    go_simp
    with_reducible rfl
   rotate_left
   ·simp only [Act.put, List.setIfInBounds_toArray, List.set_cons_zero, List.set_cons_succ]
    rfl
   refine Go.Proofs.YtpckachmleonlaaGreatDoorW.PrintLast.pure_ (i := 3) (N := some 28) (v := ?_) (a' := ?_) #[true, true, false, true, false, false, false, false, false] rfl rfl (by kernel_rfl) (fun _ _ _ h => h) (Or.inl ⟨by rfl, ?_⟩) ?_ ?_
   rotate_left
   ·intro w'
    go_simp
    with_reducible rfl
   rotate_left
   ·simp only [Act.put, List.setIfInBounds_toArray, List.set_cons_zero, List.set_cons_succ]
    rfl
   refine Go.Proofs.YtpckachmleonlaaGreatDoorW.PrintLast.one_ (i := 2) (N := some 27) #[true, true, true, true, false, false, false, false, false] rfl rfl (by kernel_rfl) (by decide) (fun K hK => ?_)
   first | (go_at_call_of 87 (Value.slice A kl c); refine (HCK.out _ HRd.out.below).mono ?_; rintro e6 W6 ⟨v6, rfl, hr, hb⟩; obtain ⟨inner, how⟩ := Kd.R_own HOd.out.2; have HR6 := zA.mk (Kd.zDk (base' := g) (Kd.R_new hr how) (by have h9 := HRd.out.below.size; rw [HG.out] at h9; exact h9)); have HQ6 := zA.mk (HRd.out.keep hb); have HO6 : zA (W6.heap[g + 3]? = some (.cells #[.slice Ao na co] 88 (0, 0)) ∧ Kd.R kI 129 W6 g (fun _ => True) (.slice Ao na co) acc) := ⟨zAe HOd.out.1 hb, Kd.zEk HOd.out.2 hb⟩; have c36 : W6.cell? ⟨g + 3, 0, none⟩ = some (.slice Ao na co) := (zAb HO6.out.1 0).trans rfl; have hl36 := zAi HO6.out.1; clear hr hb how; obtain ⟨A6, c6, e6⟩ := Kd.zAk HR6.out; rw [HKL.out] at e6; subst e6) | (go_simp; go_at_call_of 87 (Value.slice A kl c); refine (HCK.out _ HRd.out.below).mono ?_; rintro e6 W6 ⟨v6, rfl, hr, hb⟩; obtain ⟨inner, how⟩ := Kd.R_own HOd.out.2; have HR6 := zA.mk (Kd.zDk (base' := g) (Kd.R_new hr how) (by have h9 := HRd.out.below.size; rw [HG.out] at h9; exact h9)); have HQ6 := zA.mk (HRd.out.keep hb); have HO6 : zA (W6.heap[g + 3]? = some (.cells #[.slice Ao na co] 88 (0, 0)) ∧ Kd.R kI 129 W6 g (fun _ => True) (.slice Ao na co) acc) := ⟨zAe HOd.out.1 hb, Kd.zEk HOd.out.2 hb⟩; have c36 : W6.cell? ⟨g + 3, 0, none⟩ = some (.slice Ao na co) := (zAb HO6.out.1 0).trans rfl; have hl36 := zAi HO6.out.1; clear hr hb how; obtain ⟨A6, c6, e6⟩ := Kd.zAk HR6.out; rw [HKL.out] at e6; subst e6)
   all_goals try go_wp2_with fail
   refine hK.out _ _ c36 (fun hHeld => ?_)
   clear hK K
   try simp only [Act.put, List.setIfInBounds_toArray, List.set_cons_zero, List.set_cons_succ]
   refine Go.Proofs.YtpckachmleonlaaGreatDoorW.PrintLast.one_ (i := 4) (N := some 29) #[true, true, true, true, true, false, false, false, false] rfl rfl (by kernel_rfl) (by decide) (fun K hK => ?_)
   first | (go_at_call_of 87 (Value.slice B vl d); refine (HCV.out _ HQ6.out.below).mono ?_; rintro e7 W7 ⟨v7, rfl, hr, hb⟩; obtain ⟨inner7, how⟩ := Kd.R_own HO6.out.2; have HR7 := zA.mk (Kd.zDk (base' := g) (Kd.R_new hr how) (by have h9 := HQ6.out.below.size; rw [HG.out] at h9; exact h9)); have HR67 := zA.mk (Kd.zEk HR6.out hb); have HQ7 := zA.mk (HQ6.out.keep hb); have HO7 : zA (W7.heap[g + 3]? = some (.cells #[.slice Ao na co] 88 (0, 0)) ∧ Kd.R kI 129 W7 g (fun _ => True) (.slice Ao na co) acc) := ⟨zAe HO6.out.1 hb, Kd.zEk HO6.out.2 hb⟩; have c37 : W7.cell? ⟨g + 3, 0, none⟩ = some (.slice Ao na co) := (zAb HO7.out.1 0).trans rfl; have hl37 := zAi HO7.out.1; have c37a : ∀ o, (W7.alloc o).cell? ⟨g + 3, 0, none⟩ = some (.slice Ao na co) := fun o => (zAb (zAe HO7.out.1 (zAa (Below.refl _ _) o)) 0).trans rfl; clear hr hb how; obtain ⟨A7, c7, e7⟩ := Kd.zAk HR7.out; rw [HVL.out] at e7; subst e7) | (go_simp; go_at_call_of 87 (Value.slice B vl d); refine (HCV.out _ HQ6.out.below).mono ?_; rintro e7 W7 ⟨v7, rfl, hr, hb⟩; obtain ⟨inner7, how⟩ := Kd.R_own HO6.out.2; have HR7 := zA.mk (Kd.zDk (base' := g) (Kd.R_new hr how) (by have h9 := HQ6.out.below.size; rw [HG.out] at h9; exact h9)); have HR67 := zA.mk (Kd.zEk HR6.out hb); have HQ7 := zA.mk (HQ6.out.keep hb); have HO7 : zA (W7.heap[g + 3]? = some (.cells #[.slice Ao na co] 88 (0, 0)) ∧ Kd.R kI 129 W7 g (fun _ => True) (.slice Ao na co) acc) := ⟨zAe HO6.out.1 hb, Kd.zEk HO6.out.2 hb⟩; have c37 : W7.cell? ⟨g + 3, 0, none⟩ = some (.slice Ao na co) := (zAb HO7.out.1 0).trans rfl; have hl37 := zAi HO7.out.1; have c37a : ∀ o, (W7.alloc o).cell? ⟨g + 3, 0, none⟩ = some (.slice Ao na co) := fun o => (zAb (zAe HO7.out.1 (zAa (Below.refl _ _) o)) 0).trans rfl; clear hr hb how; obtain ⟨A7, c7, e7⟩ := Kd.zAk HR7.out; rw [HVL.out] at e7; subst e7)
   all_goals try go_wp2_with fail
   refine hK.out _ _ c37 (fun hHeld => ?_)
   clear hK K
   try simp only [Act.put, List.setIfInBounds_toArray, List.set_cons_zero, List.set_cons_succ]
   refine Go.Proofs.YtpckachmleonlaaGreatDoorW.PrintLast.pure_ (i := 5) (N := some 30) (v := ?_) (a' := ?_) #[true, true, true, true, true, true, false, false, false] rfl rfl (by kernel_rfl) (fun _ _ _ h => h) (Or.inl ⟨by rfl, ?_⟩) ?_ ?_
   rotate_left
   ·intro w'
    go_simp
    with_reducible rfl
   rotate_left
   ·simp only [Act.put, List.setIfInBounds_toArray, List.set_cons_zero, List.set_cons_succ]
    rfl
   refine Go.Proofs.YtpckachmleonlaaGreatDoorW.PrintLast.one_ (i := 6) (N := some 31) #[true, true, true, true, true, true, true, false, false] rfl rfl (by kernel_rfl) (by decide) (fun K hK => ?_)
   go_simp
   refine hK.out _ _ (c37a _) (fun hHeld => ?_)
   clear hK K
   try simp only [Act.put, List.setIfInBounds_toArray, List.set_cons_zero, List.set_cons_succ]
   refine Go.Proofs.YtpckachmleonlaaGreatDoorW.PrintLast.one_ (i := 7) (N := some 32) #[true, true, true, true, true, true, true, true, false] rfl rfl (by kernel_rfl) (by decide) (fun K hK => ?_)
   refine Kd.R_append_step kI (w0 := w0) g (by rfl) (.tmp 25) (.tmp 31) 88 129 (.agg #[.slice none 0 0, .slice none 0 0]) 48 rfl Tryz.underlying88 info129 rfl (by decide) (by omega) (.slice Ao na co) acc (key, val) [.slice A6 kl c6, .slice A7 vl c7] (fun _ => True) _ rfl rfl ⟨[.slice A6 kl c6], [.slice A7 vl c7], rfl, ⟨_, rfl, HR67.out⟩, ⟨_, rfl, HR7.out⟩⟩ (fun k hk => hk) (fun _ _ => trivial) HO7.out.2 (by rw [← HG.out]; exact HQ7.out.below) (by have h9 := HQ7.out.below.size; rw [HG.out] at h9; exact h9) (by rw [HNA.out]; omega) ?_; intro v9 W9 ho hb hg hat; have HO9 := zA.mk ho; have HQ9 : zA (ItR w0 lo hi most W9) := ⟨HQ7.out.grown (v := .slice Ao na co) (xs := acc) (by rw [HG.out]; exact HO7.out.2) hg⟩; have HG9 := zA.mk (zCg HO7.out.1 hg (Kd.R_ne HO7.out.2 HO7.out.1 (by decide))); have c39 : W9.cell? ⟨g + 3, 0, none⟩ = some (.slice Ao na co) := (zAb HG9.out 0).trans rfl; have f39 := zAd HG9.out 0; have hl39 := zAi HG9.out; clear ho hb hg hat; obtain ⟨A9, c9, e9⟩ := Kd.zAk HO9.out; rw [List.length_append, List.length_singleton, HNA.out] at e9; subst e9
   refine hK.out _ _ c39 (fun hHeld => ?_)
   clear hK K
   try simp only [Act.put, List.setIfInBounds_toArray, List.set_cons_zero, List.set_cons_succ]
   refine Go.Proofs.YtpckachmleonlaaGreatDoorW.PrintLast.last_ (i := 8) (N := none) #[true, true, true, true, true, true, true, true, true] rfl rfl (by kernel_rfl) (by decide) (fun K hK => ?_)
   go_simp
   refine hK.out _ _ ?_
   clear hK K
   refine Go.Proofs.YtpckachmleonlaaGreatDoorW.PrintLast.done_ (by kernel_rfl) ?_
   all_goals
    go_wp2_with fail
    go_ret
    refine ⟨rfl, by have h9 := HQ9.out.set3 (.slice A9 (na + 1) c9); rw [HG.out] at h9; exact h9, .slice A9 (na + 1) c9, by rw [HG.out, zCf HG9.out 0 (.slice A9 (na + 1) c9)]; rfl, ?_⟩
    rw [← HA.out, HG.out]
    exact Kd.R_set HO9.out HG9.out (by decide) 0 _
end Go.Proofs.YtpckachmleonlaaGreatDoor
end
