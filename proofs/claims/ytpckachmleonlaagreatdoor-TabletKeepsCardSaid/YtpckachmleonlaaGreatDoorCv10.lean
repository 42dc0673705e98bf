/- Words and walks for Split and Tablet: texts of these sessions, and of the kit's print, cut down to what is used (L M N). -/
import Derived.Test.YtpckachmleonlaaGreatDoorCv9
import Derived.Test.YtpckachmleonlaaGreatDoorCv2
section
set_option linter.unusedVariables false
set_option linter.unusedSimpArgs false
namespace Go.Proofs.YtpckachmleonlaaGreatDoor
open Go.RowKit Go.Proofs.YtpckachmleonlaaGreatDoorW.PrintWords
def Same_ (ok : Nat → Prop) (w W : World) : Prop := ∀ k, ok k → k < w.heap.size → W.heap[k]? = w.heap[k]?
def FF (P : World → Prop) (ok : Nat → Prop) (w : World) : Prop := ∀ W, Same_ ok w W → P W
section
variable {P Q : World → Prop} {ok ok' : Nat → Prop} {w w1 : World}
theorem Same_.refl : Same_ ok w w := fun _ _ _ => rfl
theorem Same_.of_below (hb : Below w.heap.size w w1) : Same_ ok w w1 := fun k _ hk => hb.block k hk
theorem Same_.trans {w2 : World} (h : Same_ ok w w1) (k : Same_ ok w1 w2) : Same_ ok w w2 := fun j hj hl => by
  have h1 := h j hj hl
  have h2 : j < w1.heap.size := by
    rcases Nat.lt_or_ge j w1.heap.size with h2 | h2
    · exact h2
    · rw [Array.getElem?_eq_none h2, Array.getElem?_eq_getElem hl] at h1
      cases h1
  exact (k j hj h2).trans h1
theorem FF.now (h : FF P ok w) : P w := h w Same_.refl
theorem FF.mono (h : FF P ok w) (hk : ∀ k, ok k → ok' k) : FF P ok' w := fun W hW => h W (fun k h1 h2 => hW k (hk k h1) h2)
theorem FF.lt (h : FF P ok w) : FF P (fun k => ok k ∧ k < w.heap.size) w := fun W hW => h W (fun k h1 h2 => hW k ⟨h1, h2⟩ h2)
theorem FF.step (h : FF P ok w) (hs : Same_ ok w w1) : FF P ok w1 := fun W hW => h W (hs.trans hW)
theorem FF.keep (h : FF P ok w) (hb : Below w.heap.size w w1) : FF P ok w1 := h.step (.of_below hb)
theorem FF.imp (h : FF P ok w) (hq : ∀ W, P W → Q W) : FF Q ok w := fun W hW => hq W (h W hW)
theorem FF.set (h : FF P ok w) (p : Addr) (hp : ¬ ok p.block) (u : Value) : FF P ok (w.setCell p u) := h.step fun k hk _ => Below.heap_setCell w p u k (fun e => hp (e ▸ hk))
end
theorem R_FF {α : Type} {d : Kd α} {e base : Nat} {w : World} {ok : Nat → Prop} {A : Option Addr} {n c : Nat} {xs : List α} (h : Kd.R d e w base ok (.slice A n c) xs) : FF (fun W => Kd.C d W A n xs ∧ n = xs.length ∧ n ≤ c) (fun k => base ≤ k) w := fun W hW => by
  have h1 := Kd.R_bound h
  have h2 := Kd.R_move h1 (w1 := W) (fun k hk => hW k hk.2.1 hk.2.2.1)
  obtain ⟨A', c', e, h3, h4⟩ := Kd.zGa h2
  injection e with e1 e2 e3
  subst e1 e2 e3
  exact ⟨h4, rfl, h3⟩
structure Hd where
  A : Option Addr
  n : Nat
  c : Nat
def Hd.v (h : Hd) : Value := .slice h.A h.n h.c
abbrev kS : Kd Hd := Kd.scalar Hd.v (fun _ => rfl)
def ptrV (o : Option Nat) : Value := .pointer (o.map fun g => ⟨g, 0, none⟩)
abbrev kP : Kd (Option Nat) := Kd.scalar ptrV (fun _ => rfl)
structure BAt (w : World) (h : Hd) (l : List Int) : Prop where
  n : h.n = l.length
  c : l.length ≤ h.c
  row : Kd.C kB w h.A l.length l
theorem BAt.heap {w w' : World} {h : Hd} {l : List Int} (b : BAt w h l) (hb : ∀ k, k < w.heap.size → w'.heap[k]? = w.heap[k]?) : BAt w' h l := ⟨b.n, b.c, (Kd.heap_int .u8).C hb b.row⟩
theorem BAt.keep {w w' : World} {h : Hd} {l : List Int} (b : BAt w h l) (hb : Below w.heap.size w w') : BAt w' h l := b.heap hb.block
theorem BAt_FF {w : World} {e base : Nat} {ok : Nat → Prop} {A : Option Addr} {n c : Nat} {l : List Int} (h : Kd.R kB e w base ok (.slice A n c) l) : FF (fun W => BAt W ⟨A, n, c⟩ l) (fun k => base ≤ k) w := (R_FF h).imp fun W ⟨h1, h2, h3⟩ => ⟨h2, h2 ▸ h3, h2 ▸ h1⟩
abbrev Jt := (Hd × List Int) × (Hd × List Int)
def Jt.it (j : Jt) : It := (j.1.2, j.2.2)
structure RAt (w : World) (A : Option Addr) (c : Nat) (ys : List (Hd × List Int)) : Prop where
  row : Kd.C kS w A ys.length (ys.map (·.1))
  c : ys.length ≤ c
  b : ∀ y ∈ ys, BAt w y.1 y.2
structure PAt (w : World) (A : Option Addr) (c : Nat) (ks : List (Option Nat)) : Prop where
  row : Kd.C kP w A ks.length ks
  c : ks.length ≤ c
structure zEa (ok : Nat → Prop) (w : World) (g n : Nat) (js : List Jt) (ks : List (Option Nat)) (h : List Int) (m : Nat) : Prop where
  okg : ok g
  ex : ∃ Ak ck Av cv Ac cc As cs, w.heap[g]? = some (.cells #[.int .i64 n, .slice Ak js.length ck, .slice Av js.length cv, .slice Ac ks.length cc, .slice As h.length cs, .int .i64 m] 150 (0, 0)) ∧
    FF (fun W => RAt W Ak ck (js.map (·.1))) ok w ∧ FF (fun W => RAt W Av cv (js.map (·.2))) ok w ∧ FF (fun W => PAt W Ac cc ks) ok w ∧ FF (fun W => BAt W ⟨As, h.length, cs⟩ h) ok w
section
variable {ok ok' : Nat → Prop} {w w' : World} {g n : Nat} {js : List Jt} {ks : List (Option Nat)} {h : List Int} {m : Nat}
theorem zEa.step (H : zEa ok w g n js ks h m) (hs : Same_ ok w w') : zEa ok w' g n js ks h m := by
  obtain ⟨Ak, ck, Av, cv, Ac, cc, As, cs, h1, h2, h3, h4, h5⟩ := H.ex
  exact ⟨H.okg, Ak, ck, Av, cv, Ac, cc, As, cs, (hs g H.okg (zAj h1)).trans h1, h2.step hs, h3.step hs, h4.step hs, h5.step hs⟩
theorem zEa.mono (H : zEa ok w g n js ks h m) (hk : ∀ k, ok k → ok' k) : zEa ok' w g n js ks h m := by
  obtain ⟨Ak, ck, Av, cv, Ac, cc, As, cs, h1, h2, h3, h4, h5⟩ := H.ex
  exact ⟨hk g H.okg, Ak, ck, Av, cv, Ac, cc, As, cs, h1, h2.mono hk, h3.mono hk, h4.mono hk, h5.mono hk⟩
theorem zEa.lt (H : zEa ok w g n js ks h m) : zEa (fun k => ok k ∧ k < w.heap.size) w g n js ks h m := by
  obtain ⟨Ak, ck, Av, cv, Ac, cc, As, cs, h1, h2, h3, h4, h5⟩ := H.ex
  exact ⟨⟨H.okg, zAj h1⟩, Ak, ck, Av, cv, Ac, cc, As, cs, h1, h2.lt, h3.lt, h4.lt, h5.lt⟩
end
abbrev Kid := Option Nat × List It
def partL (js : List Jt) (zs : List Kid) : List It := inter (zs.map (·.2)) (js.map Jt.it)
inductive PartAt (ok : Nat → Prop) (w : World) : Option Nat → List It → Prop
  | nil_ : PartAt ok w none []
  | node_ {g n : Nat} {js : List Jt} {zs : List Kid} : zEa ok w g n js (zs.map (·.1)) (hashT (partL js zs)) (partL js zs).length → LvOk n (zs.map (·.2)) (js.map Jt.it) → js ≠ [] → (∀ z ∈ zs, PartAt ok w z.1 z.2) → PartAt ok w (some g) (partL js zs)
section
variable {ok ok' : Nat → Prop} {w w' : World} {o : Option Nat} {l : List It}
theorem PartAt.step (h : PartAt ok w o l) (hs : Same_ ok w w') : PartAt ok w' o l := by
  induction h with
  | nil_ => exact .nil_
  | node_ h1 h2 h3 _ ih => exact .node_ (h1.step hs) h2 h3 ih
theorem PartAt.keep (h : PartAt ok w o l) (hb : Below w.heap.size w w') : PartAt ok w' o l := h.step (.of_below hb)
theorem PartAt.mono (h : PartAt ok w o l) (hk : ∀ k, ok k → ok' k) : PartAt ok' w o l := by
  induction h with
  | nil_ => exact .nil_
  | node_ h1 h2 h3 _ ih => exact .node_ (h1.mono hk) h2 h3 ih
theorem PartAt.lt (h : PartAt ok w o l) : PartAt (fun k => ok k ∧ k < w.heap.size) w o l := by
  induction h with
  | nil_ => exact .nil_
  | node_ h1 h2 h3 _ ih => exact .node_ h1.lt h2 h3 ih
end
structure ItOk (l : List It) : Prop where
  n : l.length ≤ 100
  k : ∀ x ∈ l, x.1.length ≤ 256 ∧ x.2.length ≤ 1100 ∧ IsB x.1
end Go.Proofs.YtpckachmleonlaaGreatDoor
end
section
set_option linter.unusedVariables false
set_option linter.unusedSimpArgs false
namespace Go.Proofs.YtpckachmleonlaaGreatDoor
open Go.RowKit Go.Proofs.YtpckachmleonlaaGreatDoorW.PrintWords
theorem info47 : (Tryz.prog.info? 47).map (fun i => (i.zero, i.size, i.bytes)) = some (some (.slice none 0 0), 1, 24) := by kernel_rfl
theorem info110 : (Tryz.prog.info? 110).map (fun i => (i.zero, i.size, i.bytes)) = some (some (.pointer none), 1, 8) := by kernel_rfl
def rd_G {α : Type} (xs : List (List α)) (i : Nat) : List α := xs.getD i []
def fltG {α : Type} (l : List (List α)) (i : Nat) : List α := (l.take i).flatten
theorem fltG_le {α : Type} (l : List (List α)) (i : Nat) : (fltG l i).length ≤ l.flatten.length := by
 unfold fltG
 conv => rhs; rw [← List.take_append_drop i l, List.flatten_append]
 simp
theorem zEj {α : Type} {l : List (List α)} {i : Nat} (h : i < l.length) : fltG l (i + 1) = fltG l i ++ rd_G l i := by
 unfold fltG rd_G
 rw [List.take_succ_eq_append_getElem h, List.flatten_append, List.getD_eq_getElem?_getD, List.getElem?_eq_getElem h]
 simp
theorem rowG {α : Type} {d : Kd α} {e : Nat} {w : World} {A : Option Addr} {n : Nat} {xs : List (List α)} (h : Kd.C (Kd.slice e d) w A n xs) (i : Nat) (h1 : i < n) : ∃ ad A0 c0, A = some ad ∧ ad.block < w.heap.size ∧ w.cell? (ad.add i) = some (.slice A0 (rd_G xs i).length c0) ∧ (rd_G xs i).length ≤ c0 ∧ d.C w A0 (rd_G xs i).length (rd_G xs i) := by
 obtain ⟨ad, c, e, _, hK, hc0⟩ := Kd.C_get h ([] : List α) (i : Int) (by omega) (by omega)
 have hc : ∀ j u, c[j]? = some u → w.cell? (ad.add (i * 1 + j)) = some u := hc0
 obtain ⟨A0, c0, rfl, l0, g0⟩ := hK
 have hq := hc 0 _ rfl
 rw [Nat.mul_one, Nat.add_zero] at hq
 refine ⟨ad, A0, c0, e, ?_, hq, l0, g0⟩
 have := World.block_lt_of_cell? w _ hq
 unfold Addr.add at this
 split at this <;> exact this
set_option maxHeartbeats 1000000 in
theorem cloneS_any (A : Option Addr) (c : Nat) (l : List (Hd)) (w : World) (hr : Kd.C kS w A l.length l) (hc : l.length ≤ c) (hl : l.length ≤ 1000000) :
  Calls Tryz.prog 160 #[.slice A l.length c] w fun e w' => ∃ v, e = .returned v ∧ Kd.R kS 47 w' w.heap.size (fun _ => True) v l ∧ Below w.heap.size w w' := by
 have HR := zAa.mk hr
 cases A with
 | none =>
  have h0 : l = [] := by
   rcases Nat.eq_zero_or_pos l.length with h | h
   ·exact List.eq_nil_of_length_eq_zero h
   ·obtain ⟨ad, e, _⟩ := hr.2.2 h
    cases e
  subst h0
  have hq := fun w => Lib.run_eql_slice_nil (P := Tryz.prog) w 104 47 none 0 c 0 0 Tryz.underlying104
  clear hr
  go_enter Tryz.func160, Tryz.ntmps160
  go_wp2
  go_ret
  exact ⟨_, rfl, Kd.R_nil _ _ _ _ _, Below.refl _ _⟩
 | some ad =>
  have hq := fun w => Lib.run_eql_slice_nil (P := Tryz.prog) w 104 47 (some ad) l.length c 0 0 Tryz.underlying104
  clear hr
  have HO : zAa ((kS).R 47 (w.alloc (.cells #[] 47)) w.heap.size (fun _ => True) (.slice (some ⟨w.heap.size, 0, none⟩) 0 0) []) := ⟨Kd.R_of_own (World.ownsRow_made w #[] 0 (Nat.le_refl _) (by unfold maxLen; omega) rfl) (fun _ _ => trivial)⟩
  have HC : zAa (zD ((kS).K w) (kS).sz (w.alloc (.cells #[] 47)) (some ad) l.length l) := ⟨zD.imp_ HR.out ((Below.refl _ _).alloc (Nat.le_refl _) _) (fun _ _ h => h)⟩
  go_enter Tryz.func160, Tryz.ntmps160
  go_wp2_with (at_builtin; refine Kd.zDf kS (w0 := w) w.heap.size rfl (.tmp 5) (.tmp 6) 104 47 (.slice none 0 0) 24 rfl Tryz.underlying104 info47 rfl (by decide) (by omega) (.slice (some ⟨w.heap.size, 0, none⟩) 0 0) [] l (some ad) l.length c (fun _ => True) (fun _ => False) rfl rfl HO.out HC.out (fun x cs h => h) (fun _ hk => hk.elim) (fun _ _ => trivial) ((Below.refl _ _).alloc (Nat.le_refl _) _) (by simp) (by simp; omega) ?_; intro v1 w1 ho hb _ _)
  go_ret
  exact ⟨_, rfl, ho, hb⟩
set_option maxHeartbeats 1000000 in
theorem growS_nil (n : Nat) (w : World) (hn : n ≤ 1000000) :
  Calls Tryz.prog 180 #[.slice none 0 0, .int .i64 n] w fun e w' => ∃ v, e = .returned v ∧ Kd.R kS 47 w' w.heap.size (fun _ => True) v [] ∧ Below w.heap.size w w' := by
 rcases Nat.eq_zero_or_pos n with h0 | h0
 ·subst h0
  go_enter Tryz.func180, Tryz.ntmps180
  go_wp2_with fail
  go_ret
  exact ⟨_, rfl, Kd.R_nil _ _ _ _ _, Below.refl _ _⟩
 ·have h1 : (0 : Int) < (n : Int) := by omega
  have hto : ((n : Int)).toNat = n := by omega
  go_enter Tryz.func180, Tryz.ntmps180
  go_wp2_with (at_builtin; refine Kd.R_append_zeros kS (w0 := w) w.heap.size rfl (.tmp 20) (.tmp 21) 104 3 47 (.slice none 0 0) 24 rfl Tryz.underlying104 Tryz.underlying3 info47 rfl (by decide) (by omega) (.slice none 0 0) [] ⟨none, 0, 0⟩ (n : Int) (fun _ => True) rfl rfl rfl (fun _ _ => trivial) (Kd.R_nil _ _ _ _ _) (by omega) (Below.refl _ _) (Nat.le_refl _) (by simp; omega) ?_; intro v1 w2 ho hb _ _; have HO := zAa.mk ho; have HB := zAa.mk hb; clear ho hb; obtain ⟨A, c1, e1⟩ := Kd.zAk HO.out; subst e1)
  go_ret
  exact ⟨_, rfl, Kd.R_take (m := 0) HO.out (by omega), HB.out⟩
set_option maxHeartbeats 1000000 in
theorem concatS_any (A : Option Addr) (c : Nat) (l : List (List (Hd))) (w : World) (hr : Kd.C (Kd.slice 47 kS) w A l.length l) (hl : l.length ≤ 1000) (ht : l.flatten.length ≤ 1000000) :
  Calls Tryz.prog 174 #[.slice A l.length c] w fun e w' => ∃ v, e = .returned v ∧ Kd.R kS 47 w' w.heap.size (fun _ => True) v l.flatten ∧ Below w.heap.size w w' := by
 have HR := zAa.mk hr
 obtain ⟨n, hn⟩ : ∃ n, l.length = n := ⟨_, rfl⟩
 have HN := zAa.mk hn
 obtain ⟨m, hm⟩ : ∃ m, l.flatten.length = m := ⟨_, rfl⟩
 have HM := zAa.mk hm
 rw [hn] at hl HR ⊢
 rw [hm] at ht
 clear hr hn hm
 go_enter Tryz.func174, Tryz.ntmps174
 go_wp2_with fail
 go_loop [3, 11] (fun vs vi => ∃ i s : Nat, i ≤ n ∧ s ≤ m ∧ vi = .int .i64 i ∧ vs = .int .i64 s ∧ zAa ((fltG l i).length = s)) (fun _ vi => n - (intOf vi).toNat)
 case atStart => exact ⟨0, 0, by omega, by omega, rfl, rfl, ⟨rfl⟩⟩
 case round =>
  obtain ⟨i, s, hi, hs, rfl, rfl, HS⟩ := hrel
  by_cases hlt : i < n
  ·obtain ⟨ad, A0, c0, rfl, hb, h1, h2, h3⟩ := rowG HR.out i hlt
   have h4 : (i : Int) < n := by omega
   have hle : s + (rd_G l i).length ≤ m := by
    have h5 := fltG_le l (i + 1)
    rw [zEj (by rw [HN.out]; exact hlt), HM.out, List.length_append, HS.out] at h5
    exact h5
   have h6 : ¬ ((s : Int) + ((rd_G l i).length : Int) < 0) := by omega
   have h7 : decide ((s : Int) + ((rd_G l i).length : Int) < 0) = false := df h6
   clear h3
   go_wp2_with fail
   go_round
   case rel => exact ⟨i + 1, s + (rd_G l i).length, by omega, by omega, by go_num, by go_num, ⟨by rw [zEj (by rw [HN.out]; exact hlt), List.length_append, HS.out]⟩⟩
   case measure => simp [intOf]; omega
  ·obtain rfl : i = n := by omega
   have hsm : s = m := by rw [← HS.out, ← HM.out]; unfold fltG; rw [List.take_of_length_le (by rw [HN.out]; exact Nat.le_refl _)]
   subst hsm
   go_wp2_with fail
   refine (growS_nil s w (by omega)).mono ?_
   rintro e w1 ⟨v, rfl, hr, hb⟩
   have HG := zAa.mk hr
   have HB := zAa.mk hb
   clear hr hb
   obtain ⟨A1, c1, e1⟩ := Kd.zAk HG.out
   subst e1
   go_wp2_with fail
   go_loopw [6, 27] (fun vv vj w' => ∃ j : Nat, j ≤ i ∧ vj = .int .i64 j ∧ zAa (Kd.R kS 47 w' w.heap.size (fun _ => True) vv (fltG l j)) ∧ zAa (Below w.heap.size w w')) (fun _ vj _ => i - (intOf vj).toNat)
   case atStart => exact ⟨0, by omega, rfl, HG, HB⟩
   case round =>
    obtain ⟨j, hj, rfl, HV, HW⟩ := hrel
    by_cases hjl : j < i
    ·obtain ⟨ad, A0, c0, rfl, hb, h1, h2, h3⟩ := rowG (Kd.zBb HR.out HW.out) j hjl
     have h4 : (j : Int) < i := by omega
     have HC := zAa.mk h3
     have HL : zAa ((fltG l j).length + (rd_G l j).length ≤ 1000000) := ⟨by
      have h5 := fltG_le l (j + 1)
      rw [zEj (by rw [HN.out]; exact hjl), HM.out, List.length_append] at h5
      omega⟩
     clear h3
     obtain ⟨A2, c2, e2⟩ := Kd.zAk HV.out
     subst e2
     go_wp2_with (at_builtin; refine Kd.zDf kS (w0 := w) w.heap.size rfl (.tmp 31) (.tmp 32) 104 47 (.slice none 0 0) 24 rfl Tryz.underlying104 info47 rfl (by decide) (by omega) (.slice A2 (fltG l j).length c2) (fltG l j) (rd_G l j) A0 (rd_G l j).length c0 (fun _ => True) (fun _ => False) rfl rfl HV.out HC.out (fun x cs h => h) (fun _ hk => hk.elim) (fun _ _ => trivial) HW.out HW.out.size (by have := HL.out; omega) ?_; intro v1 w2 ho hb _ _)
     rw [← zEj (by rw [HN.out]; exact hjl)] at ho
     have HO := zAa.mk ho
     have HB2 := zAa.mk hb
     clear ho hb
     go_roundw
     case rel => exact ⟨j + 1, by omega, by go_num, HO, HB2⟩
     case measure => simp [intOf]; omega
    ·obtain rfl : j = i := by omega
     have HF : zAa (fltG l j = l.flatten) := ⟨by unfold fltG; rw [List.take_of_length_le (by rw [HN.out]; exact Nat.le_refl _)]⟩
     go_wp2_with fail
     go_ret
     exact ⟨_, rfl, HF.out ▸ HV.out, HW.out⟩
set_option maxHeartbeats 1000000 in
theorem cloneP_any (A : Option Addr) (c : Nat) (l : List (Option Nat)) (w : World) (hr : Kd.C kP w A l.length l) (hc : l.length ≤ c) (hl : l.length ≤ 1000000) :
  Calls Tryz.prog 163 #[.slice A l.length c] w fun e w' => ∃ v, e = .returned v ∧ Kd.R kP 110 w' w.heap.size (fun _ => True) v l ∧ Below w.heap.size w w' := by
 have HR := zAa.mk hr
 cases A with
 | none =>
  have h0 : l = [] := by
   rcases Nat.eq_zero_or_pos l.length with h | h
   ·exact List.eq_nil_of_length_eq_zero h
   ·obtain ⟨ad, e, _⟩ := hr.2.2 h
    cases e
  subst h0
  have hq := fun w => Lib.run_eql_slice_nil (P := Tryz.prog) w 148 110 none 0 c 0 0 Tryz.underlying148
  clear hr
  go_enter Tryz.func163, Tryz.ntmps163
  go_wp2
  go_ret
  exact ⟨_, rfl, Kd.R_nil _ _ _ _ _, Below.refl _ _⟩
 | some ad =>
  have hq := fun w => Lib.run_eql_slice_nil (P := Tryz.prog) w 148 110 (some ad) l.length c 0 0 Tryz.underlying148
  clear hr
  have HO : zAa ((kP).R 110 (w.alloc (.cells #[] 110)) w.heap.size (fun _ => True) (.slice (some ⟨w.heap.size, 0, none⟩) 0 0) []) := ⟨Kd.R_of_own (World.ownsRow_made w #[] 0 (Nat.le_refl _) (by unfold maxLen; omega) rfl) (fun _ _ => trivial)⟩
  have HC : zAa (zD ((kP).K w) (kP).sz (w.alloc (.cells #[] 110)) (some ad) l.length l) := ⟨zD.imp_ HR.out ((Below.refl _ _).alloc (Nat.le_refl _) _) (fun _ _ h => h)⟩
  go_enter Tryz.func163, Tryz.ntmps163
  go_wp2_with (at_builtin; refine Kd.zDf kP (w0 := w) w.heap.size rfl (.tmp 5) (.tmp 6) 148 110 (.pointer none) 8 rfl Tryz.underlying148 info110 rfl (by decide) (by omega) (.slice (some ⟨w.heap.size, 0, none⟩) 0 0) [] l (some ad) l.length c (fun _ => True) (fun _ => False) rfl rfl HO.out HC.out (fun x cs h => h) (fun _ hk => hk.elim) (fun _ _ => trivial) ((Below.refl _ _).alloc (Nat.le_refl _) _) (by simp) (by simp; omega) ?_; intro v1 w1 ho hb _ _)
  go_ret
  exact ⟨_, rfl, ho, hb⟩
set_option maxHeartbeats 1000000 in
theorem growP_nil (n : Nat) (w : World) (hn : n ≤ 1000000) :
  Calls Tryz.prog 170 #[.slice none 0 0, .int .i64 n] w fun e w' => ∃ v, e = .returned v ∧ Kd.R kP 110 w' w.heap.size (fun _ => True) v [] ∧ Below w.heap.size w w' := by
 rcases Nat.eq_zero_or_pos n with h0 | h0
 ·subst h0
  go_enter Tryz.func170, Tryz.ntmps170
  go_wp2_with fail
  go_ret
  exact ⟨_, rfl, Kd.R_nil _ _ _ _ _, Below.refl _ _⟩
 ·have h1 : (0 : Int) < (n : Int) := by omega
  have hto : ((n : Int)).toNat = n := by omega
  go_enter Tryz.func170, Tryz.ntmps170
  go_wp2_with (at_builtin; refine Kd.R_append_zeros kP (w0 := w) w.heap.size rfl (.tmp 20) (.tmp 21) 148 3 110 (.pointer none) 8 rfl Tryz.underlying148 Tryz.underlying3 info110 rfl (by decide) (by omega) (.slice none 0 0) [] none (n : Int) (fun _ => True) rfl rfl rfl (fun _ _ => trivial) (Kd.R_nil _ _ _ _ _) (by omega) (Below.refl _ _) (Nat.le_refl _) (by simp; omega) ?_; intro v1 w2 ho hb _ _; have HO := zAa.mk ho; have HB := zAa.mk hb; clear ho hb; obtain ⟨A, c1, e1⟩ := Kd.zAk HO.out; subst e1)
  go_ret
  exact ⟨_, rfl, Kd.R_take (m := 0) HO.out (by omega), HB.out⟩
set_option maxHeartbeats 1000000 in
theorem concatP_any (A : Option Addr) (c : Nat) (l : List (List (Option Nat))) (w : World) (hr : Kd.C (Kd.slice 110 kP) w A l.length l) (hl : l.length ≤ 1000) (ht : l.flatten.length ≤ 1000000) :
  Calls Tryz.prog 161 #[.slice A l.length c] w fun e w' => ∃ v, e = .returned v ∧ Kd.R kP 110 w' w.heap.size (fun _ => True) v l.flatten ∧ Below w.heap.size w w' := by
 have HR := zAa.mk hr
 obtain ⟨n, hn⟩ : ∃ n, l.length = n := ⟨_, rfl⟩
 have HN := zAa.mk hn
 obtain ⟨m, hm⟩ : ∃ m, l.flatten.length = m := ⟨_, rfl⟩
 have HM := zAa.mk hm
 rw [hn] at hl HR ⊢
 rw [hm] at ht
 clear hr hn hm
 go_enter Tryz.func161, Tryz.ntmps161
 go_wp2_with fail
 go_loop [3, 11] (fun vs vi => ∃ i s : Nat, i ≤ n ∧ s ≤ m ∧ vi = .int .i64 i ∧ vs = .int .i64 s ∧ zAa ((fltG l i).length = s)) (fun _ vi => n - (intOf vi).toNat)
 case atStart => exact ⟨0, 0, by omega, by omega, rfl, rfl, ⟨rfl⟩⟩
 case round =>
  obtain ⟨i, s, hi, hs, rfl, rfl, HS⟩ := hrel
  by_cases hlt : i < n
  ·obtain ⟨ad, A0, c0, rfl, hb, h1, h2, h3⟩ := rowG HR.out i hlt
   have h4 : (i : Int) < n := by omega
   have hle : s + (rd_G l i).length ≤ m := by
    have h5 := fltG_le l (i + 1)
    rw [zEj (by rw [HN.out]; exact hlt), HM.out, List.length_append, HS.out] at h5
    exact h5
   have h6 : ¬ ((s : Int) + ((rd_G l i).length : Int) < 0) := by omega
   have h7 : decide ((s : Int) + ((rd_G l i).length : Int) < 0) = false := df h6
   clear h3
   go_wp2_with fail
   go_round
   case rel => exact ⟨i + 1, s + (rd_G l i).length, by omega, by omega, by go_num, by go_num, ⟨by rw [zEj (by rw [HN.out]; exact hlt), List.length_append, HS.out]⟩⟩
   case measure => simp [intOf]; omega
  ·obtain rfl : i = n := by omega
   have hsm : s = m := by rw [← HS.out, ← HM.out]; unfold fltG; rw [List.take_of_length_le (by rw [HN.out]; exact Nat.le_refl _)]
   subst hsm
   go_wp2_with fail
   refine (growP_nil s w (by omega)).mono ?_
   rintro e w1 ⟨v, rfl, hr, hb⟩
   have HG := zAa.mk hr
   have HB := zAa.mk hb
   clear hr hb
   obtain ⟨A1, c1, e1⟩ := Kd.zAk HG.out
   subst e1
   go_wp2_with fail
   go_loopw [6, 27] (fun vv vj w' => ∃ j : Nat, j ≤ i ∧ vj = .int .i64 j ∧ zAa (Kd.R kP 110 w' w.heap.size (fun _ => True) vv (fltG l j)) ∧ zAa (Below w.heap.size w w')) (fun _ vj _ => i - (intOf vj).toNat)
   case atStart => exact ⟨0, by omega, rfl, HG, HB⟩
   case round =>
    obtain ⟨j, hj, rfl, HV, HW⟩ := hrel
    by_cases hjl : j < i
    ·obtain ⟨ad, A0, c0, rfl, hb, h1, h2, h3⟩ := rowG (Kd.zBb HR.out HW.out) j hjl
     have h4 : (j : Int) < i := by omega
     have HC := zAa.mk h3
     have HL : zAa ((fltG l j).length + (rd_G l j).length ≤ 1000000) := ⟨by
      have h5 := fltG_le l (j + 1)
      rw [zEj (by rw [HN.out]; exact hjl), HM.out, List.length_append] at h5
      omega⟩
     clear h3
     obtain ⟨A2, c2, e2⟩ := Kd.zAk HV.out
     subst e2
     go_wp2_with (at_builtin; refine Kd.zDf kP (w0 := w) w.heap.size rfl (.tmp 31) (.tmp 32) 148 110 (.pointer none) 8 rfl Tryz.underlying148 info110 rfl (by decide) (by omega) (.slice A2 (fltG l j).length c2) (fltG l j) (rd_G l j) A0 (rd_G l j).length c0 (fun _ => True) (fun _ => False) rfl rfl HV.out HC.out (fun x cs h => h) (fun _ hk => hk.elim) (fun _ _ => trivial) HW.out HW.out.size (by have := HL.out; omega) ?_; intro v1 w2 ho hb _ _)
     rw [← zEj (by rw [HN.out]; exact hjl)] at ho
     have HO := zAa.mk ho
     have HB2 := zAa.mk hb
     clear ho hb
     go_roundw
     case rel => exact ⟨j + 1, by omega, by go_num, HO, HB2⟩
     case measure => simp [intOf]; omega
    ·obtain rfl : j = i := by omega
     have HF : zAa (fltG l j = l.flatten) := ⟨by unfold fltG; rw [List.take_of_length_le (by rw [HN.out]; exact Nat.le_refl _)]⟩
     go_wp2_with fail
     go_ret
     exact ⟨_, rfl, HF.out ▸ HV.out, HW.out⟩
set_option maxHeartbeats 1000000 in
theorem growB_nil (n : Nat) (w : World) (hn : n ≤ 1000000) :
  Calls Tryz.prog 156 #[.slice none 0 0, .int .i64 n] w fun e w' => ∃ v, e = .returned v ∧ Kd.R kB 5 w' w.heap.size (fun _ => True) v [] ∧ Below w.heap.size w w' := by
 rcases Nat.eq_zero_or_pos n with h0 | h0
 ·subst h0
  go_enter Tryz.func156, Tryz.ntmps156
  go_wp2_with fail
  go_ret
  exact ⟨_, rfl, Kd.R_nil _ _ _ _ _, Below.refl _ _⟩
 ·have h1 : (0 : Int) < (n : Int) := by omega
  have hto : ((n : Int)).toNat = n := by omega
  go_enter Tryz.func156, Tryz.ntmps156
  go_wp2_with (at_builtin; refine Kd.R_append_zeros kB (w0 := w) w.heap.size rfl (.tmp 20) (.tmp 21) 47 3 5 (.int .u8 0) 1 rfl Tryz.underlying47 Tryz.underlying3 info5 rfl (by decide) (by omega) (.slice none 0 0) [] 0 (n : Int) (fun _ => True) rfl rfl rfl (fun _ _ => trivial) (Kd.R_nil _ _ _ _ _) (by omega) (Below.refl _ _) (Nat.le_refl _) (by simp; omega) ?_; intro v1 w2 ho hb _ _; have HO := zAa.mk ho; have HB := zAa.mk hb; clear ho hb; obtain ⟨A, c1, e1⟩ := Kd.zAk HO.out; subst e1)
  go_ret
  exact ⟨_, rfl, Kd.R_take (m := 0) HO.out (by omega), HB.out⟩
set_option maxHeartbeats 1000000 in
theorem concatB_any (A : Option Addr) (c : Nat) (l : List (List (Int))) (w : World) (hr : Kd.C (Kd.slice 5 kB) w A l.length l) (hl : l.length ≤ 1000) (ht : l.flatten.length ≤ 1000000) :
  Calls Tryz.prog 139 #[.slice A l.length c] w fun e w' => ∃ v, e = .returned v ∧ Kd.R kB 5 w' w.heap.size (fun _ => True) v l.flatten ∧ Below w.heap.size w w' := by
 have HR := zAa.mk hr
 obtain ⟨n, hn⟩ : ∃ n, l.length = n := ⟨_, rfl⟩
 have HN := zAa.mk hn
 obtain ⟨m, hm⟩ : ∃ m, l.flatten.length = m := ⟨_, rfl⟩
 have HM := zAa.mk hm
 rw [hn] at hl HR ⊢
 rw [hm] at ht
 clear hr hn hm
 go_enter Tryz.func139, Tryz.ntmps139
 go_wp2_with fail
 go_loop [3, 11] (fun vs vi => ∃ i s : Nat, i ≤ n ∧ s ≤ m ∧ vi = .int .i64 i ∧ vs = .int .i64 s ∧ zAa ((fltG l i).length = s)) (fun _ vi => n - (intOf vi).toNat)
 case atStart => exact ⟨0, 0, by omega, by omega, rfl, rfl, ⟨rfl⟩⟩
 case round =>
  obtain ⟨i, s, hi, hs, rfl, rfl, HS⟩ := hrel
  by_cases hlt : i < n
  ·obtain ⟨ad, A0, c0, rfl, hb, h1, h2, h3⟩ := rowG HR.out i hlt
   have h4 : (i : Int) < n := by omega
   have hle : s + (rd_G l i).length ≤ m := by
    have h5 := fltG_le l (i + 1)
    rw [zEj (by rw [HN.out]; exact hlt), HM.out, List.length_append, HS.out] at h5
    exact h5
   have h6 : ¬ ((s : Int) + ((rd_G l i).length : Int) < 0) := by omega
   have h7 : decide ((s : Int) + ((rd_G l i).length : Int) < 0) = false := df h6
   clear h3
   go_wp2_with fail
   go_round
   case rel => exact ⟨i + 1, s + (rd_G l i).length, by omega, by omega, by go_num, by go_num, ⟨by rw [zEj (by rw [HN.out]; exact hlt), List.length_append, HS.out]⟩⟩
   case measure => simp [intOf]; omega
  ·obtain rfl : i = n := by omega
   have hsm : s = m := by rw [← HS.out, ← HM.out]; unfold fltG; rw [List.take_of_length_le (by rw [HN.out]; exact Nat.le_refl _)]
   subst hsm
   go_wp2_with fail
   refine (growB_nil s w (by omega)).mono ?_
   rintro e w1 ⟨v, rfl, hr, hb⟩
   have HG := zAa.mk hr
   have HB := zAa.mk hb
   clear hr hb
   obtain ⟨A1, c1, e1⟩ := Kd.zAk HG.out
   subst e1
   go_wp2_with fail
   go_loopw [6, 27] (fun vv vj w' => ∃ j : Nat, j ≤ i ∧ vj = .int .i64 j ∧ zAa (Kd.R kB 5 w' w.heap.size (fun _ => True) vv (fltG l j)) ∧ zAa (Below w.heap.size w w')) (fun _ vj _ => i - (intOf vj).toNat)
   case atStart => exact ⟨0, by omega, rfl, HG, HB⟩
   case round =>
    obtain ⟨j, hj, rfl, HV, HW⟩ := hrel
    by_cases hjl : j < i
    ·obtain ⟨ad, A0, c0, rfl, hb, h1, h2, h3⟩ := rowG (Kd.zBb HR.out HW.out) j hjl
     have h4 : (j : Int) < i := by omega
     have HC := zAa.mk h3
     have HL : zAa ((fltG l j).length + (rd_G l j).length ≤ 1000000) := ⟨by
      have h5 := fltG_le l (j + 1)
      rw [zEj (by rw [HN.out]; exact hjl), HM.out, List.length_append] at h5
      omega⟩
     clear h3
     obtain ⟨A2, c2, e2⟩ := Kd.zAk HV.out
     subst e2
     go_wp2_with (at_builtin; refine Kd.zDf kB (w0 := w) w.heap.size rfl (.tmp 31) (.tmp 32) 47 5 (.int .u8 0) 1 rfl Tryz.underlying47 info5 rfl (by decide) (by omega) (.slice A2 (fltG l j).length c2) (fltG l j) (rd_G l j) A0 (rd_G l j).length c0 (fun _ => True) (fun _ => False) rfl rfl HV.out HC.out (fun x cs h => h) (fun _ hk => hk.elim) (fun _ _ => trivial) HW.out HW.out.size (by have := HL.out; omega) ?_; intro v1 w2 ho hb _ _)
     rw [← zEj (by rw [HN.out]; exact hjl)] at ho
     have HO := zAa.mk ho
     have HB2 := zAa.mk hb
     clear ho hb
     go_roundw
     case rel => exact ⟨j + 1, by omega, by go_num, HO, HB2⟩
     case measure => simp [intOf]; omega
    ·obtain rfl : j = i := by omega
     have HF : zAa (fltG l j = l.flatten) := ⟨by unfold fltG; rw [List.take_of_length_le (by rw [HN.out]; exact Nat.le_refl _)]⟩
     go_wp2_with fail
     go_ret
     exact ⟨_, rfl, HF.out ▸ HV.out, HW.out⟩
end Go.Proofs.YtpckachmleonlaaGreatDoor
end
section
set_option linter.unusedVariables false
set_option linter.unusedSimpArgs false
namespace Go.Proofs.YtpckachmleonlaaGreatDoor
open Go.RowKit Go.Proofs.YtpckachmleonlaaGreatDoorW.PrintWords
theorem rows1 {α : Type} {d : Kd α} {e t g : Nat} {w : World} {A : Option Addr} {c : Nat} {xs : List α} {fz : Nat × Nat} (h : w.heap[g]? = some (.cells #[.slice A xs.length c] t fz)) (hc : xs.length ≤ c) (hx : d.C w A xs.length xs) : Kd.C (Kd.slice e d) w (some ⟨g, 0, none⟩) [xs].length [xs] := by
  refine ⟨rfl, by simp, fun _ => ⟨_, rfl, fun j p hj => ?_⟩⟩
  have hj0 : j = 0 := by
    have := (List.getElem?_eq_some_iff.1 hj).1
    simp at this
    omega
  subst hj0
  injection hj with hj
  subst hj
  refine ⟨[.slice A xs.length c], rfl, ⟨A, c, rfl, hc, hx⟩, fun i u hu => ?_⟩
  rw [Addr.add_mid, cell_of_row w g _ _ t fz h]
  have hi0 : i = 0 := by
    have := (List.getElem?_eq_some_iff.1 hu).1
    simp at this
    omega
  subst hi0
  simpa using hu
def lvlAt : List Int → Nat → Nat → Nat → Prop := fun l i m n => m + lvlOf (l.drop i) = n
theorem lvlOf_le : ∀ l : List Int, lvlOf l ≤ 2 * l.length
  | [] => Nat.zero_le _
  | c :: r => by
    rw [lvlOf, List.length_cons]
    have := lvlOf_le r
    split
    · omega
    · split <;> omega
theorem lvl_at {l : List Int} {i : Nat} (h : i < l.length) : lvlOf (l.drop i) = if l.getD i 0 = 0 then 2 + lvlOf (l.drop (i + 1)) else if l.getD i 0 < 16 then 1 else 0 := by
  rw [List.drop_eq_getElem_cons h, lvlOf]
  simp [List.getD_eq_getElem?_getD, List.getElem?_eq_getElem h]
theorem kB_at {w : World} {A : Option Addr} {n : Nat} {xs : List Int} (h : kB.C w A n xs) (i : Nat) (h1 : i < n) : ∃ ad, A = some ad ∧ ad.block < w.heap.size ∧ w.cell? (ad.add i) = some (.int .u8 (xs.getD i 0)) := by
  obtain ⟨ad, c, e, _, hK, hc0⟩ := Kd.C_get h (0 : Int) (i : Int) (by omega) (by omega)
  have hc : ∀ j u, c[j]? = some u → w.cell? (ad.add (i * 1 + j)) = some u := hc0
  have hK2 : c = [.int .u8 (xs.getD i 0)] := hK
  subst hK2
  have hq := hc 0 _ rfl
  rw [Nat.mul_one, Nat.add_zero] at hq
  refine ⟨ad, e, ?_, hq⟩
  have := World.block_lt_of_cell? w _ hq
  unfold Addr.add at this
  split at this <;> exact this
set_option maxHeartbeats 2000000 in
set_option maxRecDepth 100000 in
theorem level_any (A : Option Addr) (c : Nat) (key : List Int) (w : World) (hr : kB.C w A key.length key) (hc : key.length ≤ c) (hl : key.length ≤ 300) (hm : (ofM levelB [key]).length ≤ 1000) :
    Calls Tryz.prog 142 #[.slice A key.length c] w fun e w' => e = .returned (.int .i64 (zBe key)) ∧ Below w.heap.size w w' := by
  have HR := zAa.mk hr
  have HM := zAa.mk hm
  clear hr hm
  have kb := fun W => print_bytes (P := Tryz.prog) 9 47 5 Tryz.underlying9 Tryz.underlying47 Tryz.underlying5 levelB W
  go_enter Tryz.func142, Tryz.ntmps142
  go_wp2_with fail
  have hq := rows1 (d := kB) (e := 5) (t := 47) (g := w.heap.size) (w := w.alloc (.cells #[.slice A key.length c] 47)) (heap_alloc_new w _) hc (Kd.zBb HR.out (zAb (Below.refl _ _) _))
  refine (of_any levelB _ _ [key] _ hq (by decide) (by simp) (by simp; omega)).mono ?_
  rintro e w1 ⟨v, rfl, hr, hb⟩
  obtain ⟨l, hL⟩ : ∃ l, ofM levelB [key] = l := ⟨_, rfl⟩
  have hl2 : zBe key = lvlOf l := by rw [zBe, hL]
  rw [hL] at hr HM
  have HV := zAa.mk hr
  have HB : zAa (Below w.heap.size w w1) := ⟨Below.trans (B := w.heap.size) (zAb (Below.refl _ _) _) (Below.mono hb (by simp))⟩
  have HL := zAa.mk hl2
  clear hr hb hL hl2 hq kb
  obtain ⟨A1, c1, e1⟩ := Kd.zAk HV.out
  subst e1
  have HC := zAa.mk (R_cap HV.out).2
  obtain ⟨n, hn⟩ : ∃ n, l.length = n := ⟨_, rfl⟩
  have HN := zAa.mk hn
  rw [hn] at HC ⊢
  have hn1 : n ≤ 1000 := by rw [← hn]; exact HM.out
  clear hn HV
  go_wp2_with fail
  go_loop [3, 10] (fun v3 v10 => ∃ i m : Nat, i ≤ n ∧ v10 = .int .i64 i ∧ v3 = .int .i64 m ∧ m ≤ 2 * i ∧ zAa (lvlAt l i m (zBe key))) (fun _ v10 => n - (intOf v10).toNat)
  case atStart => exact ⟨0, 0, by omega, rfl, rfl, by omega, ⟨by unfold lvlAt; rw [HL.out]; simp⟩⟩
  case round =>
    obtain ⟨i, m, hi, rfl, rfl, hm, HA⟩ := hrel
    by_cases hlt : i < n
    · have h1 : (i : Int) < n := by omega
      obtain ⟨ad, rfl, hbl, hcell⟩ := kB_at HC.out i hlt
      have HX : zAa (lvlOf (l.drop i) = if l.getD i 0 = 0 then 2 + lvlOf (l.drop (i + 1)) else if l.getD i 0 < 16 then 1 else 0) := ⟨lvl_at (by rw [HN.out]; exact hlt)⟩
      obtain ⟨x, hx⟩ : ∃ x, l.getD i 0 = x := ⟨_, rfl⟩
      rw [hx] at HX hcell
      clear hx
      by_cases h0 : x = 0
      · have e0 : (x == (0 : Int)) = true := by simp [h0]
        have HY : zAa (lvlAt l (i + 1) (m + 2) (zBe key)) := ⟨by have := HA.out; unfold lvlAt at this ⊢; rw [HX.out, if_pos h0] at this; omega⟩
        clear h0
        go_wp2_with fail
        go_round
        case rel => exact ⟨i + 1, m + 2, by omega, by go_num, by go_num, by omega, HY⟩
        case measure => simp [intOf]; omega
      · have e0 : (x == (0 : Int)) = false := by simp [h0]
        by_cases h16 : x < 16
        · have HY : zAa (zBe key = m + 1) := ⟨by have := HA.out; unfold lvlAt at this; rw [HX.out, if_neg h0, if_pos h16] at this; omega⟩
          have e1 : decide (x < 16) = true := dt h16
          clear h0 h16
          go_wp2_with fail
          go_ret
          exact ⟨by rw [HY.out]; go_num, HB.out⟩
        · have HY : zAa (zBe key = m) := ⟨by have := HA.out; unfold lvlAt at this; rw [HX.out, if_neg h0, if_neg h16] at this; omega⟩
          have e1 : decide (x < 16) = false := df h16
          clear h0 h16
          go_wp2_with fail
          go_ret
          exact ⟨by rw [HY.out]; rfl, HB.out⟩
    · obtain rfl : i = n := by omega
      have HY : zAa (zBe key = m) := ⟨by have := HA.out; unfold lvlAt at this; rw [List.drop_eq_nil_of_le (by rw [HN.out]; exact Nat.le_refl _)] at this; simp [lvlOf] at this; omega⟩
      go_wp2_with fail
      go_ret
      exact ⟨by rw [HY.out]; rfl, HB.out⟩
end Go.Proofs.YtpckachmleonlaaGreatDoor
end
