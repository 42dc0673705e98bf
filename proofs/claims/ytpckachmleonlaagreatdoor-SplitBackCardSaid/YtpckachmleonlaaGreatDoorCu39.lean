/- Words and walks for Split and Tablet: texts of these sessions, and of the kit's print, cut down to what is used (I4 L4 Card6). -/
import Derived.Test.YtpckachmleonlaaGreatDoorCu37
import Derived.Test.YtpckachmleonlaaGreatDoorCu38
section
set_option linter.unusedVariables false
set_option linter.unusedSimpArgs false
namespace Go.Proofs.YtpckachmleonlaaGreatDoor
open Go.RowKit Go.Proofs.YtpckachmleonlaaGreatDoorW.PrintWords
def tabletS : ByteArray := ⟨#[116, 97, 98, 108, 101, 116]⟩
def rootM (a b : ByteArray) (cs : List CellM) : List Int := ofM tabletS [bytesOf a, bytesOf b, hashT (cs.map zEf)]
theorem C_triple {w : World} {g : Nat} {e t : TypeId} {α : Type} {d : Kd α} {A B D : Option Addr} {n m o c k j : Nat} {xs ys zs : List α} {fz : Nat × Nat} (h : w.heap[g]? = some (.cells #[.slice A n c, .slice B m k, .slice D o j] t fz)) (h1 : d.C w A n xs) (h2 : d.C w B m ys) (h3 : d.C w D o zs) (hn : n = xs.length) (hm : m = ys.length) (ho : o = zs.length) (hc : n ≤ c) (hk : m ≤ k) (hj : o ≤ j) :
    Kd.C (Kd.slice e d) w (some ⟨g, 0, none⟩) 3 [xs, ys, zs] := by
  subst hn hm ho
  refine ⟨rfl, by simp, fun _ => ⟨⟨g, 0, none⟩, rfl, fun i p hj => ?_⟩⟩
  have hj0 : i < 3 := (List.getElem?_eq_some_iff.1 hj).1
  rcases (by omega : i = 0 ∨ i = 1 ∨ i = 2) with rfl | rfl | rfl
  · obtain rfl := Option.some.inj hj
    refine ⟨[.slice A xs.length c], rfl, ⟨A, c, rfl, hc, h1⟩, fun i u hu => ?_⟩
    have hi : i < 1 := (List.getElem?_eq_some_iff.1 hu).1
    rw [add_plain, cell_of_row w g _ _ t fz h, ← hu]
    obtain rfl : i = 0 := by omega
    rfl
  · obtain rfl := Option.some.inj hj
    refine ⟨[.slice B ys.length k], rfl, ⟨B, k, rfl, hk, h2⟩, fun i u hu => ?_⟩
    have hi : i < 1 := (List.getElem?_eq_some_iff.1 hu).1
    rw [add_plain, cell_of_row w g _ _ t fz h, ← hu]
    obtain rfl : i = 0 := by omega
    rfl
  · obtain rfl := Option.some.inj hj
    refine ⟨[.slice D zs.length j], rfl, ⟨D, j, rfl, by assumption, h3⟩, fun i u hu => ?_⟩
    have hi : i < 1 := (List.getElem?_eq_some_iff.1 hu).1
    rw [add_plain, cell_of_row w g _ _ t fz h, ← hu]
    obtain rfl : i = 0 := by omega
    rfl
theorem zCh {w W : World} (h : Below w.heap.size w W) (e : TypeId) (s : ByteArray) : Below w.heap.size w (Lib.bytesWorld W e s) := bytes_below h h.size e s
theorem C_bytes (s : ByteArray) (hs : s.size ≤ 1000) (W : World) : kB.C (Lib.bytesWorld W 5 s) (some ⟨W.heap.size, 0, none⟩) s.size (bytesOf s) := Kd.C_of_reads (d := 0) (bytes_reads W 5 s (by omega))
theorem C_tripleB {w W1 W2 : World} {g k1 k2 : Nat} {e t : TypeId} {D : Option Addr} {o j : Nat} {zs : List Int} {fz : Nat × Nat} {a b : ByteArray} (h : w.heap[g]? = some (.cells #[.slice (some ⟨k1, 0, none⟩) a.size (grownCap W1 a.size 0 5), .slice (some ⟨k2, 0, none⟩) b.size (grownCap W2 b.size 0 5), .slice D o j] t fz)) (e1 : W1.heap.size = k1) (e2 : W2.heap.size = k2) (b1 : Below (Lib.bytesWorld W1 5 a).heap.size (Lib.bytesWorld W1 5 a) w) (b2 : Below (Lib.bytesWorld W2 5 b).heap.size (Lib.bytesWorld W2 5 b) w) (ha : a.size ≤ 1000) (hb : b.size ≤ 1000) (h3 : kB.C w D o zs) (ho : zs.length = o) (hj : o ≤ j) : Kd.C (Kd.slice e kB) w (some ⟨g, 0, none⟩) 3 [bytesOf a, bytesOf b, zs] := by
  subst e1 e2
  exact C_triple h (Kd.zBa (C_bytes a ha W1) b1) (Kd.zBa (C_bytes b hb W2) b2) h3 (bytesOf_len _).symm (bytesOf_len _).symm ho.symm (grownCap_ge _ _ _ _) (grownCap_ge _ _ _ _) hj
set_option maxHeartbeats 8000000 in
set_option maxRecDepth 100000 in
theorem root_tab (ok : Nat → Prop) (w : World) (p : Nat) (a b : ByteArray) (cs : List CellM) (h : TabAt ok w p a b cs) (ha : a.size ≤ 100) (hb : b.size ≤ 100) :
    Calls Tryz.prog 26 #[.pointer (some ⟨p, 0, none⟩)] w fun e w' => ∃ v, e = .returned v ∧ Kd.R kB 5 w' w.heap.size (fun _ => True) v (rootM a b cs) ∧ Below w.heap.size w w' := by
  obtain ⟨t, h1, h2⟩ := h.ex
  obtain ⟨pt, hpt⟩ := zDa t
  rw [hpt] at h1
  have HS : zA (∀ X, Below w.heap.size w X → X.cell? ⟨p, 0, none⟩ = some (.string a) ∧ X.cell? ⟨p, 1, none⟩ = some (.string b) ∧ X.cell? ⟨p, 2, none⟩ = some (.pointer pt)) := ⟨fun X hX => ⟨(zAb (zAe h1 hX) 0).trans rfl, (zAb (zAe h1 hX) 1).trans rfl, (zAb (zAe h1 hX) 2).trans rfl⟩⟩
  have HRT : zA (∀ X, Below w.heap.size w X → Calls Tryz.prog 47 #[.pointer pt] X fun e w' => ∃ A c, e = .returned (.slice A (hashT (cs.map zEf)).length c) ∧ (hashT (cs.map zEf)).length ≤ c ∧ kB.C w' A (hashT (cs.map zEf)).length (hashT (cs.map zEf)) ∧ Below X.heap.size X w') := ⟨fun X hX => by
    rw [← hpt]
    refine (troot_any ok t _ X (h2.keep hX)).mono ?_
    rintro e w' ⟨v, rfl, hr, hb⟩
    obtain ⟨A, c, rfl, hc, hC⟩ := Kd.zEg hr
    exact ⟨A, c, rfl, hc, hC, hb⟩⟩
  have hn := h2
  have hl := zAi h1
  have HL := zA.mk (hashT_len (cs.map zEf))
  have ka := fun W => print_bytes (P := Tryz.prog) 9 47 5 Tryz.underlying9 Tryz.underlying47 Tryz.underlying5 a W
  have kb := fun W => print_bytes (P := Tryz.prog) 9 47 5 Tryz.underlying9 Tryz.underlying47 Tryz.underlying5 b W
  have HAB : zA (a.size ≤ 100 ∧ b.size ≤ 100) := ⟨ha, hb⟩
  have HM : zA (ofM tabletS [bytesOf a, bytesOf b, hashT (cs.map zEf)] = rootM a b cs) := ⟨rfl⟩
  generalize hashT (cs.map zEf) = hh at HRT HL HM
  generalize rootM a b cs = rm at HM ⊢
  obtain ⟨m, hm⟩ : ∃ m, hh.length = m := ⟨_, rfl⟩
  rw [hm] at HRT
  have HMM := zA.mk hm
  clear h h1 h2 hn hpt ha hb hm
  go_enter Tryz.func26, Tryz.ntmps26
  go_upto_region 3 with fail
  refine wp_region_held_drew (S := fun X => X.cell? ⟨p, 0, none⟩ = some (.string a) ∧ X.cell? ⟨p, 1, none⟩ = some (.string b) ∧ X.cell? ⟨p, 2, none⟩ = some (.pointer pt)) (by kernel_rfl) (HS.out _ (zAf (Below.refl _ _))) (fun hHeld => ?_)
  (refine wpAnyH_take (i := 0) (v := ?_) rfl (by kernel_rfl) (by kernel_rfl) (by kernel_rfl) (fun _ _ _ h => h) (Or.inl ⟨by rfl, ?_⟩) (by assumption) ?_; rotate_left; (focus (intro w hSw; (try dsimp only at hSw); go_simp; (try with_reducible rfl))); (try simp only [Act.put, List.getElem_toArray, List.getElem_cons_zero, List.getElem_cons_succ, List.setIfInBounds_toArray, List.set_cons_zero, List.set_cons_succ]))
  (refine wpAnyH_take (i := 1) (v := ?_) rfl (by kernel_rfl) (by kernel_rfl) (by kernel_rfl) (fun _ _ _ h => h) (Or.inl ⟨by rfl, ?_⟩) (by assumption) ?_; rotate_left; (focus (intro w hSw; (try dsimp only at hSw); go_simp; (try with_reducible rfl))); (try simp only [Act.put, List.getElem_toArray, List.getElem_cons_zero, List.getElem_cons_succ, List.setIfInBounds_toArray, List.set_cons_zero, List.set_cons_succ]))
  (refine wpAnyH_take (i := 2) (v := ?_) rfl (by kernel_rfl) (by kernel_rfl) (by kernel_rfl) (fun _ _ _ h => h) (Or.inl ⟨by rfl, ?_⟩) (by assumption) ?_; rotate_left; (focus (intro w hSw; (try dsimp only at hSw); go_simp; (try with_reducible rfl))); (try simp only [Act.put, List.getElem_toArray, List.getElem_cons_zero, List.getElem_cons_succ, List.setIfInBounds_toArray, List.set_cons_zero, List.set_cons_succ]))
  (refine wpAnyH_take (i := 3) (v := ?_) rfl (by kernel_rfl) (by kernel_rfl) (by kernel_rfl) (fun _ _ _ h => h) (Or.inl ⟨by rfl, ?_⟩) (by assumption) ?_; rotate_left; (focus (intro w hSw; (try dsimp only at hSw); go_simp; (try with_reducible rfl))); (try simp only [Act.put, List.getElem_toArray, List.getElem_cons_zero, List.getElem_cons_succ, List.setIfInBounds_toArray, List.set_cons_zero, List.set_cons_succ]))
  (refine wpAnyH_take (i := 5) (v := ?_) rfl (by kernel_rfl) (by kernel_rfl) (by kernel_rfl) (fun _ _ _ h => h) (Or.inl ⟨by rfl, ?_⟩) (by assumption) ?_; rotate_left; (focus (intro w hSw; (try dsimp only at hSw); go_simp; (try with_reducible rfl))); (try simp only [Act.put, List.getElem_toArray, List.getElem_cons_zero, List.getElem_cons_succ, List.setIfInBounds_toArray, List.set_cons_zero, List.set_cons_succ]))
  (refine wpAnyH_take (i := 6) (v := ?_) rfl (by kernel_rfl) (by kernel_rfl) (by kernel_rfl) (fun _ _ _ h => h) (Or.inl ⟨by rfl, ?_⟩) (by assumption) ?_; rotate_left; (focus (intro w hSw; (try dsimp only at hSw); go_simp; (try with_reducible rfl))); (try simp only [Act.put, List.getElem_toArray, List.getElem_cons_zero, List.getElem_cons_succ, List.setIfInBounds_toArray, List.set_cons_zero, List.set_cons_succ]))
  (refine wpAnyH_take (i := 7) (v := ?_) rfl (by kernel_rfl) (by kernel_rfl) (by kernel_rfl) (fun _ _ _ h => h) (Or.inl ⟨by rfl, ?_⟩) (by assumption) ?_; rotate_left; (focus (intro w hSw; (try dsimp only at hSw); go_simp; (try with_reducible rfl))); (try simp only [Act.put, List.getElem_toArray, List.getElem_cons_zero, List.getElem_cons_succ, List.setIfInBounds_toArray, List.set_cons_zero, List.set_cons_succ]))
  (refine wpAnyH_take (i := 8) (v := ?_) rfl (by kernel_rfl) (by kernel_rfl) (by kernel_rfl) (fun _ _ _ h => h) (Or.inl ⟨by rfl, ?_⟩) (by assumption) ?_; rotate_left; (focus (intro w hSw; (try dsimp only at hSw); go_simp; (try with_reducible rfl))); (try simp only [Act.put, List.getElem_toArray, List.getElem_cons_zero, List.getElem_cons_succ, List.setIfInBounds_toArray, List.set_cons_zero, List.set_cons_succ]))
  (refine wpAnyH_take (i := 10) (v := ?_) rfl (by kernel_rfl) (by kernel_rfl) (by kernel_rfl) (fun _ _ _ h => h) (Or.inl ⟨by rfl, ?_⟩) (by assumption) ?_; rotate_left; (focus (intro w hSw; (try dsimp only at hSw); go_simp; (try with_reducible rfl))); (try simp only [Act.put, List.getElem_toArray, List.getElem_cons_zero, List.getElem_cons_succ, List.setIfInBounds_toArray, List.set_cons_zero, List.set_cons_succ]))
  (refine wpAnyH_take (i := 11) (v := ?_) rfl (by kernel_rfl) (by kernel_rfl) (by kernel_rfl) (fun _ _ _ h => h) (Or.inl ⟨by rfl, ?_⟩) (by assumption) ?_; rotate_left; (focus (intro w hSw; (try dsimp only at hSw); go_simp; (try with_reducible rfl))); (try simp only [Act.put, List.getElem_toArray, List.getElem_cons_zero, List.getElem_cons_succ, List.setIfInBounds_toArray, List.set_cons_zero, List.set_cons_succ]))
  (refine wpAnyH_take (i := 12) (v := ?_) rfl (by kernel_rfl) (by kernel_rfl) (by kernel_rfl) (fun _ _ _ h => h) (Or.inl ⟨by rfl, ?_⟩) (by assumption) ?_; rotate_left; (focus (intro w hSw; (try dsimp only at hSw); go_simp; (try with_reducible rfl))); (try simp only [Act.put, List.getElem_toArray, List.getElem_cons_zero, List.getElem_cons_succ, List.setIfInBounds_toArray, List.set_cons_zero, List.set_cons_succ]))
  (refine wpAnyH_take (i := 13) (v := ?_) rfl (by kernel_rfl) (by kernel_rfl) (by kernel_rfl) (fun _ _ _ h => h) (Or.inl ⟨by rfl, ?_⟩) (by assumption) ?_; rotate_left; (focus (intro w hSw; (try dsimp only at hSw); go_simp; (try with_reducible rfl))); (try simp only [Act.put, List.getElem_toArray, List.getElem_cons_zero, List.getElem_cons_succ, List.setIfInBounds_toArray, List.set_cons_zero, List.set_cons_succ]))
  refine wpAnyH_ready (rs := [4, 9, 14]) (by kernel_rfl) (by simp) ?_
  refine AllReadyH.cons rfl (fun K hK => ?_) (AllReadyH.cons rfl (fun K hK => ?_) (AllReadyH.cons rfl (fun K hK => ?_) AllReadyH.nil))
  all_goals ((try simp only [List.getElem_toArray, List.getElem_cons_zero, List.getElem_cons_succ]); go_simp; (try (go_at_call 47; with_reducible refine (HRT.out _ (by with_reducible repeat (first | exact Below.refl _ _ | refine zAf ?_ | refine zAa ?_ _ | refine zCh ?_ _ _))).mono ?_; rintro e W5 ⟨A5, c5, rfl, hc5, hC5, hb5⟩; have HR5 := zA.mk (And.intro hc5 hC5); have HBX := zA.mk hb5; have HB5 : zA (Below w.heap.size w W5) := ⟨bl_to (by with_reducible repeat (first | exact Below.refl _ _ | refine zAf ?_ | refine zAa ?_ _ | refine zCh ?_ _ _)) hb5⟩; clear hc5 hC5 hb5)); refine hK.out _ _ (HS.out _ (by with_reducible repeat (first | exact Below.refl _ _ | exact HB5.out | exact HB6.out | refine zAf ?_ | refine zAa ?_ _ | refine zCh ?_ _ _))) (fun hHeld => ?_); clear hK K; (try simp only [Act.put, List.getElem_toArray, List.getElem_cons_zero, List.getElem_cons_succ, List.setIfInBounds_toArray, List.set_cons_zero, List.set_cons_succ]))
  refine wpAnyH_ready (rs := [9, 14]) (by kernel_rfl) (by simp) ?_
  refine AllReadyH.cons rfl (fun K hK => ?_) (AllReadyH.cons rfl (fun K hK => ?_) AllReadyH.nil)
  rotate_left 2
  refine wpAnyH_ready (rs := [4, 14]) (by kernel_rfl) (by simp) ?_
  refine AllReadyH.cons rfl (fun K hK => ?_) (AllReadyH.cons rfl (fun K hK => ?_) AllReadyH.nil)
  rotate_left 2
  refine wpAnyH_ready (rs := [4, 9]) (by kernel_rfl) (by simp) ?_
  refine AllReadyH.cons rfl (fun K hK => ?_) (AllReadyH.cons rfl (fun K hK => ?_) AllReadyH.nil)
  rotate_left 2
  all_goals ((try simp only [List.getElem_toArray, List.getElem_cons_zero, List.getElem_cons_succ]); go_simp; (try (go_at_call 47; with_reducible refine (HRT.out _ (by with_reducible repeat (first | exact Below.refl _ _ | refine zAf ?_ | refine zAa ?_ _ | refine zCh ?_ _ _))).mono ?_; rintro e W5 ⟨A5, c5, rfl, hc5, hC5, hb5⟩; have HR5 := zA.mk (And.intro hc5 hC5); have HBX := zA.mk hb5; have HB5 : zA (Below w.heap.size w W5) := ⟨bl_to (by with_reducible repeat (first | exact Below.refl _ _ | refine zAf ?_ | refine zAa ?_ _ | refine zCh ?_ _ _)) hb5⟩; clear hc5 hC5 hb5)); refine hK.out _ _ (HS.out _ (by with_reducible repeat (first | exact Below.refl _ _ | exact HB5.out | exact HB6.out | refine zAf ?_ | refine zAa ?_ _ | refine zCh ?_ _ _))) (fun hHeld => ?_); clear hK K; (try simp only [Act.put, List.getElem_toArray, List.getElem_cons_zero, List.getElem_cons_succ, List.setIfInBounds_toArray, List.set_cons_zero, List.set_cons_succ]))
  refine wpAnyH_ready (rs := [14]) (by kernel_rfl) (by simp) ?_
  rotate_left
  refine wpAnyH_ready (rs := [9]) (by kernel_rfl) (by simp) ?_
  rotate_left
  refine wpAnyH_ready (rs := [14]) (by kernel_rfl) (by simp) ?_
  rotate_left
  refine wpAnyH_ready (rs := [4]) (by kernel_rfl) (by simp) ?_
  rotate_left
  refine wpAnyH_ready (rs := [9]) (by kernel_rfl) (by simp) ?_
  rotate_left
  refine wpAnyH_ready (rs := [4]) (by kernel_rfl) (by simp) ?_
  rotate_left
  all_goals (
    refine AllReadyH.cons rfl (fun K hK => ?_) AllReadyH.nil
    ((try simp only [List.getElem_toArray, List.getElem_cons_zero, List.getElem_cons_succ]); go_simp; (try (go_at_call 47; with_reducible refine (HRT.out _ (by with_reducible repeat (first | exact Below.refl _ _ | refine zAf ?_ | refine zAa ?_ _ | refine zCh ?_ _ _))).mono ?_; rintro e W5 ⟨A5, c5, rfl, hc5, hC5, hb5⟩; have HR5 := zA.mk (And.intro hc5 hC5); have HBX := zA.mk hb5; have HB5 : zA (Below w.heap.size w W5) := ⟨bl_to (by with_reducible repeat (first | exact Below.refl _ _ | refine zAf ?_ | refine zAa ?_ _ | refine zCh ?_ _ _)) hb5⟩; clear hc5 hC5 hb5)); refine hK.out _ _ (HS.out _ (by with_reducible repeat (first | exact Below.refl _ _ | exact HB5.out | exact HB6.out | refine zAf ?_ | refine zAa ?_ _ | refine zCh ?_ _ _))) (fun hHeld => ?_); clear hK K; (try simp only [Act.put, List.getElem_toArray, List.getElem_cons_zero, List.getElem_cons_succ, List.setIfInBounds_toArray, List.set_cons_zero, List.set_cons_succ]))
    refine wpAnyH_ready (rs := [15]) (by kernel_rfl) (by simp) ?_
    refine AllReadyH.cons rfl (fun K hK => ?_) AllReadyH.nil
    ((try simp only [List.getElem_toArray, List.getElem_cons_zero, List.getElem_cons_succ]); go_simp; (try (go_at_call 47; with_reducible refine (HRT.out _ (by with_reducible repeat (first | exact Below.refl _ _ | refine zAf ?_ | refine zAa ?_ _ | refine zCh ?_ _ _))).mono ?_; rintro e W5 ⟨A5, c5, rfl, hc5, hC5, hb5⟩; have HR5 := zA.mk (And.intro hc5 hC5); have HBX := zA.mk hb5; have HB5 : zA (Below w.heap.size w W5) := ⟨bl_to (by with_reducible repeat (first | exact Below.refl _ _ | refine zAf ?_ | refine zAa ?_ _ | refine zCh ?_ _ _)) hb5⟩; clear hc5 hC5 hb5)); refine hK.out _ _ (HS.out _ (by with_reducible repeat (first | exact Below.refl _ _ | exact HB5.out | exact HB6.out | refine zAf ?_ | refine zAa ?_ _ | refine zCh ?_ _ _))) (fun hHeld => ?_); clear hK K; (try simp only [Act.put, List.getElem_toArray, List.getElem_cons_zero, List.getElem_cons_succ, List.setIfInBounds_toArray, List.set_cons_zero, List.set_cons_succ]))
    refine wpAnyH_ready (rs := [16]) (by kernel_rfl) (by simp) ?_
    refine AllReadyH.cons rfl (fun K hK => ?_) AllReadyH.nil
    ((try simp only [List.getElem_toArray, List.getElem_cons_zero, List.getElem_cons_succ]); go_simp; (go_at_call 61; refine (of_any tabletS _ 3 [bytesOf a, bytesOf b, hh] _ (C_tripleB (heap_alloc_new _ _) (by rfl) (by rfl) (by with_reducible repeat (first | exact Below.refl _ _ | refine bl_to ?_ HBX.out | refine zAf ?_ | refine zAa ?_ _ | refine zCh ?_ _ _)) (by with_reducible repeat (first | exact Below.refl _ _ | refine bl_to ?_ HBX.out | refine zAf ?_ | refine zAa ?_ _ | refine zCh ?_ _ _)) (by have := HAB.out; omega) (by have := HAB.out; omega) (Kd.zBa HR5.out.2 (by with_reducible repeat (first | exact Below.refl _ _ | refine bl_to ?_ HBX.out | refine zAf ?_ | refine zAa ?_ _ | refine zCh ?_ _ _))) HMM.out HR5.out.1) (by decide) (by simp) (by have h1 := HL.out; have h2 := HAB.out; simp only [List.mem_cons, List.not_mem_nil, or_false, forall_eq_or_imp, forall_eq, bytesOf_len]; omega)).mono ?_; rintro e W6 ⟨v6, rfl, hr6, hb6⟩; have HR6 := zA.mk (rl_to (w2 := w) (by with_reducible repeat (first | exact Below.refl _ _ | refine bl_to ?_ HBX.out | refine zAf ?_ | refine zAa ?_ _ | refine zCh ?_ _ _)) hr6); have HB6 := zA.mk (bl_to (w2 := w) (by with_reducible repeat (first | exact Below.refl _ _ | refine bl_to ?_ HBX.out | refine zAf ?_ | refine zAa ?_ _ | refine zCh ?_ _ _)) hb6); clear hr6 hb6); refine hK.out _ _ (HS.out _ (by with_reducible repeat (first | exact Below.refl _ _ | exact HB5.out | exact HB6.out | refine zAf ?_ | refine zAa ?_ _ | refine zCh ?_ _ _))) (fun hHeld => ?_); clear hK K; (try simp only [Act.put, List.getElem_toArray, List.getElem_cons_zero, List.getElem_cons_succ, List.setIfInBounds_toArray, List.set_cons_zero, List.set_cons_succ]))
    (refine wpAnyH_take (i := 17) (v := ?_) rfl (by kernel_rfl) (by kernel_rfl) (by kernel_rfl) (fun _ _ _ h => h) (Or.inl ⟨by rfl, ?_⟩) (by assumption) ?_; rotate_left; (focus (intro w hSw; (try dsimp only at hSw); go_simp; (try with_reducible rfl))); (try simp only [Act.put, List.getElem_toArray, List.getElem_cons_zero, List.getElem_cons_succ, List.setIfInBounds_toArray, List.set_cons_zero, List.set_cons_succ]))
    refine wpAnyH_done (by kernel_rfl) ?_ _)
  all_goals (
    obtain ⟨A6, c6, e6⟩ := Kd.zAk HR6.out
    subst e6
    go_wp2_with fail
    go_ret
    refine ⟨_, rfl, ?_, HB6.out⟩
    rw [← HM.out]
    exact HR6.out)
end Go.Proofs.YtpckachmleonlaaGreatDoor
end
section
set_option linter.unusedVariables false
set_option linter.unusedSimpArgs false
namespace Go.Proofs.YtpckachmleonlaaGreatDoor
open Go.RowKit Go.Proofs.YtpckachmleonlaaGreatDoorW.PrintWords
theorem lo_hi {s : ByteArray} : ∀ {cs : List CellM}, OkL cs → loC s cs ++ hiC s cs = cs
  | [], _ => rfl
  | y :: l, h => by
    have hl : OkL l := ⟨fun z hz => h.ok z (by simp [hz]), (List.pairwise_cons.1 h.so).2⟩
    have ih := lo_hi (s := s) hl
    have hp := rows_le h
    rw [List.map_cons, List.pairwise_cons] at hp
    cases h1 : ltS y.f0.f0 s with
    | true =>
      unfold loC hiC at ih ⊢
      rw [List.filter_cons_of_pos (by simpa using h1), List.filter_cons_of_neg (by rw [h1]; simp), List.cons_append, ih]
    | false =>
      have hn : ∀ z ∈ l, ltS z.f0.f0 s = false := fun z hz => by
        cases h2 : ltS z.f0.f0 s with
        | false => rfl
        | true =>
          have h3 := ltS_le_trans (hp.1 z.f0.f0 (List.mem_map.2 ⟨z, hz, rfl⟩)) h2
          rw [h1] at h3
          cases h3
      unfold loC hiC
      rw [List.filter_cons_of_neg (by rw [h1]; simp), filt_none (fun z hz => hn z hz), List.nil_append, List.filter_cons_of_pos (by rw [h1]; rfl), filt_all (fun z hz => by rw [hn z hz]; rfl)]
theorem rootM_len (a b : ByteArray) (cs : List CellM) : (rootM a b cs).length = 32 := ofM_len _ _
theorem merge_back {a b s : ByteArray} {cs : List CellM} (h : TabL a b cs) (hk : splitK a b s = 0) : zDg s s (loC s cs) (hiC s cs) = 0 ∧ zDg b a (hiC s cs) (loC s cs) = 1 := by
  obtain ⟨h1, h2, h3, h4⟩ := cut_some hk
  refine ⟨?_, ?_⟩
  · unfold zDg
    rw [if_neg (by simp [h3]), lo_hi h.ok, if_neg (by have := h.len; omega)]
  · unfold zDg
    rw [if_pos]
    rcases h4 with h4 | h4
    · exact .inl h4
    · refine .inr fun e => ?_
      rw [← e] at h1
      have := ltS_trans h1 h4
      rw [ltS_self] at this
      cases this
set_option maxHeartbeats 8000000 in
set_option maxRecDepth 100000 in
theorem splitBack_law (a b : ByteArray) (A : Option Addr) (c : Nat) (l : List CellM) (s : ByteArray) (w : World) (hC : kC.C w A l.length l) (hc : l.length ≤ c) (hf : ∀ x ∈ l, Fit x.f0) (ht : ∀ x ∈ l, TimeOk x) :
    Calls Tryz.prog 6 #[.string a, .string b, .slice A l.length c, .string s] w fun e w' => e = .returned (.bool true) ∧ Below w.heap.size w w' := by
  have HT := zA.mk ht
  have HMADE := zA.mk (made_any (fun j => j < w.heap.size) a b l A c w (fun j h => h) (CAt.of hC rfl hc) hf ht)
  obtain ⟨n, hn⟩ : ∃ n, l.length = n := ⟨_, rfl⟩
  rw [hn] at HMADE ⊢
  clear hC hc hf ht hn
  go_enter Tryz.func6, Tryz.ntmps6
  go_wp2_with fail
  refine HMADE.out.mono ?_
  rintro e w1 ⟨pt, a', b', A', n', c', rfl, hm, hb1⟩
  obtain ⟨q, hq⟩ : ∃ q, madeB a b l = q := ⟨_, rfl⟩
  have HQ := zA.mk hq
  rw [hq] at hm ⊢
  have HM := zA.mk hm
  have HB1 := zA.mk hb1
  have HAL : zA (∀ X, Below w.heap.size w X → Calls Tryz.prog 16 #[] X fun e w' => e = .returned (.bool true) ∧ Below w.heap.size w w' ∧ Below X.heap.size X w') := ⟨fun X hX => (alive11 X).mono fun e w' h => ⟨h.1, hX.trans (h.2.mono hX.size), h.2⟩⟩
  clear hq hm hb1 HMADE
  have HB2 : zA (Below w.heap.size w (w1.alloc (.cells #[.string a', .string b', .slice A' n' c'] 25))) := ⟨zAa HB1.out _⟩
  have HBX : zA (Below w1.heap.size w1 (w1.alloc (.cells #[.string a', .string b', .slice A' n' c'] 25))) := ⟨zAa (Below.refl _ _) _⟩
  cases q
  case false =>
    go_wp2_with fail
    refine (HAL.out _ HB2.out).mono ?_
    rintro e w3 ⟨rfl, hb, _⟩
    have HB3 := zA.mk hb
    clear hb
    go_wp2_with fail
    go_ret
    exact ⟨rfl, HB3.out⟩
  rcases Nat.lt_or_ge 100 s.size with h1 | h1
  · have z1 : decide ((100 : Int) < (s.size : Int)) = true := Cp.dt (by omega)
    clear h1
    go_wp2_with fail
    refine (HAL.out _ HB2.out).mono ?_
    rintro e w3 ⟨rfl, hb, _⟩
    have HB3 := zA.mk hb
    clear hb
    go_wp2_with fail
    go_ret
    exact ⟨rfl, HB3.out⟩
  have z1 : decide ((100 : Int) < (s.size : Int)) = false := Cp.df (by omega)
  have HTL := zA.mk (made_tab HQ.out HT.out)
  obtain ⟨p, rfl, hp1, htab, ea, eb, hcat⟩ := HM.out rfl
  subst ea eb
  have HTAB := zA.mk (htab.keep HBX.out)
  clear h1 hp1 htab hcat HM HQ
  obtain ⟨cs, hcs⟩ : ∃ cs, zDi l = cs := ⟨_, rfl⟩
  rw [hcs] at HTL HTAB
  clear HBX hcs
  have HCUT := zA.mk (split_tab _ _ p a' b' cs HTAB.out HTL.out s)
  obtain ⟨kk, hkk⟩ : ∃ kk, splitK a' b' s = kk := ⟨_, rfl⟩
  have HKK := zA.mk hkk
  unfold CutPost at HCUT
  rw [hkk] at HCUT
  clear hkk
  go_wp2_with fail
  refine HCUT.out.mono ?_
  rintro e w3 ⟨hz, hnz, hb⟩
  have HB3 : zA (Below w.heap.size w w3) := ⟨HB2.out.trans (hb.mono HB2.out.size)⟩
  have HT3 := zA.mk (HTAB.out.keep hb)
  by_cases h0 : kk = 0
  case neg =>
    obtain rfl := hnz h0
    have z2 : (kk == 0) = false := by simpa using h0
    have z3 : (kk != 0) = true := by simpa using h0
    clear hz hnz hb h0 HCUT
    go_wp2_with fail
    refine (HAL.out _ HB3.out).mono ?_
    rintro e w4 ⟨rfl, hb, _⟩
    have HB4 := zA.mk hb
    clear hb
    go_wp2_with fail
    go_ret
    exact ⟨rfl, HB4.out⟩
  subst h0
  obtain ⟨q, r, rfl, _, _, ht1, ht2⟩ := hz rfl
  have HQ3 := zA.mk ht1
  have HR3 := zA.mk ht2
  have hcut := cut_some HKK.out
  have HL1 : zA (TabL a' s (loC s cs) ∧ TabL s b' (hiC s cs)) := ⟨HTL.out.lo hcut.1 hcut.2.1 hcut.2.2.1, HTL.out.hi hcut.2.2.2 hcut.2.1⟩
  have HBK := zA.mk (merge_back HTL.out HKK.out)
  have HM1 := zA.mk (merge_tab _ _ w3 q r a' s s b' (loC s cs) (hiC s cs) HQ3.out HR3.out HL1.out.1 HL1.out.2)
  unfold MergePost at HM1
  rw [HBK.out.1, lo_hi HTL.out.ok] at HM1
  clear hz hnz hb ht1 ht2 hcut HCUT
  go_wp2_with fail
  refine HM1.out.mono ?_
  rintro e w4 ⟨po, rfl, hz, _, hb⟩
  obtain ⟨u, ok3, rfl, ht3⟩ := hz (by simp)
  have HB4 : zA (Below w.heap.size w w4) := ⟨HB3.out.trans (hb.mono HB3.out.size)⟩
  have HT4 := zA.mk (HT3.out.keep hb)
  have HQ4 := zA.mk (HQ3.out.keep hb)
  have HR4 := zA.mk (HR3.out.keep hb)
  have HU4 := zA.mk ht3
  have HM2 := zA.mk (merge_tab _ _ w4 r q s b' a' s (hiC s cs) (loC s cs) HR4.out HQ4.out HL1.out.2 HL1.out.1)
  unfold MergePost at HM2
  rw [HBK.out.2] at HM2
  clear hz hb ht3 HM1 HT3 HQ3 HR3 HB3
  go_wp2_with fail
  refine HM2.out.mono ?_
  rintro e w5 ⟨po, rfl, _, _, hb⟩
  have HB5 : zA (Below w.heap.size w w5) := ⟨HB4.out.trans (hb.mono HB4.out.size)⟩
  have HT5 := zA.mk (HT4.out.keep hb)
  have HQ5 := zA.mk (HQ4.out.keep hb)
  have HR5 := zA.mk (HR4.out.keep hb)
  have HU5 := zA.mk (HU4.out.keep hb)
  have hrt := HTL.out.rt
  unfold zFf at hrt
  simp only [Bool.and_eq_true, decide_eq_true_eq] at hrt
  have HRT : zA (∀ X, Below w5.heap.size w5 X → ∀ (v : Nat) (ok : Nat → Prop), TabAt ok w5 v a' b' cs → Calls Tryz.prog 26 #[.pointer (some ⟨v, 0, none⟩)] X fun e w' => ∃ A n c, e = .returned (.slice A n c) ∧ n = (rootM a' b' cs).length ∧ n ≤ c ∧ kB.C w' A n (rootM a' b' cs) ∧ Below X.heap.size X w') := ⟨fun X hX v ok hv => (root_tab ok X v a' b' cs (hv.keep hX) (by omega) (by omega)).mono fun e w' h => by
    obtain ⟨v, rfl, hr, hb⟩ := h
    obtain ⟨A, c, rfl, h2, h3⟩ := Kd.zEg hr
    exact ⟨A, _, c, rfl, rfl, h2, h3, hb⟩⟩
  have HRL : zA ((rootM a' b' cs).length ≤ 10000) := ⟨by rw [rootM_len]; omega⟩
  obtain ⟨rm, hrm⟩ : ∃ x, rootM a' b' cs = x := ⟨_, rfl⟩
  rw [hrm] at HRT HRL
  clear hrm
  have HLL : zA ((loC s cs).length + (hiC s cs).length = cs.length ∧ cs.length ≤ 32) := ⟨by rw [← List.length_append, lo_hi HTL.out.ok], HTL.out.len⟩
  clear hb hrt HM2 HT4 HQ4 HR4 HU4 HB4
  go_wp2_with fail
  refine (HRT.out w5 (Below.refl _ _) u _ HU5.out).mono ?_
  rintro e w6 ⟨A6, n6, c6, rfl, hn6, hc6, hC6, hb⟩
  have HB6 := zA.mk hb
  have HC6 := zA.mk (And.intro hn6 (And.intro hc6 hC6))
  clear hn6 hc6 hC6 hb
  go_wp2_with fail
  refine (HRT.out w6 HB6.out p _ HT5.out).mono ?_
  rintro e w7 ⟨A7, n7, c7, rfl, hn7, hc7, hC7, hb⟩
  have HB7 : zA (Below w5.heap.size w5 w7) := ⟨HB6.out.trans (hb.mono HB6.out.size)⟩
  have hsm := rsame_any A6 c6 rm A7 c7 rm w7 (by rw [← HC6.out.1]; exact Kd.zBa HC6.out.2.2 hb) (by rw [← HC6.out.1]; exact HC6.out.2.1) (by rw [← hn7]; exact hC7) (by rw [← hn7]; exact hc7) HRL.out
  rw [decide_eq_true rfl, ← hn7] at hsm
  have h67 : n6 = n7 := HC6.out.1.trans hn7.symm
  have HSM := zA.mk hsm
  subst h67
  clear hn7 hc7 hC7 hb hsm HC6 HRT HRL
  go_wp2_with fail
  refine HSM.out.mono ?_
  rintro e w8 ⟨rfl, hb⟩
  have HB8 : zA (Below w5.heap.size w5 w8) := ⟨HB7.out.trans (hb.mono HB7.out.size)⟩
  clear hb HSM
  go_wp2_with fail
  refine (zG _ w8 q _ _ _ (HQ5.out.keep HB8.out) HL1.out.1.ok (by have := HL1.out.1.len; omega)).mono ?_
  rintro e w9 ⟨v, rfl, hr, hb⟩
  obtain ⟨B1, k1, rfl, _, _⟩ := Kd.zEg hr
  have HB9 : zA (Below w5.heap.size w5 w9) := ⟨HB8.out.trans (hb.mono HB8.out.size)⟩
  clear hr hb
  obtain ⟨n1, hn1⟩ : ∃ n, (loC s cs).length = n := ⟨_, rfl⟩
  rw [hn1] at HLL ⊢
  clear hn1
  go_wp2_with fail
  refine (zG _ w9 r _ _ _ (HR5.out.keep HB9.out) HL1.out.2.ok (by have := HL1.out.2.len; omega)).mono ?_
  rintro e w10 ⟨v, rfl, hr, hb⟩
  obtain ⟨B2, k2, rfl, _, _⟩ := Kd.zEg hr
  have HB10 : zA (Below w5.heap.size w5 w10) := ⟨HB9.out.trans (hb.mono HB9.out.size)⟩
  clear hr hb
  obtain ⟨n2, hn2⟩ : ∃ n, (hiC s cs).length = n := ⟨_, rfl⟩
  rw [hn2] at HLL ⊢
  clear hn2
  go_wp2_with fail
  refine (zG _ w10 p _ _ _ (HT5.out.keep HB10.out) HTL.out.ok (by have := HTL.out.len; omega)).mono ?_
  rintro e w11 ⟨v, rfl, hr, hb⟩
  obtain ⟨B3, k3, rfl, _, _⟩ := Kd.zEg hr
  have HB11 : zA (Below w.heap.size w w11) := ⟨HB5.out.trans ((HB10.out.trans (hb.mono HB10.out.size)).mono HB5.out.size)⟩
  clear hr hb
  obtain ⟨n3, hn3⟩ : ∃ n, cs.length = n := ⟨_, rfl⟩
  rw [hn3] at HLL ⊢
  clear hn3
  have hll := HLL.out
  have y3 : n1 ≤ 32 := by omega
  have y4 : n2 ≤ 32 := by omega
  have y7 : wrap64 ((n1 : Int) + (n2 : Int)) = (n3 : Int) := by rw [PSplitCuts.w64 (by omega) (by omega)]; omega
  have y1 : ((n1 : Int) + (n2 : Int) == (n3 : Int)) = true := by clear y7; simp; omega
  clear hll HLL
  go_wp2_with fail
  refine (HAL.out _ HB11.out).mono ?_
  rintro e w12 ⟨rfl, hb, _⟩
  have HB12 := zA.mk hb
  clear hb
  go_wp2_with fail
  go_ret
  exact ⟨rfl, HB12.out⟩
end Go.Proofs.YtpckachmleonlaaGreatDoor
end
section
set_option linter.unusedVariables false
namespace Go.Proofs.YtpckachmleonlaaGreatDoor
open Go.RowKit Go.Proofs.YtpckachmleonlaaGreatDoorW.PrintWords
theorem splitBack_card (a b : ByteArray) (A : Option Addr) (c : Nat) (l : List CellM) (s : ByteArray) (W : World) (_ : a.size ≤ maxLen) (_ : b.size ≤ maxLen) (hr : kC.C W A l.length l) (hc : l.length ≤ c) (ok : ∀ x ∈ l, KeyOk x.f0) (_ : s.size ≤ maxLen) :
    Calls Tryz.prog 6 #[.string a, .string b, .slice A l.length c, .string s] W fun e W' => e = .returned (.bool true) ∧ Below W.heap.size W W' :=
  splitBack_law a b A c l s W hr hc (fun x hx => (ok x hx).1) (fun x hx => (ok x hx).2)
end Go.Proofs.YtpckachmleonlaaGreatDoor
end
