/- Words and walks for Split and Tablet: texts of these sessions, and of the kit's print, cut down to what is used (Q R S). -/
import Derived.Test.YtpckachmleonlaaGreatDoorCv11
import Derived.Deep.RegionHeld3
section
set_option linter.unusedVariables false
set_option linter.unusedSimpArgs false
namespace Go.Proofs.YtpckachmleonlaaGreatDoor
open Go.RowKit Go.Proofs.YtpckachmleonlaaGreatDoorW.PrintWords
set_option maxHeartbeats 1000000 in
theorem find_any (ok : Nat → Prop) (g n : Nat) (js : List Jt) (ks : List (Option Nat)) (h : List Int) (m : Nat) (B : Option Addr) (d : Nat) (key : List Int) (w : World) (hN : zEa ok w g n js ks h m) (hs : KSorted (js.map (·.1.2))) (hl : js.length ≤ 1000) (hk : kB.C w B key.length key) :
    Calls Tryz.prog 159 #[.pointer (some ⟨g, 0, none⟩), .slice B key.length d] w fun e w' => w' = w ∧ ∃ i : Nat, BsAt (js.map (·.1.2)) key i i ∧ e = .returned (.tuple #[.int .i64 i, .bool (decide (i < js.length) && (cmpI (rd_L (js.map (·.1.2)) i) key == 0))]) := by
  obtain ⟨Ak, ck, Av, cv, Ac, cc, As, cs, h1, h2, -⟩ := hN.ex
  have hc : w.cell? ⟨g, 1, none⟩ = some (.slice Ak js.length ck) := (zAc h1 1).trans rfl
  have hlt := zAj h1
  have hd := h2.now.deep
  rw [List.map_map] at hd
  have hL : (js.map (·.1.2)).length = js.length := List.length_map _
  have hd2 : Kd.C (Kd.slice 5 kB) w Ak (js.map (·.1.2)).length (js.map (·.1.2)) := hd
  have HB := zAa.mk (bsearch_any Ak B ck d (js.map (·.1.2)) key w hd2 (by rw [hL]; exact hl) hk hs)
  rw [hL] at HB
  clear h1 h2 hN hd hd2 hk hs hL
  generalize js.map (·.1.2) = kk at HB ⊢
  generalize js.length = m at HB hc hl ⊢
  go_enter Tryz.func159, Tryz.ntmps159
  go_wp2_with fail
  refine HB.out.mono ?_
  rintro e w1 ⟨rfl, i, hA, rfl⟩
  have HA := zAa.mk hA
  obtain ⟨b, hb⟩ : ∃ b, (decide (i < m) && (cmpI (rd_L kk i) key == 0)) = b := ⟨_, rfl⟩
  have HBB := zAa.mk hb
  clear hA
  rw [hb]
  clear hb
  go_wp2_with fail
  go_ret2
  exact ⟨rfl, i, HA.out, by rw [HBB.out]; rfl⟩
inductive Found (js : List Jt) (key : List Int) : Nat → Bool → Prop
  | there {P Q : List Jt} {q : Jt} : js = P ++ q :: Q → q.1.2 = key → zFd (P.map Jt.it) key → Above key (Q.map Jt.it) → Found js key P.length true
  | not_ {P Q : List Jt} : js = P ++ Q → zFd (P.map Jt.it) key → Above key (Q.map Jt.it) → Found js key P.length false
theorem found_of {js : List Jt} {key : List Int} {i : Nat} (h : BsAt (js.map (·.1.2)) key i i) (hs : KSorted (js.map (·.1.2))) (hb : ∀ j ∈ js, IsB j.1.2) (hk : IsB key) : Found js key i (decide (i < js.length) && (cmpI (rd_L (js.map (·.1.2)) i) key == 0)) := by
  have hil : i ≤ js.length := by have := h.jn; rwa [List.length_map] at this
  have hrd : ∀ m (hm : m < js.length), rd_L (js.map (·.1.2)) m = js[m].1.2 := fun m hm => by simp [rd_L, List.getD_eq_getElem?_getD, hm]
  have hlo : zFd ((js.take i).map Jt.it) key := by
    intro x hx
    obtain ⟨j, hj, rfl⟩ := List.mem_map.1 hx
    obtain ⟨m, hm, rfl⟩ := List.mem_iff_getElem.1 hj
    have hm2 : m < i := by rw [List.length_take] at hm; omega
    have := h.lo m hm2
    rw [hrd m (by omega)] at this
    simpa [Jt.it, ltI] using this
  have hpl : (js.take i).length = i := by rw [List.length_take]; omega
  by_cases hlt : i < js.length
  · have hge := h.hi i (Nat.le_refl _) (by rw [List.length_map]; exact hlt)
    rw [hrd i hlt] at hge
    rw [hrd i hlt]
    by_cases h0 : cmpI js[i].1.2 key = 0
    · have e : js = js.take i ++ js[i] :: js.drop (i + 1) := by rw [← List.drop_eq_getElem_cons hlt, List.take_append_drop]
      have hab : Above key ((js.drop (i + 1)).map Jt.it) := by
        intro x hx
        obtain ⟨j, hj, rfl⟩ := List.mem_map.1 hx
        obtain ⟨m, hm, rfl⟩ := List.mem_iff_getElem.1 hj
        rw [List.length_drop] at hm
        have h2 := rd_lt hs (i := i) (j := i + 1 + m) (by omega) (by rw [List.length_map]; omega)
        rw [hrd i hlt, hrd (i + 1 + m) (by omega)] at h2
        have e2 : js[i].1.2 = key := cmpI_eq (hb _ (List.getElem_mem hlt)) hk h0
        rw [e2] at h2
        simpa [Jt.it] using h2
      have := Found.there e (cmpI_eq (hb _ (List.getElem_mem hlt)) hk h0) hlo hab
      rw [hpl] at this
      simpa [hlt, h0] using this
    · have hab : Above key ((js.drop i).map Jt.it) := by
        intro x hx
        obtain ⟨j, hj, rfl⟩ := List.mem_map.1 hx
        obtain ⟨m, hm, rfl⟩ := List.mem_iff_getElem.1 hj
        rw [List.length_drop] at hm
        have h1 : ltI key js[i].1.2 := ltI_of_gt (by omega)
        rcases Nat.eq_zero_or_pos m with rfl | hm0
        · simpa [Jt.it] using h1
        · have h2 := rd_lt hs (i := i) (j := i + m) (by omega) (by rw [List.length_map]; omega)
          rw [hrd i hlt, hrd (i + m) (by omega)] at h2
          have := ltI_trans h1 h2
          simpa [Jt.it] using this
      have := Found.not_ (List.take_append_drop i js).symm hlo hab
      rw [hpl] at this
      have e0 : (cmpI js[i].1.2 key == 0) = false := by rw [beq_eq_false_iff_ne]; exact h0
      rw [e0, Bool.and_false]
      exact this
  · have := Found.not_ (List.take_append_drop i js).symm hlo (by rw [List.drop_eq_nil_of_le (by omega)]; intro x hx; simp at hx)
    rw [hpl] at this
    simpa [hlt] using this
end Go.Proofs.YtpckachmleonlaaGreatDoor
end
section
set_option linter.unusedVariables false
set_option linter.unusedSimpArgs false
namespace Go.Proofs.YtpckachmleonlaaGreatDoor
open Go.RowKit Go.Proofs.YtpckachmleonlaaGreatDoorW.PrintWords
theorem RAt.take {w : World} {A : Option Addr} {c c' i : Nat} {ys : List (Hd × List Int)} (h : RAt w A c ys) (hi : i ≤ ys.length) (hc : i ≤ c') : RAt w A c' (ys.take i) := by
  refine ⟨?_, by rw [List.length_take]; omega, fun y hy => h.b y (List.mem_of_mem_take hy)⟩
  have h1 := h.row
  rw [show ys.length = (ys.map (·.1)).length from (List.length_map _).symm] at h1
  have := Kd.C_take (m := i) h1 (by rw [List.length_map]; exact hi)
  rw [← List.map_take, List.length_map] at this
  exact this
theorem RAt.drop {w : World} {A : Option Addr} {c i : Nat} {ys : List (Hd × List Int)} (h : RAt w A c ys) (hi : i ≤ ys.length) : RAt w (if c = i then A else A.map (·.add i)) (c - i) (ys.drop i) := by
  refine ⟨?_, by rw [List.length_drop]; have := h.c; omega, fun y hy => h.b y (List.mem_of_mem_drop hy)⟩
  have h1 := h.row
  rw [show ys.length = (ys.map (·.1)).length from (List.length_map _).symm] at h1
  have := Kd.C_drop (m := i) (c := c) h1 (by rw [List.length_map]; exact hi) (by rw [List.length_map]; exact h.c)
  rw [← List.map_drop, List.length_map, show i * (Kd.sz kS) = i from Nat.mul_one i] at this
  exact this
theorem PAt.take {w : World} {A : Option Addr} {c c' i : Nat} {ks : List (Option Nat)} (h : PAt w A c ks) (hi : i ≤ ks.length) (hc : i ≤ c') : PAt w A c' (ks.take i) :=
  ⟨Kd.C_take (m := i) h.row hi, by rw [List.length_take]; omega⟩
theorem PAt.drop {w : World} {A : Option Addr} {c i : Nat} {ks : List (Option Nat)} (h : PAt w A c ks) (hi : i ≤ ks.length) : PAt w (if c = i then A else A.map (·.add i)) (c - i) (ks.drop i) :=
  ⟨by have := Kd.C_drop (m := i) (c := c) h.row hi h.c; rwa [show i * (Kd.sz kP) = i from Nat.mul_one i] at this, by rw [List.length_drop]; have := h.c; omega⟩
theorem add_succ (ad : Addr) (i : Nat) : ad.add (i + 1) = ⟨ad.block, ad.off + (i + 1), none⟩ := by unfold Addr.add; simp
theorem kids_at {zs : List Kid} {i : Nat} (h : i < zs.length) : ∃ A z C, zs = A ++ z :: C ∧ A.length = i := ⟨zs.take i, zs[i], zs.drop (i + 1), by rw [← List.drop_eq_getElem_cons h, List.take_append_drop], by rw [List.length_take]; omega⟩
theorem PAt_FF {w : World} {base : Nat} {ok : Nat → Prop} {A : Option Addr} {n c : Nat} {xs : List (Option Nat)} (h : Kd.R kP 110 w base ok (.slice A n c) xs) : FF (fun W => PAt W A c xs) (fun k => base ≤ k) w := (R_FF h).imp fun W ⟨h1, h2, h3⟩ => ⟨h2 ▸ h1, h2 ▸ h3⟩
theorem sorted_keys {js : List Jt} (h : Sorted (js.map Jt.it)) : KSorted (js.map (·.1.2)) := by
  unfold KSorted
  rw [List.pairwise_map]
  exact (List.pairwise_map.1 h).imp fun h => h
theorem zDa {n : Nat} {js : List Jt} {zs : List Kid} (h : LvOk n (zs.map (·.2)) (js.map Jt.it)) (x : It) : x ∈ partL js zs ↔ x ∈ js.map Jt.it ∨ ∃ z ∈ zs, x ∈ z.2 := by
  rw [partL, mem_inter h.len]
  refine or_congr_right ⟨?_, ?_⟩
  · rintro ⟨s, hs, hx⟩
    obtain ⟨z, hz, rfl⟩ := List.mem_map.1 hs
    exact ⟨z, hz, hx⟩
  · rintro ⟨z, hz, hx⟩
    exact ⟨z.2, List.mem_map_of_mem hz, hx⟩
theorem zGe {n : Nat} {js : List Jt} {zs : List Kid} (h : LvOk n (zs.map (·.2)) (js.map Jt.it)) (hj : js ≠ []) : ∀ z ∈ zs, z.2.length < (partL js zs).length := fun z hz => by
  have := inter_len h.len z.2 (List.mem_map_of_mem hz)
  have h2 := List.length_pos_iff.2 hj
  rw [List.length_map] at this
  unfold partL
  omega
theorem ItOk.sub {l l' : List It} (h : ItOk l) (hl : l'.length ≤ l.length) (hm : ∀ x ∈ l', x ∈ l) : ItOk l' := ⟨Nat.le_trans hl h.n, fun x hx => h.k x (hm x hx)⟩
theorem inter_kids : ∀ {ss : List (List It)} {is : List It}, ss.length = is.length + 1 → Sorted (inter ss is) → ∀ s ∈ ss, Sorted s
  | [s], [], _, hs => fun t ht => by
    rw [List.mem_singleton.1 ht]
    exact hs
  | s :: ss, i :: is, h, hs => fun t ht => by
    have h1 : ss.length = is.length + 1 := by simpa using h
    obtain ⟨h0, h2, _⟩ := Sorted.app (a := s) (b := i :: inter ss is) hs
    rcases List.mem_cons.1 ht with rfl | ht
    · exact h0
    · exact inter_kids h1 (List.pairwise_cons.1 h2).2 t ht
  | [], _, h, _ => by simp at h
  | _ :: _ :: _, [], h, _ => by simp at h
theorem kid_sorted {n : Nat} {js : List Jt} {zs : List Kid} (h : LvOk n (zs.map (·.2)) (js.map Jt.it)) (hs : Sorted (partL js zs)) : ∀ z ∈ zs, Sorted z.2 := fun z hz => inter_kids h.len hs z.2 (List.mem_map_of_mem hz)
theorem split_law {n : Nat} {P Q : List Jt} {A C : List Kid} {z : Kid} {key : List Int} {la lb : List It} {a b : Option Nat} (hl : LvOk n ((A ++ z :: C).map (·.2)) ((P ++ Q).map Jt.it)) (hA : A.length = P.length) (hs : Sorted (partL (P ++ Q) (A ++ z :: C)))
    (hP : zFd (P.map Jt.it) key) (hQ : Above key (Q.map Jt.it)) (hz : z.2 = la ++ lb) (hla : zFd la key) (hlb : Above key lb) :
    partL (P ++ Q) (A ++ z :: C) = partL P (A ++ [(a, la)]) ++ partL Q ((b, lb) :: C) ∧ LvOk n ((A ++ [(a, la)]).map (·.2)) (P.map Jt.it) ∧ LvOk n (((b, lb) :: C).map (·.2)) (Q.map Jt.it) ∧ zFd (partL P (A ++ [(a, la)])) key ∧ Above key (partL Q ((b, lb) :: C)) := by
  have hlen := hl.len
  have hC : C.length = Q.length := by simp at hlen; omega
  have e : partL (P ++ Q) (A ++ z :: C) = partL P (A ++ [(a, la)]) ++ partL Q ((b, lb) :: C) := by
    simp only [partL, List.map_append, List.map_cons, List.map_nil, hz]
    exact zFc (by simp [hA])
  have l1 : LvOk n ((A ++ [(a, la)]).map (·.2)) (P.map Jt.it) := by
    refine ⟨by simp [hA], fun i hi => hl.keys i (by rw [List.map_append]; exact List.mem_append_left _ hi), fun s hs x hx => ?_⟩
    rw [List.map_append] at hs
    rcases List.mem_append.1 hs with h | h
    · exact hl.below s (by rw [List.map_append]; exact List.mem_append_left _ h) x hx
    · simp only [List.map_cons, List.map_nil, List.mem_singleton] at h
      subst h
      exact hl.below z.2 (by simp) x (by rw [hz]; exact List.mem_append_left _ hx)
  have l2 : LvOk n (((b, lb) :: C).map (·.2)) (Q.map Jt.it) := by
    refine ⟨by simp [hC], fun i hi => hl.keys i (by rw [List.map_append]; exact List.mem_append_right _ hi), fun s hs x hx => ?_⟩
    rw [List.map_cons] at hs
    rcases List.mem_cons.1 hs with h | h
    · subst h
      exact hl.below z.2 (by simp) x (by rw [hz]; exact List.mem_append_right _ hx)
    · exact hl.below s (by rw [List.map_append, List.map_cons]; exact List.mem_append_right _ (List.mem_cons_of_mem _ h)) x hx
  rw [e] at hs
  obtain ⟨s1, s2, _⟩ := hs.app
  refine ⟨e, l1, l2, ?_, ?_⟩
  · have := inter_below (x := la) (k := key) (A := A.map (·.2)) (P := P.map Jt.it) (by simp [hA]) (by simpa [partL] using s1) hP hla
    simpa [partL] using this
  · have := inter_above (k := key) (B := C.map (·.2)) (y := lb) (Q := Q.map Jt.it) (by simp [hC]) (by simpa [partL] using s2) hQ hlb
    simpa [partL] using this
end Go.Proofs.YtpckachmleonlaaGreatDoor
end
section
set_option linter.unusedVariables false
set_option linter.unusedSimpArgs false
namespace Go.Proofs.YtpckachmleonlaaGreatDoor
open Go.RowKit Go.Proofs.YtpckachmleonlaaGreatDoorW.PrintWords
theorem keep4 {w W : World} {g : Nat} {C : Array Value} {c0 c1 c2 c3 : Value} (h : w.heap[g]? = some (.cells C 150 (0, 0))) (hb : Below w.heap.size w W) (e0 : C[0]? = some c0) (e1 : C[1]? = some c1) (e2 : C[2]? = some c2) (e3 : C[3]? = some c3) :
  W.cell? ⟨g, 0, none⟩ = some c0 ∧ W.cell? ⟨g, 1, none⟩ = some c1 ∧ W.cell? ⟨g, 2, none⟩ = some c2 ∧ W.cell? ⟨g, 3, none⟩ = some c3 :=
 ⟨(zAc (zAf h hb) 0).trans e0, (zAc (zAf h hb) 1).trans e1, (zAc (zAf h hb) 2).trans e2, (zAc (zAf h hb) 3).trans e3⟩
theorem C_p1 {w : World} {β t : Nat} {a : Option Nat} {v : Value} {fz : Nat × Nat} (h : w.heap[β]? = some (.cells #[v] t fz)) (e : ptrV a = v) : Kd.C kP w (some ⟨β, 0, none⟩) 1 [a] := by
 subst e
 refine ⟨rfl, by simp, fun _ => ⟨_, rfl, fun j p hj => ?_⟩⟩
 have hj0 : j = 0 := by
  have := (List.getElem?_eq_some_iff.1 hj).1
  simp at this
  omega
 subst hj0
 injection hj with hj
 subst hj
 refine ⟨[ptrV a], rfl, rfl, fun i u hu => ?_⟩
 rw [Addr.add_mid, cell_of_row w β _ _ t fz h]
 have hi0 : i = 0 := by
  have := (List.getElem?_eq_some_iff.1 hu).1
  simp at this
  omega
 subst hi0
 simpa using hu
theorem bl_to {w2 X W : World} (h : Below w2.heap.size w2 X) (hb : Below X.heap.size X W) : Below w2.heap.size w2 W := h.trans (hb.mono h.size)
theorem rl_to {α : Type} {d : Kd α} {e : Nat} {ok : Nat → Prop} {v : Value} {xs : List α} {w2 X W : World} (h : Below w2.heap.size w2 X) (hr : Kd.R d e W X.heap.size ok v xs) : Kd.R d e W w2.heap.size ok v xs := Kd.zCj hr h.size
theorem own1 {W : World} {base : Nat} {b : Option Nat} {v : Value} (e : ptrV b = v) (hb : base ≤ W.heap.size) : Kd.R kP 110 (W.alloc (.cells #[v] 110)) base (fun _ => True) (.slice (some ⟨W.heap.size, 0, none⟩) 1 1) [b] := by
 subst e
 exact Kd.R_of_own ⟨rfl, .inr ⟨W.heap.size, 1, #[ptrV b], rfl, hb, heap_alloc_new _ _, Nat.le_refl _, by unfold maxLen; decide, rfl, rfl⟩⟩ (fun _ _ => trivial)
def SplitPost (ok : Nat → Prop) (l : List It) (key : List Int) (w : World) (e : Ending) (w' : World) : Prop := ∃ a b la lb, e = .returned (.tuple #[ptrV a, ptrV b]) ∧ l = la ++ lb ∧ zFd la key ∧ Above key lb ∧ PartAt ok w' a la ∧ PartAt ok w' b lb ∧ Below w.heap.size w w'
set_option maxHeartbeats 8000000 in
set_option maxRecDepth 100000 in
theorem split_any (ok : Nat → Prop) (B : Option Addr) (d : Nat) (key : List Int) (hkb : IsB key) : ∀ (N : Nat) (o : Option Nat) (l : List It) (w : World), l.length < N → (∀ k, w.heap.size ≤ k → ok k) → PartAt ok w o l → ItOk l → Sorted l → kB.C w B key.length key → (∀ x ∈ l, x.1 ≠ key) →
  Calls Tryz.prog 157 #[ptrV o, .slice B key.length d] w (SplitPost ok l key w)
 | 0, _, _, _, h, _, _, _, _, _, _ => absurd h (Nat.not_lt_zero _)
 | N + 1, o, l, w, hl, hok, hp, hi, hs, hk, hno => by
  rcases hp.inv with ⟨rfl, rfl⟩ | ⟨g, n, js, zs, rfl, rfl, hN, hL, hj, hz⟩
  ·clear hp
   change Calls Tryz.prog 157 #[.pointer none, .slice B key.length d] w _
   go_enter Tryz.func157, Tryz.ntmps157
   go_wp2_with fail
   go_ret2
   exact ⟨none, none, [], [], rfl, rfl, fun x hx => by simp at hx, fun x hx => by simp at hx, .nil_, .nil_, Below.refl _ _⟩
  ·have hjk : Sorted (js.map Jt.it) := inter_keys (l := []) hL.len hs
   have hjm : ∀ j ∈ js, j.it ∈ partL js zs := fun j hj => (zDa hL _).2 (.inl (List.mem_map_of_mem hj))
   have hj100 : js.length ≤ 100 := by have := zDh hL; have := hi.n; omega
   have HF := zAa.mk (find_any ok g n js _ _ _ B d key w hN (sorted_keys hjk) (by omega) hk)
   have HFO : zAa (∀ i, BsAt (js.map (·.1.2)) key i i → Found js key i (decide (i < js.length) && (cmpI (rd_L (js.map (·.1.2)) i) key == 0))) := ⟨fun i h => found_of h (sorted_keys hjk) (fun j hj => (hi.k _ (hjm j hj)).2.2) hkb⟩
   have HNO : zAa (∀ j ∈ js, j.1.2 ≠ key) := ⟨fun j hj => hno _ (hjm j hj)⟩
   have HN := zAa.mk hN
   have HL := zAa.mk hL
   have HI := zAa.mk hi
   have HS := zAa.mk hs
   have HK := zAa.mk hk
   have HX := zAa.mk hno
   have HZ := zAa.mk hz
   have HJ := zAa.mk hj
   have HOK := zAa.mk hok
   have hgl : g < w.heap.size := zAj hN.ex.choose_spec.choose_spec.choose_spec.choose_spec.choose_spec.choose_spec.choose_spec.choose_spec.1
   have HLN := zAa.mk hl
   clear hjk hjm hp hi hs hk hno hz hj hok hN hL hl
   change Calls Tryz.prog 157 #[.pointer (some ⟨g, 0, none⟩), .slice B key.length d] w _
   go_enter Tryz.func157, Tryz.ntmps157
   go_wp2_with fail
   refine HF.out.mono ?_
   rintro e w1 ⟨rfl, i, hA, rfl⟩
   have hFO := HFO.out i hA
   obtain ⟨b, hb⟩ : ∃ b, (decide (i < js.length) && (cmpI (rd_L (js.map (·.1.2)) i) key == 0)) = b := ⟨_, rfl⟩
   rw [hb] at hFO ⊢
   clear hb hA HF HFO
   cases hFO with
   | there he hq _ _ => exact absurd hq (HNO.out _ (by rw [he]; simp))
   | @not_ P Q he hPb hQa =>
    subst he
    have hzl : P.length < zs.length := by have := HL.out.len; simp at this; omega
    obtain ⟨A, z, C, rfl, hAl⟩ := kids_at hzl
    obtain ⟨Ak, ck, Av, cv, Ac, cc, As, cs, h1, h2, h3, h4, -⟩ := HN.out.ex
    obtain ⟨i, hi⟩ : ∃ i, P.length = i := ⟨_, rfl⟩
    obtain ⟨q, hq⟩ : ∃ q, Q.length = q := ⟨_, rfl⟩
    have e1 : (P ++ Q).length = i + q := by rw [List.length_append, hi, hq]
    have e2 : ((A ++ z :: C).map (·.1)).length = i + q + 1 := by have := HL.out.len; rw [List.length_map, List.length_map, e1] at this; rw [List.length_map]; exact this
    rw [e1, e2] at h1
    obtain ⟨adc, hAc, hcb, hcc⟩ := kP_at h4.now.row i (by rw [e2]; omega)
    have hzc : (((A ++ z :: C).map (·.1)).getD i none) = z.1 := by rw [List.map_append, List.map_cons, List.getD_eq_getElem?_getD, List.getElem?_append_right (by rw [List.length_map, hAl, hi]; exact Nat.le_refl _), List.length_map, hAl, hi, Nat.sub_self]; rfl
    rw [hzc] at hcc
    subst hAc
    have hpos : 0 < i + q := by rw [← e1]; exact List.length_pos_iff.2 HJ.out
    obtain ⟨adk, hAk, -⟩ := h2.now.row.2.2 (by rw [List.length_map, e1]; exact hpos)
    obtain ⟨adv, hAv, -⟩ := h3.now.row.2.2 (by rw [List.length_map, e1]; exact hpos)
    subst hAk
    subst hAv
    have hkc : i + q ≤ ck := by have := h2.now.c; rwa [List.length_map, e1] at this
    have hvc : i + q ≤ cv := by have := h3.now.c; rwa [List.length_map, e1] at this
    have hcc2 : i + q + 1 ≤ cc := by have := h4.now.c; rwa [e2] at this
    have H1 := zAa.mk h1
    have H2 := zAa.mk h2
    have H3 := zAa.mk h3
    have H4 := zAa.mk h4
    have HI1 := zAa.mk hi
    have HQ1 := zAa.mk hq
    rw [e1] at hj100
    have d3 : w1.cell? ⟨g, 3, none⟩ = some (.slice (some adc) (i + q + 1) cc) := (zAc h1 3).trans rfl
    have HREC := zAa.mk (split_any ok B d key hkb N z.1 z.2 w1 (by have h9 := zGe HL.out HJ.out z (by simp); have := HLN.out; omega) HOK.out (HZ.out z (by simp)) (HI.out.sub (by have h9 := zGe HL.out HJ.out z (by simp); omega) (fun x hx => (zDa HL.out x).2 (.inr ⟨z, by simp, hx⟩)))
     (kid_sorted HL.out HS.out z (by simp)) HK.out (fun x hx => HX.out x ((zDa HL.out x).2 (.inr ⟨z, by simp, hx⟩))))
    rw [hi]
    clear h1 h2 h3 h4 hi hq e1 e2 hzl hzc
    obtain ⟨o, ho⟩ : ∃ o, z.1 = o := ⟨_, rfl⟩
    rw [ho] at hcc HREC
    have HO := zAa.mk ho
    clear ho
    go_upto_region 5 with (go_at_call 157; refine HREC.out.mono ?_; rintro e w2 ⟨a, b, la, lb, he, hab, hla, hlb, hpa, hpb, hb2⟩; obtain ⟨pa, hPa⟩ : ∃ pa, ptrV a = .pointer pa := ⟨_, rfl⟩; obtain ⟨pb, hPb2⟩ : ∃ pb, ptrV b = .pointer pb := ⟨_, rfl⟩; rw [hPa, hPb2] at he; subst he; have HPa := zAa.mk hPa; have HPb := zAa.mk hPb2; clear hPa hPb2; have HAB := zAa.mk hab; have HLA := zAa.mk hla; have HLB := zAa.mk hlb; have HPA := zAa.mk hpa; have HPB := zAa.mk hpb; have HB2 := zAa.mk hb2; clear hab hla hlb hpa hpb hb2 HREC)
    have hAB := HAB.out
    have hSL := split_law (a := a) (b := b) HL.out hAl HS.out hPb hQa HAB.out HLA.out HLB.out
    obtain ⟨hE, hL1, hL2, hB1, hB2⟩ := hSL
    have HL1 := zAa.mk hL1
    have HL2 := zAa.mk hL2
    have HLL := zAa.mk (And.intro hE (And.intro hB1 hB2))
    clear hE hL1 hL2 hB1 hB2 hAB hPb hQa
    have HCL : zAa (∀ X, Below w1.heap.size w1 X → Calls Tryz.prog 163 #[.slice (some adc) i cc] X fun e w' => ∃ v, e = .returned v ∧ Kd.R kP 110 w' X.heap.size (fun _ => True) v (A.map (·.1)) ∧ Below X.heap.size X w') := ⟨fun X hX => by
     have h4 := (H4.out.keep hX).now
     have ht := (h4.take (i := i) (c' := cc) (by rw [List.length_map, List.length_append, hAl, HI1.out]; omega) (by omega))
     have he : ((A ++ z :: C).map (·.1)).take i = A.map (·.1) := by rw [List.map_append, List.take_left' (by rw [List.length_map, hAl, HI1.out])]
     rw [he] at ht
     have hq := cloneP_any (some adc) cc (A.map (·.1)) X ht.row (by rw [List.length_map, hAl, HI1.out]; omega) (by rw [List.length_map, hAl, HI1.out]; omega)
     rw [List.length_map, hAl, HI1.out] at hq
     exact hq⟩
    have HNA : zAa (∀ W A4 c4, Below w2.heap.size w2 W → FF (fun W => PAt W A4 c4 (A.map (·.1) ++ [a])) ok W → Calls Tryz.prog 158 #[.int .i64 n, .slice (some adk) i i, .slice (some adv) i i, .slice A4 (i + 1) c4] W fun e w' => ∃ o, e = .returned (ptrV o) ∧ PartAt ok w' o (partL P (A ++ [(a, la)])) ∧ Below W.heap.size W w') := ⟨fun W A4 c4 hW hR => by
     have hW1 : Below w1.heap.size w1 W := HB2.out.trans (hW.mono HB2.out.size)
     have hPl : (P.map (·.1)).length = i := by rw [List.length_map, HI1.out]
     have t2 := (H2.out.keep hW1).imp (fun W h => h.take (i := i) (c' := i) (by rw [List.length_map, List.length_append, HI1.out]; omega) (Nat.le_refl _))
     have t3 := (H3.out.keep hW1).imp (fun W h => h.take (i := i) (c' := i) (by rw [List.length_map, List.length_append, HI1.out]; omega) (Nat.le_refl _))
     rw [List.map_append, List.take_left' hPl] at t2
     rw [List.map_append, List.take_left' (by rw [List.length_map, HI1.out])] at t3
     have hq := node_any ok n (some adk) (some adv) A4 i i c4 P (A ++ [(a, la)]) W (fun k hk => HOK.out k (Nat.le_trans hW1.size hk)) t2 t3 (by rw [List.map_append]; exact hR) (fun y hy => by
      rcases List.mem_append.1 hy with hy | hy
      ·exact (HZ.out y (List.mem_append_left _ hy)).keep hW1
      ·rw [List.mem_singleton.1 hy]
       exact HPA.out.keep hW) HL1.out (HI.out.sub (by rw [HLL.out.1, List.length_append]; omega) (fun x hx => by rw [HLL.out.1]; exact List.mem_append_left _ hx))
     rw [List.length_append, List.length_singleton, hAl, HI1.out] at hq
     exact hq⟩
    have i1 : (i : Int) ≤ (ck : Int) := by omega
    have i2 : (i : Int) ≤ (cv : Int) := by omega
    have i3 : (i : Int) ≤ (cc : Int) := by omega
    go_region_held3 (fun w' => w'.cell? ⟨g, 0, none⟩ = some (.int .i64 n) ∧ w'.cell? ⟨g, 1, none⟩ = some (.slice (some adk) (i + q) ck) ∧ w'.cell? ⟨g, 2, none⟩ = some (.slice (some adv) (i + q) cv) ∧ w'.cell? ⟨g, 3, none⟩ = some (.slice (some adc) (i + q + 1) cc))
     (first | exact keep4 H1.out (by repeat (first | exact HB2.out | exact HB3.out | exact HB4.out | exact HB5.out | refine zAg ?_ | refine zAb ?_ _)) rfl rfl rfl rfl)
     (first
      | (go_at_call 163; refine (HCL.out _ (by repeat (first | exact HB2.out | refine zAg ?_ | refine zAb ?_ _))).mono ?_; rintro e W3 ⟨v3, rfl, hr, hb⟩; have HS3 := zAa.mk hb; have HR3 := zAa.mk (rl_to (w2 := w2) (by repeat (first | exact Below.refl _ _ | refine zAg ?_ | refine zAb ?_ _)) hr); have HB3' := zAa.mk (bl_to (w2 := w2) (by repeat (first | exact Below.refl _ _ | refine zAg ?_ | refine zAb ?_ _)) hb); have HB3 := zAa.mk (bl_to HB2.out HB3'.out); clear hr hb; obtain ⟨A3, c3, e3⟩ := Kd.zAk HR3.out; rw [List.length_map, hAl, HI1.out] at e3; subst e3)
      | (go_at_call 158; refine (HNA.out _ _ _ HB4'.out ((PAt_FF HR4.out).mono (fun k hk => HOK.out k (Nat.le_trans HB2.out.size hk)))).mono ?_; rintro e W5 ⟨o5, rfl, hp, hb⟩; have HP5 := zAa.mk hp; have HB5' := zAa.mk (bl_to HB4'.out hb); have HB5 := zAa.mk (bl_to HB2.out HB5'.out); clear hp hb)
      | (refine Kd.R_append_rows_step kP (Rr := kP.K w2) (w0 := w2) w2.heap.size (by rfl) (.tmp 54) (.tmp 56) 148 110 (.pointer none) 8 rfl Tryz.underlying148 info110 rfl (by decide) (by omega) (.slice A3 i c3) (A.map (·.1)) [a] _ 1 1 (fun _ => True) (fun _ => False) rfl rfl (by first | exact HR3.out | exact Kd.zEb HR3.out _) (by first | exact C_p1 (heap_alloc_new _ _) HPa.out | exact C_p1 (zAf (heap_alloc_new w2.drew _) HS3.out) HPa.out) (fun x cs h => h) (fun _ hk => hk.elim) (fun _ _ => trivial) (by first | exact HB3'.out | exact zAb HB3'.out _) (by first | exact HB3'.out.size | exact (zAb HB3'.out _).size) (by rw [List.length_map, hAl, HI1.out]; omega) ?_; intro v4 W4 ho hb hg hat; have HR4 := zAa.mk ho; have HB4' := zAa.mk hb; have HB4 := zAa.mk (bl_to HB2.out hb); clear ho hb hg hat; obtain ⟨A4, c4, e4⟩ := Kd.zAk HR4.out; rw [List.length_append, List.length_singleton, List.length_map, hAl, HI1.out] at e4; subst e4))
    all_goals
     obtain ⟨Xk, hXk⟩ : ∃ X, (if ck = i then some adk else some (adk.add i)) = X := ⟨_, rfl⟩
     obtain ⟨Xv, hXv⟩ : ∃ X, (if cv = i then some adv else some (adv.add i)) = X := ⟨_, rfl⟩
     obtain ⟨Xc, hXc⟩ : ∃ X, (if cc = i + 1 then some adc else some (⟨adc.block, adc.off + (i + 1), none⟩ : Addr)) = X := ⟨_, rfl⟩
     have HNB : zAa (∀ W A4 c4, Below W5.heap.size W5 W → FF (fun W => PAt W A4 c4 (b :: C.map (·.1))) ok W → Calls Tryz.prog 158 #[.int .i64 n, .slice Xk q (ck - i), .slice Xv q (cv - i), .slice A4 (q + 1) c4] W fun e w' => ∃ o, e = .returned (ptrV o) ∧ PartAt ok w' o (partL Q ((b, lb) :: C)) ∧ Below W.heap.size W w') := ⟨fun W A4 c4 hW hR => by
      have hW2 : Below w2.heap.size w2 W := HB5'.out.trans (hW.mono HB5'.out.size)
      have hW1 : Below w1.heap.size w1 W := HB2.out.trans (hW2.mono HB2.out.size)
      have hPl : (P.map (·.1)).length = i := by rw [List.length_map, HI1.out]
      have hPl2 : (P.map (·.2)).length = i := by rw [List.length_map, HI1.out]
      have t2 := (H2.out.keep hW1).imp (fun W h => h.drop (i := i) (by rw [List.length_map, List.length_append, HI1.out]; omega))
      have t3 := (H3.out.keep hW1).imp (fun W h => h.drop (i := i) (by rw [List.length_map, List.length_append, HI1.out]; omega))
      rw [List.map_append, List.drop_left' hPl] at t2
      rw [List.map_append, List.drop_left' hPl2] at t3
      rw [Option.map_some, hXk] at t2
      rw [Option.map_some, hXv] at t3
      have hq := node_any ok n _ _ A4 (ck - i) (cv - i) c4 Q ((b, lb) :: C) W (fun k hk => HOK.out k (Nat.le_trans hW1.size hk)) t2 t3 (by rw [List.map_cons]; exact hR) (fun y hy => by
       rcases List.mem_cons.1 hy with hy | hy
       ·rw [hy]
        exact HPB.out.keep hW2
       ·exact (HZ.out y (List.mem_append_right _ (List.mem_cons_of_mem _ hy))).keep hW1) HL2.out (HI.out.sub (by rw [HLL.out.1, List.length_append]; omega) (fun x hx => by rw [HLL.out.1]; exact List.mem_append_right _ hx))
      have hC : C.length = q := by have h1 := HL2.out.len; simp at h1; have := HQ1.out; omega
      rw [List.length_cons, hC, HQ1.out] at hq
      exact hq⟩
     have HTL : zAa (∀ X, Below w1.heap.size w1 X → Kd.C kP X Xc q (C.map (·.1))) := ⟨fun X hX => by
      have h4 := (H4.out.keep hX).now
      have ht := (h4.drop (i := i + 1) (by rw [List.length_map, List.length_append, List.length_cons, hAl, HI1.out]; omega))
      have he : ((A ++ z :: C).map (·.1)).drop (i + 1) = C.map (·.1) := by rw [List.map_append, List.map_cons, ← List.drop_drop, List.drop_left' (by rw [List.length_map, hAl, HI1.out])]; rfl
      rw [he] at ht
      have hC : (C.map (·.1)).length = q := by have h1 := HL2.out.len; simp at h1; have := HQ1.out; rw [List.length_map]; omega
      have := ht.row
      rw [hC, Option.map_some, add_succ, hXc] at this
      exact this⟩
     obtain ⟨p5, hp5⟩ : ∃ p5, ptrV o5 = .pointer p5 := ⟨_, rfl⟩
     have HP5' := zAa.mk hp5
     clear HCL HNA hp5
    all_goals
     rw [HP5'.out]
     go_upto_region 6 with fail
     have m1 : (i : Int) + (q : Int) ≤ (ck : Int) := by omega
     have m2 : (i : Int) + (q : Int) ≤ (cv : Int) := by omega
     have m3 : (i : Int) + (q : Int) + 1 ≤ (cc : Int) := by omega
     have m4 : (i : Int) ≤ (i : Int) + (q : Int) := by omega
     have m5 : i + q - i = q := by omega
     have m6 : i + q + 1 - (i + 1) = q := by omega
     have k1 : (i : Int) + 1 ≤ (cc : Int) := by omega
     have k2 : (i : Int) + 1 ≤ (i : Int) + (q : Int) + 1 := by omega
     have k3 : (0 : Int) ≤ (i : Int) + 1 := by omega
     have k4 : ((i : Int) + 1).toNat = i + 1 := by omega
     have k5 : IntKind.i64.wrap ((i : Int) + 1) = (i : Int) + 1 := IntWalk.i64_in _ (by omega)
     go_region_held3 (fun w' => w'.cell? ⟨g, 0, none⟩ = some (.int .i64 n) ∧ w'.cell? ⟨g, 1, none⟩ = some (.slice (some adk) (i + q) ck) ∧ w'.cell? ⟨g, 2, none⟩ = some (.slice (some adv) (i + q) cv) ∧ w'.cell? ⟨g, 3, none⟩ = some (.slice (some adc) (i + q + 1) cc))
      (first | exact keep4 H1.out (by repeat (first | exact HB5.out | exact HB7.out | exact HB8.out | refine zAg ?_ | refine zAb ?_ _)) rfl rfl rfl rfl)
      (first
       | (go_at_call 158; refine (HNB.out _ _ _ HB7'.out ((PAt_FF HR7.out).mono (fun k hk => HOK.out k (Nat.le_trans HB5.out.size hk)))).mono ?_; rintro e W8 ⟨o8, rfl, hp, hb⟩; have HP8 := zAa.mk hp; have HB8' := zAa.mk (bl_to HB7'.out hb); have HB8 := zAa.mk (bl_to HB5.out HB8'.out); clear hp hb)
       | (refine Kd.R_append_rows_step kP (Rr := kP.K w2) (w0 := W5) W5.heap.size (by rfl) (.tmp 76) (.tmp 83) 148 110 (.pointer none) 8 rfl Tryz.underlying148 info110 rfl (by decide) (by omega) (.slice (some ⟨W5.heap.size, 0, none⟩) 1 1) [b] (List.map (fun x : Kid => x.1) C) _ q _ (fun _ => True) (fun _ => False) rfl rfl (own1 (W := W5.drew) HPb.out (Nat.le_refl _)) (HTL.out (W5.alloc (.cells #[.pointer pb] 110)).drew (by repeat (first | exact HB5.out | refine zAg ?_ | refine zAb ?_ _))) (fun x cs h => h) (fun _ hk => hk.elim) (fun _ _ => trivial) (by repeat (first | exact Below.refl _ _ | refine zAg ?_ | refine zAb ?_ _)) (by simp) (by simp; omega) ?_; intro v7 W7 ho hb hg hat; have HR7 := zAa.mk ho; have HB7' := zAa.mk hb; have HB7 := zAa.mk (bl_to HB5.out hb); clear ho hb hg hat; obtain ⟨A7, c7, e7⟩ := Kd.zAk HR7.out; rw [List.length_append, List.length_singleton, show (C.map (·.1)).length = q from (HTL.out _ (Below.refl _ _)).1, Nat.add_comm] at e7; subst e7))
     obtain ⟨p8, hp8⟩ : ∃ p8, ptrV o8 = .pointer p8 := ⟨_, rfl⟩
     have HP8' := zAa.mk hp8
     clear hp8
     rw [HP8'.out]
     go_wp2_with fail
     go_ret2
     exact ⟨o5, o8, _, _, by rw [HP5'.out, HP8'.out]; rfl, HLL.out.1, HLL.out.2.1, HLL.out.2.2, HP5.out.keep HB8'.out, HP8.out, HB8.out⟩
end Go.Proofs.YtpckachmleonlaaGreatDoor
end
