/- Words and walks for Split and Tablet: texts of these sessions, and of the kit's print, cut down to what is used (X2 Y2 Z2 Cm). -/
import Derived.Test.YtpckachmleonlaaGreatDoorCv28
import Derived.Test.YtpckachmleonlaaGreatDoorCv27
import Derived.Test.YtpckachmleonlaaGreatDoorCv24
section
set_option linter.unusedVariables false
set_option linter.unusedSimpArgs false
namespace Go.Proofs.YtpckachmleonlaaGreatDoor
open Go.RowKit Go.Proofs.YtpckachmleonlaaGreatDoorW.PrintWords
structure TabAt (ok : Nat → Prop) (w : World) (p : Nat) (a b : ByteArray) (cs : List CellM) : Prop where
  okp : ¬ ok p
  ex : ∃ t, w.heap[p]? = some (.cells #[.string a, .string b, ptrV t] 103 (0, 0)) ∧ zDk ok w t (cs.map zDb)
structure But (p : Nat) (w w' : World) : Prop where
  below : Below p w w'
  same : Same_ (fun k => k ≠ p) w w'
  size : w.heap.size ≤ w'.heap.size
theorem But.refl (p : Nat) (w : World) : But p w w := ⟨Below.refl _ _, Same_.refl, Nat.le_refl _⟩
theorem But.of_below {p : Nat} {w w' : World} (h : Below w.heap.size w w') (hp : p ≤ w.heap.size) : But p w w' := ⟨h.mono hp, .of_below h, h.size⟩
theorem But.trans {p : Nat} {w w1 w2 : World} (h : But p w w1) (k : But p w1 w2) : But p w w2 := ⟨h.below.trans k.below, h.same.trans k.same, Nat.le_trans h.size k.size⟩
section
variable {ok ok' : Nat → Prop} {w w' : World} {p q : Nat} {a b : ByteArray} {cs : List CellM}
theorem TabAt.step (h : TabAt ok w p a b cs) (hs : Same_ ok w w') (hp : w'.heap[p]? = w.heap[p]?) : TabAt ok w' p a b cs := by
  obtain ⟨t, h1, h2⟩ := h.ex
  exact ⟨h.okp, t, hp.trans h1, h2.step hs⟩
theorem TabAt.lt (h : TabAt ok w p a b cs) : p < w.heap.size := by
  obtain ⟨t, h1, h2⟩ := h.ex
  exact zAj h1
theorem TabAt.keep (h : TabAt ok w p a b cs) (hb : Below w.heap.size w w') : TabAt ok w' p a b cs := h.step (.of_below hb) (hb.block p h.lt)
theorem TabAt.but (h : TabAt ok w p a b cs) (hb : But q w w') (hq : ¬ ok q) (hpq : p ≠ q) : TabAt ok w' p a b cs := h.step (fun k hk hl => hb.same k (fun e => hq (e ▸ hk)) hl) (hb.same p hpq h.lt)
end
set_option maxHeartbeats 4000000 in
set_option maxRecDepth 100000 in
theorem tree_any (ok : Nat → Prop) (w : World) (p : Nat) (a b : ByteArray) (cs : List CellM) (h : TabAt ok w p a b cs) : Calls Tryz.prog 38 #[.pointer (some ⟨p, 0, none⟩)] w fun e w' => ∃ t, e = .returned (ptrV t) ∧ zDk ok w t (cs.map zDb) ∧ w' = w := by
  obtain ⟨t, h1, h2⟩ := h.ex
  obtain ⟨pt, hpt⟩ := zBc t
  rw [hpt] at h1
  have HT := zAa.mk (And.intro h2 hpt)
  have c2 := (zAc h1 2).trans (rfl : _ = some (Value.pointer pt))
  have hl := zAj h1
  clear h h1 h2 hpt
  go_enter Tryz.func38, Tryz.ntmps38
  go_wp2_with fail
  go_ret
  exact ⟨t, by rw [HT.out.2]; rfl, HT.out.1, rfl⟩
set_option maxHeartbeats 4000000 in
set_option maxRecDepth 100000 in
theorem clone_any (ok : Nat → Prop) (w : World) (p : Nat) (a b : ByteArray) (cs : List CellM) (h : TabAt ok w p a b cs) : Calls Tryz.prog 33 #[.pointer (some ⟨p, 0, none⟩)] w fun e w' => e = .returned (.pointer (some ⟨w.heap.size, 0, none⟩)) ∧ TabAt (fun k => ok k ∧ k ≠ w.heap.size) w' w.heap.size a b cs ∧ Below w.heap.size w w' ∧ w'.heap.size = w.heap.size + 1 := by
  obtain ⟨t, h1, h2⟩ := h.ex
  obtain ⟨pt, hpt⟩ := zBc t
  rw [hpt] at h1
  have HT := zAa.mk (And.intro h2 hpt)
  have c0 := (zAc h1 0).trans (rfl : _ = some (Value.string a))
  have c1 := (zAc h1 1).trans (rfl : _ = some (Value.string b))
  have c2 := (zAc h1 2).trans (rfl : _ = some (Value.pointer pt))
  have hl := zAj h1
  clear h h1 h2 hpt
  go_enter Tryz.func33, Tryz.ntmps33
  go_wp2_with fail
  go_ret
  refine ⟨rfl, ⟨fun h => h.2 rfl, t, ?_, (HT.out.1.lt.mono (fun k hk => ⟨hk.1, Nat.ne_of_lt hk.2⟩)).keep (zAb (Below.refl _ _) _)⟩, zAb (Below.refl _ _) _, by simp⟩
  rw [HT.out.2]
  exact heap_alloc_new _ _
set_option maxHeartbeats 4000000 in
set_option maxRecDepth 100000 in
theorem set_any (ok : Nat → Prop) (w : World) (p : Nat) (a b : ByteArray) (cs : List CellM) (h : TabAt ok w p a b cs) (hok : ∀ k, w.heap.size ≤ k → ok k) (hcs : OkL cs) (hl : cs.length < 100) (x : CellM) (hx : OkC x) (V : Option Addr) (c : Nat) (hv : kB.C w V x.f1.length x.f1) (hc : x.f1.length ≤ c) :
    Calls Tryz.prog 78 #[.pointer (some ⟨p, 0, none⟩), cellV x V c] w fun e w' => e = .returned (.tuple #[]) ∧ TabAt ok w' p a b (putF cs x) ∧ But p w w' := by
  obtain ⟨t, h1, h2⟩ := h.ex
  have HT := zAa.mk (And.intro h.okp h2)
  have HOK := zAa.mk hok
  have HCS := zAa.mk (And.intro hcs hl)
  have HX := zAa.mk hx
  obtain ⟨pt, hpt⟩ := zBc t
  have HPT := zAa.mk hpt
  have HLP := zAa.mk h.lt
  rw [hpt] at h1
  have B0 := zAa.mk (zAi h1 (.cells #[.string x.f0.f0, .string x.f0.f1, .string x.f0.f2, .int .u64 x.f0.f3, .slice V x.f1.length c, .bool x.f2] 49))
  have hit := item_any x V c (w.alloc (.cells #[.string x.f0.f0, .string x.f0.f1, .string x.f0.f2, .int .u64 x.f0.f3, .slice V x.f1.length c, .bool x.f2] 49)) hx.k (Kd.zBb hv (zAb (Below.refl _ _) _)) hc (by have := hx.v; omega)
  have HIT := zAa.mk hit
  obtain ⟨l4, hl4⟩ : ∃ l4, x.f1.length = l4 := ⟨_, rfl⟩
  unfold cellV at HIT ⊢
  rw [hl4] at HIT B0 ⊢
  clear h h1 h2 hok hcs hl hx hv hc hpt hl4 hit
  go_enter Tryz.func78, Tryz.ntmps78
  go_wp2_with fail
  refine HIT.out.mono ?_
  rintro e w2 ⟨A, ka, B, vb, rfl, hkf, hvf, hb⟩
  have HKV := zAa.mk (And.intro hkf hvf)
  have hb2 : Below w.heap.size w w2 := (zAb (Below.refl _ _) _).trans (hb.mono (by simp))
  have HB2 := zAa.mk hb2
  have B2 := zAa.mk (zAf B0.out hb)
  have HS2 : zAa (w.heap.size < w2.heap.size) := ⟨by have := hb.size; simp at this; omega⟩
  obtain ⟨kl, hkl⟩ : ∃ kl, (keyOf x).length = kl := ⟨_, rfl⟩
  obtain ⟨vl, hvl⟩ : ∃ vl, (valOf x).length = vl := ⟨_, rfl⟩
  have HKL := zAa.mk (And.intro hkl hvl)
  rw [hkl, hvl]
  clear hkf hvf hb hb2 hkl hvl B0 HIT
  go_upto_region 2 with fail
  have HB3 : zAa (Below w2.heap.size w2 (w2.alloc (.cells #[.slice A kl ka, .slice B vl vb] 129))) := ⟨zAb (Below.refl _ _) _⟩
  have HK3 : zAa ((w2.alloc (.cells #[.slice A kl ka, .slice B vl vb] 129)).heap[w2.heap.size]? = some (.cells #[.slice A kl ka, .slice B vl vb] 129 (0, 0))) := ⟨heap_alloc_new _ _⟩
  have B3 := zAa.mk (zAf B2.out HB3.out)
  generalize hw3 : w2.alloc (.cells #[.slice A kl ka, .slice B vl vb] 129) = w3 at HB3 HK3 B3 ⊢
  have HKV3 : zAa (BAt w3 ⟨A, kl, ka⟩ (keyOf x) ∧ BAt w3 ⟨B, vl, vb⟩ (valOf x)) := ⟨by
    have h1 := (HKV.out.1.keep HB3.out).now
    have h2 := (HKV.out.2.keep HB3.out).now
    rw [HKL.out.1] at h1
    rw [HKL.out.2] at h2
    exact ⟨h1, h2⟩⟩
  have HW3 := zAa.mk (HB2.out.trans (HB3.out.mono HB2.out.size))
  have HCL : zAa (∀ X, Below w3.heap.size w3 X → Calls Tryz.prog 113 #[.pointer pt, .slice A kl ka, .slice B vl vb] X fun e w' => ∃ pt' t', e = .returned (.tuple #[.pointer pt', .int .i64 0]) ∧ ptrV t' = .pointer pt' ∧ zDk ok w' t' ((putF cs x).map zDb) ∧ Below X.heap.size X w') := ⟨fun X hX => by
    have hx := HX.out
    have h1 := key_len hx
    have h2 := val_len hx
    have h9 := tput_any ok t (cs.map zDb) A B ka vb (keyOf x) (valOf x) X (fun k hk => HOK.out k (Nat.le_trans HW3.out.size (Nat.le_trans hX.size hk))) (HT.out.2.keep (HW3.out.trans (hX.mono HW3.out.size))) (HCS.out.1.itOk (by have := HCS.out.2; omega)) (by rw [List.length_map]; exact HCS.out.2) HCS.out.1.sorted ((HKV3.out.1.keep hX).row) HKV3.out.1.c ((HKV3.out.2.keep hX).row) HKV3.out.2.c (by omega) (by omega) (by omega) (key_isB hx)
    rw [HPT.out, HKL.out.1, HKL.out.2] at h9
    refine h9.mono ?_
    rintro e w' ⟨t', l', rfl, hp, ht, hb⟩
    obtain ⟨pt', hpt'⟩ := zBc t'
    rw [put_law HCS.out.1 hx hp] at ht
    exact ⟨pt', t', by rw [hpt'], hpt', ht, hb⟩⟩
  have hlt : p < w2.heap.size := zAj B2.out
  have hlk := zAj HK3.out
  have hl3 := zAj B3.out
  generalize w2.heap.size = K at HK3 hlk hlt ⊢
  have c2 := (zAc B3.out 2).trans (rfl : _ = some (Value.pointer pt))
  have d0 := (zAc HK3.out 0).trans (rfl : _ = some (Value.slice A kl ka))
  have d1 := (zAc HK3.out 1).trans (rfl : _ = some (Value.slice B vl vb))
  clear hw3
  go_region_with
    ((go_at_call 113; refine (HCL.out _ (by repeat (first | exact Below.refl _ _ | refine zAg ?_ | refine zAe ?_ _ | refine zAb ?_ _))).mono ?_; rintro e W4 ⟨pt', t', rfl, hpt', htr, hb⟩; have hb4 := bl_to (w2 := w3) (by repeat (first | exact Below.refl _ _ | refine zAg ?_ | refine zAe ?_ _ | refine zAb ?_ _)) hb; have HT4 := zAa.mk (And.intro hpt' htr); have B4 := zAa.mk (zAf B3.out hb4); have HB4 := zAa.mk hb4; have f2 := zAd B4.out 2; have e2 := (zAc B4.out 2).trans (rfl : _ = some (Value.pointer pt)); have hl4 := zAj B4.out; clear hpt' htr hb hb4))
  all_goals (
    go_wp2_with fail
    go_end0
    have hs := zBh B4.out 2 (.pointer pt')
    refine ⟨rfl, ⟨HT.out.1, t', ?_, HT4.out.2.step (fun k hk _ => Below.heap_setCell _ _ _ k (fun e => HT.out.1 (by have e' : k = p := e; rw [← e']; exact hk)))⟩, ⟨?_, fun k hk hl => ?_, ?_⟩⟩
    · rw [HT4.out.1]
      exact hs.trans rfl
    · exact ((HW3.out.trans (HB4.out.mono HW3.out.size)).mono (Nat.le_of_lt HLP.out)).setCell (Nat.le_refl _) _
    · rw [Below.heap_setCell _ _ _ k hk]
      exact (HW3.out.trans (HB4.out.mono HW3.out.size)).block k hl
    · rw [World.size_setCell]
      exact Nat.le_trans HW3.out.size HB4.out.size)
end Go.Proofs.YtpckachmleonlaaGreatDoor
end
section
set_option linter.unusedVariables false
set_option linter.unusedSimpArgs false
namespace Go.Proofs.YtpckachmleonlaaGreatDoor
open Go.RowKit Go.Proofs.YtpckachmleonlaaGreatDoorW.PrintWords
set_option maxHeartbeats 4000000 in
set_option maxRecDepth 100000 in
theorem drop_any (ok : Nat → Prop) (w : World) (p : Nat) (a b : ByteArray) (cs : List CellM) (h : TabAt ok w p a b cs) (hok : ∀ k, w.heap.size ≤ k → ok k) (hcs : OkL cs) (hl : cs.length ≤ 100) (x : CellM) (hx : OkC x) (hin : ∃ y ∈ cs, y.f0 = x.f0) (V : Option Addr) (c : Nat) (hv : kB.C w V x.f1.length x.f1) (hc : x.f1.length ≤ c) :
    Calls Tryz.prog 111 #[.pointer (some ⟨p, 0, none⟩), cellV x V c] w fun e w' => e = .returned (.tuple #[]) ∧ TabAt ok w' p a b (delF cs x.f0) ∧ But p w w' := by
  obtain ⟨t, h1, h2⟩ := h.ex
  have HT := zAa.mk (And.intro h.okp h2)
  have HOK := zAa.mk hok
  have HCS := zAa.mk (And.intro hcs (And.intro hl hin))
  have HX := zAa.mk hx
  obtain ⟨pt, hpt⟩ := zBc t
  have HPT := zAa.mk hpt
  have HLP := zAa.mk h.lt
  rw [hpt] at h1
  have HV := zAa.mk (And.intro hv hc)
  have B0 := zAa.mk (zAi h1 (.cells #[.string x.f0.f0, .string x.f0.f1, .string x.f0.f2, .int .u64 x.f0.f3, .slice V x.f1.length c, .bool x.f2] 49))
  have B9 := zAa.mk (heap_alloc_new w (.cells #[.string x.f0.f0, .string x.f0.f1, .string x.f0.f2, .int .u64 x.f0.f3, .slice V x.f1.length c, .bool x.f2] 49))
  have HIT : zAa (∀ X, Below w.heap.size w X → Calls Tryz.prog 112 #[cellV x V c] X fun e w' => ∃ A a' B b' kl vl, e = .returned (.agg #[.slice A kl a', .slice B vl b']) ∧ (keyOf x).length = kl ∧ BAt w' ⟨A, kl, a'⟩ (keyOf x) ∧ Below X.heap.size X w') := ⟨fun X hX => by
    have h9 := item_any x V c X HX.out.k (Kd.zBb HV.out.1 hX) HV.out.2 (by have := HX.out.v; omega)
    refine h9.mono ?_
    rintro e w' ⟨A, a', B, b', rfl, h3, h4, h5⟩
    exact ⟨A, a', B, b', _, _, rfl, rfl, h3.now, h5⟩⟩
  have HW1 : zAa (Below w.heap.size w (w.alloc (.cells #[.string x.f0.f0, .string x.f0.f1, .string x.f0.f2, .int .u64 x.f0.f3, .slice V x.f1.length c, .bool x.f2] 49))) := ⟨zAb (Below.refl _ _) _⟩
  have HCL : zAa (∀ X A a' kl, Below w.heap.size w X → (keyOf x).length = kl → BAt X ⟨A, kl, a'⟩ (keyOf x) → Calls Tryz.prog 137 #[.pointer pt, .slice A kl a'] X fun e w' => ∃ pt' t', e = .returned (.tuple #[.pointer pt', .bool true]) ∧ ptrV t' = .pointer pt' ∧ zDk ok w' t' ((delF cs x.f0).map zDb) ∧ Below X.heap.size X w') := ⟨fun X A a' kl hX hkl hb => by
    have hx := HX.out
    subst hkl
    obtain ⟨y, hy1, hy2⟩ := HCS.out.2.2
    have hky : keyOf y = keyOf x := by unfold keyOf; rw [hy2]
    have h9 := tdel_any ok t (cs.map zDb) A a' (keyOf x) X (fun k hk => HOK.out k (Nat.le_trans hX.size hk)) (HT.out.2.keep hX) (HCS.out.1.itOk HCS.out.2.1) HCS.out.1.sorted hb.row (key_isB hx) ⟨zDb y, List.mem_map_of_mem hy1, hky⟩
    rw [HPT.out] at h9
    refine h9.mono ?_
    rintro e w' ⟨t', la, z, lb, rfl, h3, h4, ht, hb⟩
    obtain ⟨pt', hpt'⟩ := zBc t'
    rw [del_law HCS.out.1 hx h3 h4] at ht
    exact ⟨pt', t', by rw [hpt'], hpt', ht, hb⟩⟩
  obtain ⟨l4, hl4⟩ : ∃ l4, x.f1.length = l4 := ⟨_, rfl⟩
  unfold cellV at HIT ⊢
  rw [hl4] at HIT B0 B9 HW1 ⊢
  clear h h1 h2 hok hcs hl hx hin hv hc hpt hl4
  go_enter Tryz.func111, Tryz.ntmps111
  go_upto_region 1 with fail
  generalize w.alloc (.cells #[.string x.f0.f0, .string x.f0.f1, .string x.f0.f2, .int .u64 x.f0.f3, .slice V l4 c, .bool x.f2] 49) = w1 at B0 B9 HW1 ⊢
  have hlw := HLP.out
  generalize w.heap.size = K at B9 hlw ⊢
  have c2 := (zAc B0.out 2).trans (rfl : _ = some (Value.pointer pt))
  have d0 := (zAc B9.out 0).trans (rfl : _ = some (Value.string x.f0.f0))
  have d1 := (zAc B9.out 1).trans (rfl : _ = some (Value.string x.f0.f1))
  have d2 := (zAc B9.out 2).trans (rfl : _ = some (Value.string x.f0.f2))
  have d3 := (zAc B9.out 3).trans (rfl : _ = some (Value.int .u64 x.f0.f3))
  have d4 := (zAc B9.out 4).trans (rfl : _ = some (Value.slice V l4 c))
  have d5 := (zAc B9.out 5).trans (rfl : _ = some (Value.bool x.f2))
  have hl0 := zAj B0.out
  have hl9 := zAj B9.out
  go_region_with
    (first
      | (go_at_call 137; refine (HCL.out _ _ _ _ (HB2.out.trans ((by repeat (first | exact Below.refl _ _ | refine zAg ?_ | refine zAe ?_ _ | refine zAb ?_ _) : Below W2.heap.size W2 _).mono HB2.out.size)) HKL.out (HKB.out.keep (by repeat (first | exact Below.refl _ _ | refine zAg ?_ | refine zAe ?_ _ | refine zAb ?_ _)))).mono ?_; rintro e W4 ⟨pt', t', rfl, hpt', htr, hb⟩; have hb4 := bl_to (w2 := W2) (by repeat (first | exact Below.refl _ _ | refine zAg ?_ | refine zAe ?_ _ | refine zAb ?_ _)) hb; have HT4 := zAa.mk (And.intro hpt' htr); have B4 := zAa.mk (zAf B2.out hb4); have HB4 := zAa.mk (HB2.out.trans (hb4.mono HB2.out.size)); have f2 := zAd B4.out 2; have e2 := (zAc B4.out 2).trans (rfl : _ = some (Value.pointer pt)); have hl4 := zAj B4.out; clear hpt' htr hb hb4)
      | (go_at_call 112; refine (HIT.out _ (HW1.out.trans ((by repeat (first | exact Below.refl _ _ | refine zAg ?_ | refine zAe ?_ _ | refine zAb ?_ _) : Below w1.heap.size w1 _).mono HW1.out.size))).mono ?_; rintro e W2 ⟨A, ka, B, vb, kl, vl, rfl, hkl, hkb, hb⟩; have hfd : (Instr.field 129 (.agg #[.slice A kl ka, .slice B vl vb]) 0).run Tryz.prog W2 = .ok (.slice A kl ka) W2 := (by kernel_rfl); have hb2 := bl_to (w2 := w1) (by repeat (first | exact Below.refl _ _ | refine zAg ?_ | refine zAe ?_ _ | refine zAb ?_ _)) hb; have HKL := zAa.mk hkl; have HKB := zAa.mk hkb; have HB2 := zAa.mk (HW1.out.trans (hb2.mono HW1.out.size)); have B2 := zAa.mk (zAf B0.out hb2); have g2 := (zAc B2.out 2).trans (rfl : _ = some (Value.pointer pt)); have hlg := zAj B2.out; clear hkl hkb hb hb2)
      | fail)
  all_goals (
    go_wp2_with fail
    go_end0
    have hs := zBh B4.out 2 (.pointer pt')
    refine ⟨rfl, ⟨HT.out.1, t', ?_, HT4.out.2.step (fun k hk _ => Below.heap_setCell _ _ _ k (fun e => HT.out.1 (by have e' : k = p := e; rw [← e']; exact hk)))⟩, ⟨?_, fun k hk hl => ?_, ?_⟩⟩
    · rw [HT4.out.1]
      exact hs.trans rfl
    · exact (HB4.out.mono (Nat.le_of_lt HLP.out)).setCell (Nat.le_refl _) _
    · rw [Below.heap_setCell _ _ _ k hk]
      exact HB4.out.block k hl
    · rw [World.size_setCell]
      exact HB4.out.size)
end Go.Proofs.YtpckachmleonlaaGreatDoor
end
section
set_option linter.unusedVariables false
set_option linter.unusedSimpArgs false
namespace Go.Proofs.YtpckachmleonlaaGreatDoor
open Go.RowKit Go.Proofs.YtpckachmleonlaaGreatDoorW.PrintWords
def zIt : It := ([], [])
theorem at_kI {w : World} {A : Option Addr} {n : Nat} {xs : List It} (h : kI.C w A n xs) (i : Nat) (h1 : i < n) : ∃ ad A1 c1 A2 c2, A = some ad ∧ w.cell? (ad.add (i * 2)) = some (.slice A1 (xs.getD i zIt).1.length c1) ∧ w.cell? ⟨(ad.add (i * 2)).block, (ad.add (i * 2)).off + 1, none⟩ = some (.slice A2 (xs.getD i zIt).2.length c2) ∧ BAt w ⟨A1, (xs.getD i zIt).1.length, c1⟩ (xs.getD i zIt).1 ∧ BAt w ⟨A2, (xs.getD i zIt).2.length, c2⟩ (xs.getD i zIt).2 := by
 obtain ⟨ad, c, e, _, hK, hc0⟩ := Kd.C_get h zIt (i : Int) (by omega) (by omega)
 rw [Int.toNat_natCast] at hK hc0
 have hc : ∀ j u, c[j]? = some u → w.cell? (ad.add (i * 2 + j)) = some u := hc0
 obtain ⟨_, _, rfl, ⟨A1, c1, rfl, l1, g1⟩, ⟨A2, c2, rfl, l2, g2⟩⟩ := hK
 exact ⟨ad, A1, c1, A2, c2, e, hc 0 _ rfl, by rw [← zEk _ _ 1 (by omega)]; exact hc 1 _ rfl, ⟨rfl, l1, g1⟩, ⟨rfl, l2, g2⟩⟩
def selC (lo hi : List Int) (cs : List CellM) : List CellM := cs.filter fun x => insB lo hi (keyOf x)
theorem selC_items (lo hi : List Int) (cs : List CellM) : filtI lo hi (cs.map zDb) = (selC lo hi cs).map zDb := by
 unfold filtI selC
 rw [List.filter_map]
 rfl
set_option maxHeartbeats 4000000 in
set_option maxRecDepth 100000 in
theorem cells_any (ok : Nat → Prop) (w : World) (p : Nat) (a b : ByteArray) (cs : List CellM) (h : TabAt ok w p a b cs) (hcs : OkL cs) (hl : cs.length ≤ 100) (A B : Option Addr) (c d : Nat) (lo hi : List Int) (hlo : kB.C w A lo.length lo) (hhi : kB.C w B hi.length hi) :
  Calls Tryz.prog 59 #[.pointer (some ⟨p, 0, none⟩), .slice A lo.length c, .slice B hi.length d] w fun e w' => ∃ v, e = .returned v ∧ Kd.R kC 49 w' w.heap.size (fun _ => True) v (selC lo hi cs) ∧ Below w.heap.size w w' := by
 obtain ⟨t, h1, h2⟩ := h.ex
 have HCS := zAa.mk (And.intro hcs hl)
 have HOK : zAa (∀ x ∈ selC lo hi cs, OkC x) := ⟨fun x hx => hcs.ok x (List.mem_filter.1 hx).1⟩
 have HSL : zAa ((selC lo hi cs).length ≤ 100) := ⟨Nat.le_trans (List.length_filter_le _ _) hl⟩
 obtain ⟨pt, hpt⟩ := zBc t
 rw [hpt] at h1
 have hp2 := (zAc h1 2).trans (rfl : _ = some (Value.pointer pt))
 have hlp := zAj h1
 have HLEN : zAa (∀ X, Below w.heap.size w X → Calls Tryz.prog 39 #[.pointer pt] X fun e w' => e = .returned (.int .i64 cs.length) ∧ w' = X) := ⟨fun X hX => by
  have h9 := len_any ok t _ X (h2.keep hX)
  rw [hpt, List.length_map] at h9
  exact h9⟩
 have HIT : zAa (∀ X, Below w.heap.size w X → Calls Tryz.prog 95 #[.pointer pt, .slice A lo.length c, .slice B hi.length d, .int .i64 cs.length] X fun e w' => ∃ v, e = .returned (.tuple #[v, .bool false]) ∧ Kd.R kI 129 w' X.heap.size (fun _ => True) v ((selC lo hi cs).map zDb) ∧ Below X.heap.size X w') := ⟨fun X hX => by
  have h9 := items_any ok t _ A B c d cs.length lo hi X (h2.keep hX) (hcs.itOk hl) (Kd.zBb hlo hX) (Kd.zBb hhi hX) (by rw [List.length_map]; exact Nat.le_refl _) (by omega)
  rw [hpt, selC_items] at h9
  exact h9⟩
 obtain ⟨nl, hnl⟩ : ∃ n, lo.length = n := ⟨_, rfl⟩
 obtain ⟨nh, hnh⟩ : ∃ n, hi.length = n := ⟨_, rfl⟩
 obtain ⟨m, hm⟩ : ∃ m, cs.length = m := ⟨_, rfl⟩
 rw [hm] at HLEN
 rw [hnl, hnh, hm] at HIT
 rw [hnl, hnh]
 obtain ⟨ys, hys⟩ : ∃ ys, selC lo hi cs = ys := ⟨_, rfl⟩
 rw [hys] at HOK HIT HSL ⊢
 have HKEEP : zAa (∀ X, Below w.heap.size w X → X.cell? ⟨p, 2, none⟩ = some (.pointer pt)) := ⟨fun X hX => (hX.cell hlp).trans hp2⟩
 clear h h1 h2 hcs hl hlo hhi hpt hnl hnh hm hys
 go_enter Tryz.func59, Tryz.ntmps59
 go_upto_region 1 with fail
 go_region_held3 (fun w' => w'.cell? ⟨p, 2, none⟩ = some (.pointer pt))
  (first | exact hp2 | exact HKP.out | exact HKEEP.out _ (by repeat (first | exact Below.refl _ _ | refine zAg ?_ | refine zAe ?_ _ | refine zAb ?_ _)))
  (first
   | (go_at_call 39; refine (HLEN.out _ (by repeat (first | exact Below.refl _ _ | refine zAg ?_ | refine zAe ?_ _ | refine zAb ?_ _))).mono ?_; rintro e W1 ⟨rfl, rfl⟩)
   | (go_at_call 95; refine (HIT.out _ (by repeat (first | exact Below.refl _ _ | refine zAg ?_ | refine zAe ?_ _ | refine zAb ?_ _))).mono ?_; rintro e W2 ⟨v, rfl, hr, hb⟩; have hb2 := bl_to (w2 := w) (by repeat (first | exact Below.refl _ _ | refine zAg ?_ | refine zAe ?_ _ | refine zAb ?_ _)) hb; have HR2 := zAa.mk (rl_to (w2 := w) (by repeat (first | exact Below.refl _ _ | refine zAg ?_ | refine zAe ?_ _ | refine zAb ?_ _)) hr); have HB2 := zAa.mk hb2; have HKP := zAa.mk (HKEEP.out _ hb2); clear hr hb hb2)
   | fail)
 obtain ⟨Al, cl, hal⟩ := Kd.zAk HR2.out
 subst hal
 have HRC := zAa.mk (R_cap' HR2.out)
 have hcl : (ys.map zDb).length ≤ cl := (Kd.zEe HR2.out).2.1
 rw [List.length_map] at hcl HRC ⊢
 obtain ⟨n, hn⟩ : ∃ n, ys.length = n := ⟨_, rfl⟩
 have HN := zAa.mk hn
 rw [hn] at hcl HRC HSL ⊢
 clear HR2 hn
 have hnl := HSL.out
 go_upto_region 3 with fail
 go_loopg [6, 30] n (fun gg s6 s30 wr => ∃ (k : Nat) (Ao : Option Addr) (co : Nat), k ≤ n ∧ n - k ≤ gg ∧ s30 = .int .i64 k ∧ s6 = .slice Ao k co ∧ zAa (Below W2.heap.size W2 wr) ∧ zAa (Kd.R kC 49 wr W2.heap.size (fun _ => True) (.slice Ao k co) (ys.take k)))
 case atStart => exact ⟨0, none, 0, Nat.zero_le _, by omega, rfl, rfl, ⟨Below.refl _ _⟩, ⟨Kd.R_nil _ _ _ _ _⟩⟩
 case round =>
  obtain ⟨k, Ao, co, hk, hg, rfl, rfl, HB, HR⟩ := hrel
  by_cases hlt : k < n
  ·have hltz : (k : Int) < (n : Int) := by omega
   obtain ⟨ad, A1, c1, A2, c2, rfl, q0, q1, bk, bv⟩ := at_kI (Kd.zBb HRC.out HB.out) k hlt
   have hy : (ys.map zDb).getD k zIt = zDb (ys.getD k PSplitCuts.z49) := by
    rw [List.getD_eq_getElem?_getD, List.getD_eq_getElem?_getD, List.getElem?_map, List.getElem?_eq_getElem (by have := HN.out; omega)]
    rfl
   rw [hy] at q0 q1 bk bv
   have hyk : OkC (ys.getD k PSplitCuts.z49) := HOK.out _ (by
    rw [List.getD_eq_getElem?_getD, List.getElem?_eq_getElem (by have := HN.out; omega)]
    exact List.getElem_mem _)
   obtain ⟨y, hyy⟩ : ∃ y, ys.getD k PSplitCuts.z49 = y := ⟨_, rfl⟩
   rw [hyy] at q0 q1 bk bv hyk
   have HY := zAa.mk hyy
   change wr.cell? _ = some (.slice A1 (keyOf y).length c1) at q0
   change wr.cell? _ = some (.slice A2 (valOf y).length c2) at q1
   have hcall := cell_any y hyk A1 A2 c1 c2 (wr.alloc (.cells #[.slice A1 (keyOf y).length c1, .slice A2 (valOf y).length c2] 129)) (bk.keep (zAb (Below.refl _ _) _)) (bv.keep (zAb (Below.refl _ _) _))
   obtain ⟨kl, hkl⟩ : ∃ kl, (keyOf y).length = kl := ⟨_, rfl⟩
   obtain ⟨vl, hvl⟩ : ∃ vl, (valOf y).length = vl := ⟨_, rfl⟩
   rw [hkl] at q0 hcall
   rw [hvl] at q1 hcall
   have HCALL := zAa.mk hcall
   clear hyy hy bk bv hkl hvl hcall hyk
   go_wp2_with fail
   refine HCALL.out.mono ?_
   rintro e W3 ⟨V, cv, rfl, hr, hb⟩
   have hb3 : Below W2.heap.size W2 W3 := HB.out.trans ((zAb (Below.refl _ _) _).trans (hb.mono (by simp)) |>.mono HB.out.size)
   have hbw : Below wr.heap.size wr W3 := (zAb (Below.refl _ _) _).trans (hb.mono (by simp))
   have HB3 := zAa.mk hb3
   have HR3 := zAa.mk (Kd.zFa HR.out hbw)
   have HV3 := zAa.mk (Kd.zCj (base' := wr.heap.size) hr (by simp))
   have HBW := zAa.mk hbw
   unfold cellV
   obtain ⟨l4, hl4⟩ : ∃ l4, y.f1.length = l4 := ⟨_, rfl⟩
   have HL4 := zAa.mk hl4
   rw [hl4] at HV3 ⊢
   clear hb3 hbw hr hb q0 q1 HCALL hl4
   go_upto_region 6 with fail
   have HR4 := zAa.mk (Kd.zEb HR3.out (.cells #[.string y.f0.f0, .string y.f0.f1, .string y.f0.f2, .int .u64 y.f0.f3, .slice V l4 cv, .bool y.f2] 49))
   have HV4 : zAa (Kd.R kB 5 (W3.alloc (.cells #[.string y.f0.f0, .string y.f0.f1, .string y.f0.f2, .int .u64 y.f0.f3, .slice V l4 cv, .bool y.f2] 49)) W2.heap.size (fun j => True ∧ some j ≠ (Value.slice Ao k co).ownBlock) (.slice V l4 cv) y.f1) := ⟨by
    obtain ⟨inner, how⟩ := Kd.R_own HR.out
    exact Kd.zEb (Kd.zCj (Kd.R_new HV3.out how) HB.out.size) _⟩
   have HB4 : zAa (Below W2.heap.size W2 (W3.alloc (.cells #[.string y.f0.f0, .string y.f0.f1, .string y.f0.f2, .int .u64 y.f0.f3, .slice V l4 cv, .bool y.f2] 49))) := ⟨zAb HB3.out _⟩
   have b4 := heap_alloc_new W3 (.cells #[.string y.f0.f0, .string y.f0.f1, .string y.f0.f2, .int .u64 y.f0.f3, .slice V l4 cv, .bool y.f2] 49)
   have d0 := (zAc b4 0).trans (rfl : _ = some (Value.string y.f0.f0))
   have d1 := (zAc b4 1).trans (rfl : _ = some (Value.string y.f0.f1))
   have d2 := (zAc b4 2).trans (rfl : _ = some (Value.string y.f0.f2))
   have d3 := (zAc b4 3).trans (rfl : _ = some (Value.int .u64 y.f0.f3))
   have d4 := (zAc b4 4).trans (rfl : _ = some (Value.slice V l4 cv))
   have d5 := (zAc b4 5).trans (rfl : _ = some (Value.bool y.f2))
   have hl9 := zAj b4
   clear HR3 HV3 HB3 b4
   generalize W3.alloc (.cells #[.string y.f0.f0, .string y.f0.f1, .string y.f0.f2, .int .u64 y.f0.f3, .slice V l4 cv, .bool y.f2] 49) = W4 at HR4 HV4 HB4 d0 d1 d2 d3 d4 d5 hl9 ⊢
   go_wp2_with (at_builtin; refine Kd.zEf kC (w0 := W2) W2.heap.size rfl (.tmp 39) (.tmp 41) 22 49 zeroV49 88 rfl Tryz.underlying22 info49 rfl (by decide) (by omega) (.slice Ao k co) (ys.take k) y [.string y.f0.f0, .string y.f0.f1, .string y.f0.f2, .int .u64 y.f0.f3, .slice V l4 cv, .bool y.f2] (fun _ => True) _ rfl rfl (PSplitCuts.k49_mkM _ _ _ _ HV4.out) (fun k hk => hk) (fun _ _ => trivial) HR4.out HB4.out HB4.out.size (by rw [List.length_take]; have := HN.out; omega) ?_; intro v5 W5 ho hb5 hg5 hat; have HO5 := zAa.mk ho; have HB5 := zAa.mk hb5; clear ho hb5 hg5 hat d0 d1 d2 d3 d4 d5 hl9)
   obtain ⟨A5, c5, e5⟩ := Kd.zAk HO5.out
   have hlen : (ys.take k ++ [y]).length = k + 1 := by rw [List.length_append, List.length_take, List.length_singleton]; have := HN.out; omega
   rw [hlen] at e5
   subst e5
   go_roundg (n - (k + 1))
   case measure => omega
   case rel => exact ⟨k + 1, A5, c5, by omega, by omega, by go_num, rfl, HB5, ⟨by
    have h9 := HO5.out
    have e9 : ys.take (k + 1) = ys.take k ++ [y] := by
     have hkl : k < ys.length := by have := HN.out; omega
     have hyy : ys[k] = y := by
      have h8 := HY.out
      rw [List.getD_eq_getElem?_getD, List.getElem?_eq_getElem hkl] at h8
      exact h8
     rw [List.take_succ_eq_append_getElem hkl, hyy]
    rw [e9]
    exact h9⟩⟩
  ·obtain rfl : k = n := by omega
   have hltz : ¬ (k : Int) < (k : Int) := by omega
   go_wp2_with fail
   go_ret
   exact ⟨_, rfl, by have h9 := Kd.zCj HR.out HB2.out.size; rw [List.take_of_length_le (by have := HN.out; omega)] at h9; exact h9, bl_to HB2.out HB.out⟩
end Go.Proofs.YtpckachmleonlaaGreatDoor
end
section
set_option linter.unusedVariables false
set_option linter.unusedSimpArgs false
namespace Go.Proofs.YtpckachmleonlaaGreatDoor.Cp
open Go.RowKit Go.Proofs.YtpckachmleonlaaGreatDoorW.PrintWords
def belB (x y : List UInt8) : Bool := decide (cmpL x y < 0)
theorem cmpL_nil1 {u : List UInt8} (h : u ≠ []) : cmpL u [] = 1 := by
  cases u with
  | nil => exact absurd rfl h
  | cons a u => rfl
theorem cmpL_full : ∀ (s : List UInt8) (n : Nat) (v : List UInt8), s.length < n → cmpL (rep s ++ 0 :: v) (List.replicate n 255) = -1
  | [], n + 1, v, _ => by
    rw [List.replicate_succ]
    exact zFk (by decide) _ _
  | x :: s, n + 1, v, h => by
    have ih := cmpL_full s n v (by simpa using h)
    rw [List.replicate_succ]
    by_cases hx : x = 0
    · subst hx
      simp only [rep, beq_self_eq_true, if_true, List.nil_append, List.cons_append, List.append_assoc]
      exact zFk (by decide) _ _
    · have hb : (x == 0) = false := by simpa using hx
      simp only [rep, hb, List.nil_append, List.cons_append, List.append_assoc, Bool.false_eq_true, if_false]
      by_cases h255 : x = 255
      · subst h255
        rw [zDi]
        exact ih
      · refine zFk ?_ _ _
        have h1 : x.toNat < 256 := x.toNat_lt
        have h2 : x.toNat ≠ 255 := fun e => h255 (UInt8.toNat_inj.1 (by simpa using e))
        show x.toNat < (255 : UInt8).toNat
        have h3 : (255 : UInt8).toNat = 255 := rfl
        omega
theorem key_below (r f q s : ByteArray) (t : Int) : belB (keyU r f q t) (escL s) = decide (cmpL r.data.toList s.data.toList < 0) := by
  unfold belB keyU escL
  have := cmpL_esc r.data.toList s.data.toList (rep f.data.toList ++ [0, 1] ++ (rep q.data.toList ++ [0, 1] ++ timeU t)) []
  rw [List.append_nil] at this
  rw [this, cmpL_nil1 (by simp)]
  by_cases h : cmpL r.data.toList s.data.toList = 0
  · rw [if_pos h, h]
    rfl
  · rw [if_neg h]
theorem key_full (r f q : ByteArray) (t : Int) (h : r.size ≤ 32) : belB (keyU r f q t) (List.replicate 33 255) = true := by
  unfold belB keyU escL
  have := cmpL_full r.data.toList 33 (1 :: (rep f.data.toList ++ [0, 1] ++ (rep q.data.toList ++ [0, 1] ++ timeU t))) (by rw [zDc]; omega)
  simp only [List.append_assoc, List.cons_append, List.nil_append] at this ⊢
  rw [this]
  rfl
def isB (r a b : ByteArray) : Bool := !decide (cmpL r.data.toList a.data.toList < 0) && (decide (b.size = 0) || decide (cmpL r.data.toList b.data.toList < 0))
theorem between (r f q a b : ByteArray) (t : Int) (h : r.size ≤ 32) : (!belB (keyU r f q t) (escL a) && belB (keyU r f q t) (hiL b)) = isB r a b := by
  unfold isB hiL
  rw [key_below]
  by_cases hb : b.size = 0
  · rw [if_pos hb, key_full r f q t h, decide_eq_true hb]
    simp
  · rw [if_neg hb, key_below, decide_eq_false hb]
    simp
theorem less_cmpL (x y : ByteArray) : Op.bytesLess x.toList y.toList = decide (cmpL x.data.toList y.data.toList < 0) := by
  rw [ByteArray.toList_eq, ByteArray.toList_eq]
  exact (bytesLess_cmpL _ _).1
end Go.Proofs.YtpckachmleonlaaGreatDoor.Cp
end
