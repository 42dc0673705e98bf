/- Words and walks for Split and Tablet: texts of these sessions, and of the kit's print, cut down to what is used (O3). -/
import Derived.Test.YtpckachmleonlaaGreatDoorCu30
import Derived.Test.YtpckachmleonlaaGreatDoorCu31
section
set_option linter.unusedVariables false
set_option linter.unusedSimpArgs false
namespace Go.Proofs.YtpckachmleonlaaGreatDoor
open Go.RowKit Go.Proofs.YtpckachmleonlaaGreatDoorW.PrintWords
attribute [local go_sem high] eqK46
theorem own0H {W : World} {base : Nat} (hb : base ≤ W.heap.size) : Kd.R kH 49 (W.alloc (.cells #[] 49)) base (fun _ => True) (.slice (some ⟨W.heap.size, 0, none⟩) 0 0) [] := ⟨fun _ _ => trivial, [], World.ownsRow_made W #[] 0 hb (by unfold maxLen; omega) rfl, Reps.none _ _⟩
theorem own0H' {W : World} {base : Nat} (o : Obj) (hb : base ≤ W.heap.size) : Kd.R kH 49 ((W.alloc o).alloc (.cells #[] 49)) base (fun _ => True) (.slice (some ⟨W.heap.size + 1, 0, none⟩) 0 0) [] := by
 have := own0H (W := W.alloc o) (base := base) (by rw [World.size_alloc]; omega)
 rwa [World.size_alloc] at this
theorem C_ch1 {w : World} {g : Nat} {x : Ch} {fz : Nat × Nat} (h : w.heap[g]? = some (.cells #[.string x.k.f0, .string x.k.f1, .string x.k.f2, .int .u64 x.k.f3, .slice x.h.A x.h.n x.h.c, .bool x.g] 49 fz)) : kH.C w (some ⟨g, 0, none⟩) 1 [x] := by
 refine ⟨rfl, by simp, fun _ => ⟨_, rfl, fun j p hj => ?_⟩⟩
 have hj0 : j < 1 := (List.getElem?_eq_some_iff.1 hj).1
 obtain rfl : j = 0 := by omega
 obtain rfl := Option.some.inj hj
 refine ⟨chV x, rfl, rfl, fun i u hu => ?_⟩
 rw [add_plain, cell_of_row w g _ _ 49 fz h]
 rw [show (0 * kH.sz + i) = i by simp, ← hu]
 unfold chV
 simp
theorem heap_alloc_new' (w : World) (o : Obj) : (w.alloc o).drew.heap[w.heap.size]? = some o := heap_alloc_new w o
abbrev RH (x : Ch) (cs : List Value) : Prop := cs = chV x
theorem C_rh {w : World} {A : Option Addr} {n : Nat} {hs : List Ch} (h : kH.C w A n hs) : zD RH kH.sz w A n hs := h
theorem C_rhb {w X : World} {A : Option Addr} {n : Nat} {hs : List Ch} (h : kH.C w A n hs) (hb : Below w.heap.size w X) : zD RH kH.sz X A n hs := C_rh (Kd.zBa h hb)
theorem okC_sh {x : CellM} (h : OkC x) : Sh x.f0 := by
 have hk := of_decide_eq_true h.k
 exact ⟨by omega, by omega, by omega⟩
set_option maxHeartbeats 4000000 in
set_option maxRecDepth 100000 in
theorem rput_any (ok : Nat → Prop) (cs : List CellM) (x : CellM) (A : Option Addr) (c : Nat) (V : Option Addr) (cv : Nat) (w : World) (hA : CAt ok w A cs.length c cs) (hcs : OkL cs) (hx : OkC x) (hl : cs.length ≤ 100) (hv : FF (fun W => BAt W ⟨V, x.f1.length, cv⟩ x.f1) ok w) :
  Calls Tryz.prog 79 #[.slice A cs.length c, cellV x V cv] w fun e w' => ∃ A' c', e = .returned (.slice A' (putF cs x).length c') ∧ CAt (fun k => ok k ∨ w.heap.size ≤ k) w' A' (putF cs x).length c' (putF cs x) ∧ Below w.heap.size w w' := by
 obtain ⟨_, hc, zs, hzs, hHF, hz⟩ := hA
 have hH := hHF.now
 obtain ⟨n, hn⟩ : ∃ n, cs.length = n := ⟨_, rfl⟩
 have hzn : zs.length = n := by rw [← hn, ← hzs, List.length_map]
 have HZF := zA.mk hz
 have hz : ∀ z ∈ zs, ChOk w z := fun z h => ⟨(hz z h).1, (hz z h).2.1, (hz z h).2.2.now⟩
 have HZ := zA.mk (And.intro hz (And.intro hzs hzn))
 have HS := zA.mk (And.intro hcs hx)
 have HV := zA.mk hv
 have HN := zA.mk hn
 obtain ⟨lx, hlx⟩ : ∃ lx, x.f1.length = lx := ⟨_, rfl⟩
 have HLX := zA.mk hlx
 have HSX := zA.mk (okC_sh hx)
 obtain ⟨Q, hQ⟩ : ∃ Q : Ending → World → Prop, Q = fun e w' => ∃ A' c', e = .returned (.slice A' (putF cs x).length c') ∧ CAt (fun k => ok k ∨ w.heap.size ≤ k) w' A' (putF cs x).length c' (putF cs x) ∧ Below w.heap.size w w' := ⟨_, rfl⟩
 have HQ := zA.mk hQ
 unfold cellV
 rw [hn] at hH hc hl
 rw [← hQ, hn, hlx]
 have HH := zA.mk hH
 clear hcs hx hv hz hzs hH hHF hn hzn hlx hQ
 go_enter Tryz.func79, Tryz.ntmps79
 go_upto_region 2 with fail
 have HB1 : zA (Below w.heap.size w (w.alloc (.cells #[.string x.f0.f0, .string x.f0.f1, .string x.f0.f2, .int .u64 x.f0.f3, .slice V lx cv, .bool x.f2] 49))) := ⟨zAa (Below.refl _ _) _⟩
 have HG1 : zA ((w.alloc (.cells #[.string x.f0.f0, .string x.f0.f1, .string x.f0.f2, .int .u64 x.f0.f3, .slice V lx cv, .bool x.f2] 49)).heap[w.heap.size]? = some (.cells #[.string x.f0.f0, .string x.f0.f1, .string x.f0.f2, .int .u64 x.f0.f3, .slice V lx cv, .bool x.f2] 49 (0, 0))) := ⟨heap_alloc_new _ _⟩
 generalize w.alloc (.cells #[.string x.f0.f0, .string x.f0.f1, .string x.f0.f2, .int .u64 x.f0.f3, .slice V lx cv, .bool x.f2] 49) = w1 at HB1 HG1 ⊢
 go_loopg [5] n (fun gg v5 wr => ∃ k : Nat, k ≤ n ∧ n - k ≤ gg ∧ v5 = .int .i64 k ∧ zA (∀ y ∈ cs.take k, cmpK y.f0 x.f0 < 0) ∧ zA (Below w.heap.size w wr) ∧ zA (wr.heap[w.heap.size]? = some (.cells #[.string x.f0.f0, .string x.f0.f1, .string x.f0.f2, .int .u64 x.f0.f3, .slice V lx cv, .bool x.f2] 49 (0, 0))))
 case atStart => exact ⟨0, Nat.zero_le _, by omega, rfl, ⟨fun y hy => by simp at hy⟩, HB1, HG1⟩
 case round =>
  obtain ⟨k, hk, hg, rfl, HLT, HB, HG⟩ := hrel
  have x0 := (zAb HG.out 0).trans (rfl : _ = some (Value.string x.f0.f0))
  have x1 := (zAb HG.out 1).trans (rfl : _ = some (Value.string x.f0.f1))
  have x2 := (zAb HG.out 2).trans (rfl : _ = some (Value.string x.f0.f2))
  have x3 := (zAb HG.out 3).trans (rfl : _ = some (Value.int .u64 x.f0.f3))
  have hlb := zAi HG.out
  by_cases hlt : k < n
  ·have hltz : (k : Int) < (n : Int) := by omega
   obtain ⟨ad, h, rfl, hh, q0, q1, q2, q3, q4, q5⟩ := at_kH (Kd.zBa HH.out HB.out) k hlt
   rw [List.getElem?_map, Option.map_eq_some_iff] at hh
   obtain ⟨z, hzk, rfl⟩ := hh
   have hkk : z.1.k = z.2.f0 := (HZ.out.1 z (List.mem_of_getElem? hzk)).k
   have hck : cs[k]? = some z.2 := by rw [← HZ.out.2.1, List.getElem?_map, hzk]; rfl
   have HCK := zA.mk hck
   obtain ⟨i, hi⟩ : ∃ i, cmpK z.2.f0 x.f0 = i := ⟨_, rfl⟩
   have HI := zA.mk hi
   have HCALL : zA (∀ W : Bl wr, Calls Tryz.prog 43 #[.agg #[.string z.1.k.f0, .string z.1.k.f1, .string z.1.k.f2, .int .u64 z.1.k.f3], .agg #[.string x.f0.f0, .string x.f0.f1, .string x.f0.f2, .int .u64 x.f0.f3]] W.1 fun e w'' => e = .returned (.int .i64 i) ∧ ∃ j : Bl wr, w'' = j.1) := ⟨fun W => bl_call (i := W) (by
    have h9 := rcmp_any (okC_sh (HS.out.1.ok z.2 (List.mem_of_getElem? hck))) HSX.out W.1
    rw [hi] at h9
    rw [hkk]
    exact h9)⟩
   clear hzk hkk hck hi
   go_upto_region 2 with fail
   have C0 := fun i => zDc x0 i
   have C1 := fun i => zDc x1 i
   have C2 := fun i => zDc x2 i
   have C3 := fun i => zDc x3 i
   have D0 := fun i => zDc q0 i
   have D1 := fun i => zDc q1 i
   have D2 := fun i => zDc q2 i
   have D3 := fun i => zDc q3 i
   refine wp_region_bl (by kernel_rfl) (by kernel_rfl) ?_
   repeat (go_big_quiet_step (exact HCALL.out _))
   refine wpQuiet_nil ?_
   intro w3 hw3
   obtain ⟨i3, e3⟩ := hw3
   have hb3 := i3.2
   rw [← e3] at hb3
   clear e3 i3 C0 C1 C2 C3 D0 D1 D2 D3 HCALL x0 x1 x2 x3 q0 q1 q2 q3 q4 q5 hlb
   have HB3 : zA (Below w.heap.size w w3) := ⟨HB.out.trans (hb3.mono HB.out.size)⟩
   have HG3 := zA.mk (zAe HG.out hb3)
   clear hb3 HB HG
   by_cases hi0 : i < 0
   ·have d1 : decide (i < 0) = true := Cp.dt hi0
    have HLT2 : zA (∀ y ∈ cs.take (k + 1), cmpK y.f0 x.f0 < 0) := ⟨by
     intro y hy
     rw [take_snoc HCK.out] at hy
     rcases List.mem_append.1 hy with hy | hy
     ·exact HLT.out y hy
     ·rw [List.mem_singleton.1 hy, HI.out]
      exact hi0⟩
    go_wp2_with fail
    go_roundg (n - (k + 1))
    case measure => omega
    case rel => exact ⟨k + 1, by omega, by omega, by go_num, HLT2, HB3, HG3⟩
   ·have d1 : decide (i < 0) = false := Cp.df hi0
    have HGE : zA (∀ y, cs[k]? = some y → ¬ cmpK y.f0 x.f0 < 0) := ⟨fun y hy => by
     rw [HCK.out] at hy
     cases hy
     rw [HI.out]
     exact hi0⟩
    clear HI
    have HRW : zA (kH.C w3 (some (ad.add (k * 6))) (n - k) ((zs.map (·.1)).drop k)) := ⟨by
     have h9 := Kd.C_drop (m := k) (c := n) (by rw [List.length_map, HZ.out.2.2]; exact Kd.zBa HH.out HB3.out) (by rw [List.length_map, HZ.out.2.2]; exact hk) (by rw [List.length_map, HZ.out.2.2]; exact Nat.le_refl _)
     rw [if_neg (by omega), List.length_drop, List.length_map, HZ.out.2.2] at h9
     exact h9⟩
    obtain ⟨ad2, h2, e2, hh2, r0, r1, r2, r3, r4, r5⟩ := at_kH (Kd.zBa HH.out HB3.out) k hlt
    cases e2
    rw [List.getElem?_map, Option.map_eq_some_iff] at hh2
    obtain ⟨z2, hz2, rfl⟩ := hh2
    have hkk : z2.1.k = z2.2.f0 := (HZ.out.1 z2 (List.mem_of_getElem? hz2)).k
    have HCK2 : zA (cs[k]? = some z2.2) := ⟨by rw [← HZ.out.2.1, List.getElem?_map, hz2]; rfl⟩
    have y0 := (zAb HG3.out 0).trans (rfl : _ = some (Value.string x.f0.f0))
    have y1 := (zAb HG3.out 1).trans (rfl : _ = some (Value.string x.f0.f1))
    have y2 := (zAb HG3.out 2).trans (rfl : _ = some (Value.string x.f0.f2))
    have y3 := (zAb HG3.out 3).trans (rfl : _ = some (Value.int .u64 x.f0.f3))
    have hlb3 := zAi HG3.out
    obtain ⟨b, hb⟩ : ∃ b, keyB z2.1.k.f0 z2.1.k.f1 z2.1.k.f2 z2.1.k.f3 x.f0.f0 x.f0.f1 x.f0.f2 x.f0.f3 = b := ⟨_, rfl⟩
    have HKB : zA (b = decide (z2.2.f0 = x.f0)) := ⟨by rw [← hb, keyB_eq, hkk]⟩
    have hnk : (0 : Int) < (n : Int) - (k : Int) := by omega
    have hnk2 : 0 < n - k := by omega
    clear hz2 hkk
    go_upto_region 5 with fail
    go_quiet (fail)
    cases b
    case true =>
     by_cases hck : c - k = 1
     case pos =>
      obtain ⟨R, hR⟩ : ∃ R : Option Addr, some (ad.add (k * 6)) = R := ⟨_, rfl⟩
      obtain ⟨m2, hm2⟩ : ∃ m, (n - k - 1) = m := ⟨_, rfl⟩
      obtain ⟨c2, hc2⟩ : ∃ m, (c - k - 1) = m := ⟨_, rfl⟩
      have HREST : zA (kH.C (w3.drewN nq) R m2 ((zs.map (·.1)).drop (k + 1)) ∧ m2 + k ≤ 100) := ⟨by
       subst hR hm2
       refine ⟨Kd.zBa ?_ (zAc (Below.refl _ _) _), by omega⟩
       have h9 := Kd.C_drop (m := 1) (c := c - k) (show kH.C w3 (some (ad.add (k * 6))) ((zs.map (·.1)).drop k).length ((zs.map (·.1)).drop k) by rw [List.length_drop, List.length_map, HZ.out.2.2]; exact HRW.out) (by rw [List.length_drop, List.length_map, HZ.out.2.2]; omega) (by rw [List.length_drop, List.length_map, HZ.out.2.2]; omega)
       rw [List.length_drop, List.length_drop, List.length_map, HZ.out.2.2, List.drop_drop, if_pos hck] at h9
       exact h9⟩
      have HPUT : zA (putF cs x = cs.take k ++ [x] ++ cs.drop (k + 1)) := ⟨put_old HS.out.1 HS.out.2 HLT.out HCK2.out (of_decide_eq_true HKB.out.symm)⟩
      have HTK : zA (kH.C (w3.drewN nq) (some ad) k ((zs.map (·.1)).take k)) := ⟨by
       have h9 := Kd.C_take (m := k) (show kH.C w (some ad) (zs.map (·.1)).length (zs.map (·.1)) by rw [List.length_map, HZ.out.2.2]; exact HH.out) (by rw [List.length_map, HZ.out.2.2]; omega)
       rw [List.length_take, List.length_map, HZ.out.2.2, Nat.min_eq_left (by omega)] at h9
       exact Kd.zBa h9 (zAc HB3.out _)⟩
      have HBW : zA (Below w.heap.size w (w3.drewN nq)) := ⟨zAc HB3.out _⟩
      have HGW : zA ((w3.drewN nq).heap[w.heap.size]? = some (.cells #[.string x.f0.f0, .string x.f0.f1, .string x.f0.f2, .int .u64 x.f0.f3, .slice V lx cv, .bool x.f2] 49 (0, 0))) := ⟨HG3.out⟩
      have HRES : zA (∀ (A' : Option Addr) (m c' bs : Nat) (ok2 : Nat → Prop) (W' : World), w.heap.size ≤ bs → Kd.R kH 49 W' bs ok2 (.slice A' m c') ((zs.map (·.1)).take k ++ [⟨x.f0, ⟨V, lx, cv⟩, x.f2⟩] ++ (zs.map (·.1)).drop (k + 1)) → Below w.heap.size w W' → Q (.returned (.slice A' m c')) W') := ⟨fun A' m c' bs ok2 W' hbs hr hb => by
       have h9 := CAt.own (ok := ok) (w := w) (zs := zs.take k ++ [(⟨x.f0, ⟨V, lx, cv⟩, x.f2⟩, x)] ++ zs.drop (k + 1)) (xs := putF cs x) (by simpa [List.map_take, List.map_drop] using hr) (fun z hz => by
        rcases List.mem_append.1 hz with hz | hz
        ·rcases List.mem_append.1 hz with hz | hz
         ·exact HZF.out z (List.mem_of_mem_take hz)
         ·rw [List.mem_singleton.1 hz]
          exact ⟨rfl, rfl, by have h8 := HV.out; rw [HLX.out] at h8; exact h8⟩
        ·exact HZF.out z (List.mem_of_mem_drop hz)) hb hbs (by
         rw [HPUT.out, ← HZ.out.2.1]
         simp [List.map_take, List.map_drop])
       have h8 := h9.len
       rw [HQ.out]
       subst h8
       exact ⟨A', c', rfl, h9, hb⟩⟩
      go_upto_region 7 with fail
      generalize hW : w3.drewN nq = W at HREST HTK HBW HGW ⊢
      try simp only [hR, hm2, hc2]
      clear hR hm2 hc2 hW
      obtain ⟨hs, hhs⟩ : ∃ hs : List Ch, zs.map (·.1) = hs := ⟨_, rfl⟩
      have HHL : zA (hs.length = n) := ⟨by rw [← hhs, List.length_map, HZ.out.2.2]⟩
      rw [hhs] at HREST HTK HRES
      clear hhs
      have hkc : k ≤ c := by omega
      have hkcz : (k : Int) ≤ (c : Int) := by omega
      have HKEEP : zA (∀ X, Below W.heap.size W X → X.cell? ⟨w.heap.size, 0, none⟩ = some (.string x.f0.f0) ∧ X.cell? ⟨w.heap.size, 1, none⟩ = some (.string x.f0.f1) ∧ X.cell? ⟨w.heap.size, 2, none⟩ = some (.string x.f0.f2) ∧ X.cell? ⟨w.heap.size, 3, none⟩ = some (.int .u64 x.f0.f3) ∧ X.cell? ⟨w.heap.size, 4, none⟩ = some (.slice V lx cv) ∧ X.cell? ⟨w.heap.size, 5, none⟩ = some (.bool x.f2)) := ⟨fun X hX => by
       have h9 := zAe HGW.out hX
       exact ⟨(zAb h9 0).trans rfl, (zAb h9 1).trans rfl, (zAb h9 2).trans rfl, (zAb h9 3).trans rfl, (zAb h9 4).trans rfl, (zAb h9 5).trans rfl⟩⟩
      go_region_held3 (fun X => X.cell? ⟨w.heap.size, 0, none⟩ = some (.string x.f0.f0) ∧ X.cell? ⟨w.heap.size, 1, none⟩ = some (.string x.f0.f1) ∧ X.cell? ⟨w.heap.size, 2, none⟩ = some (.string x.f0.f2) ∧ X.cell? ⟨w.heap.size, 3, none⟩ = some (.int .u64 x.f0.f3) ∧ X.cell? ⟨w.heap.size, 4, none⟩ = some (.slice V lx cv) ∧ X.cell? ⟨w.heap.size, 5, none⟩ = some (.bool x.f2)) (exact HKEEP.out _ (by with_reducible repeat (first | exact Below.refl _ _ | refine zAf ?_ | refine zAc ?_ _ | refine zAa ?_ _ | exact HB4.out | exact HB5.out | exact HB6.out))) (first | (refine Kd.zBc kH (Rr := RH) (w0 := W) W.heap.size (by rfl) (.tmp 48) (.tmp 49) 22 49 zDe 88 rfl Tryz.underlying22 zEi rfl (by decide) (by omega) (.slice A5 (k + 1) c5) (hs.take k ++ [⟨x.f0, ⟨V, lx, cv⟩, x.f2⟩]) _ _ m2 _ (fun _ => True) (fun _ => False) rfl rfl (by with_reducible repeat (first | exact HR5.out | refine Kd.zCa ?_ _ | refine Kd.zEa ?_)) (C_rhb HREST.out.1 (by with_reducible repeat (first | exact Below.refl _ _ | refine zAf ?_ | refine zAc ?_ _ | refine zAa ?_ _ | exact HB4.out | exact HB5.out | exact HB6.out))) (fun x cs h => h) (fun _ hk => hk.elim) (fun _ _ => trivial) (by with_reducible repeat (first | exact Below.refl _ _ | refine zAf ?_ | refine zAc ?_ _ | refine zAa ?_ _ | exact HB4.out | exact HB5.out | exact HB6.out)) (by first | (simp; done) | (simp; omega) | (have h8 := HB4.out.size; simp; omega) | (have h8 := HB5.out.size; simp; omega)) (by rw [List.length_append, List.length_take, List.length_singleton]; have := HREST.out.2; omega) ?_; intro v6 W6 ho hb hg hat; have HR6 := zA.mk ho; have HB6 := zA.mk hb; clear ho hb hg hat; obtain ⟨A6, c6, e6⟩ := Kd.zAk HR6.out) | (refine Kd.zBc kH (Rr := RH) (w0 := W) W.heap.size (by rfl) (.tmp 45) (.tmp 47) 22 49 zDe 88 rfl Tryz.underlying22 zEi rfl (by decide) (by omega) (.slice A4 k c4) (hs.take k) [⟨x.f0, ⟨V, lx, cv⟩, x.f2⟩] _ 1 1 (fun _ => True) (fun _ => False) rfl rfl (by with_reducible repeat (first | exact HR4.out | refine Kd.zCa ?_ _ | refine Kd.zEa ?_)) (by first | exact C_rh (C_ch1 (x := ⟨x.f0, ⟨V, lx, cv⟩, x.f2⟩) (heap_alloc_new _ _)) | exact C_rh (C_ch1 (x := ⟨x.f0, ⟨V, lx, cv⟩, x.f2⟩) (zCg (two_b _ _ _) HG4.out (by simp [Value.ownBlock]))) | exact C_rh (C_ch1 (x := ⟨x.f0, ⟨V, lx, cv⟩, x.f2⟩) (zCg (two_a _ _ _) HG4.out (by simp [Value.ownBlock]))) | exact C_rh (C_ch1 (x := ⟨x.f0, ⟨V, lx, cv⟩, x.f2⟩) (heap_alloc_new' _ _))) (fun x cs h => h) (fun _ hk => hk.elim) (fun _ _ => trivial) (by with_reducible repeat (first | exact Below.refl _ _ | refine zAf ?_ | refine zAc ?_ _ | refine zAa ?_ _ | exact HB4.out | exact HB5.out | exact HB6.out)) (by first | (simp; done) | (simp; omega) | (have h8 := HB4.out.size; simp; omega) | (have h8 := HB5.out.size; simp; omega)) (by rw [List.length_take]; omega) ?_; intro v5 W5 ho hb hg hat; have HR5 := zA.mk ho; have HB5 := zA.mk hb; clear ho hb hg hat; obtain ⟨A5, c5, e5⟩ := Kd.zAk HR5.out; rw [List.length_append, List.length_singleton, List.length_take, HHL.out, Nat.min_eq_left (by omega)] at e5; subst e5) | (refine Kd.zBc kH (Rr := RH) (w0 := W) W.heap.size (by rfl) (.tmp 41) (.tmp 44) 22 49 zDe 88 rfl Tryz.underlying22 zEi rfl (by decide) (by omega) (.slice (some ⟨W.heap.size, 0, none⟩) 0 0) [] (hs.take k) _ k _ (fun _ => True) (fun _ => False) rfl rfl (by with_reducible repeat (first | exact own0H (Nat.le_refl _) | refine Kd.zCa ?_ _ | refine Kd.zEa ?_)) (C_rhb HTK.out (by with_reducible repeat (first | exact Below.refl _ _ | refine zAf ?_ | refine zAc ?_ _ | refine zAa ?_ _ | exact HB4.out | exact HB5.out | exact HB6.out))) (fun x cs h => h) (fun _ hk => hk.elim) (fun _ _ => trivial) (by with_reducible repeat (first | exact Below.refl _ _ | refine zAf ?_ | refine zAc ?_ _ | refine zAa ?_ _ | exact HB4.out | exact HB5.out | exact HB6.out)) (by first | (simp; done) | (simp; omega) | (have h8 := HB4.out.size; simp; omega) | (have h8 := HB5.out.size; simp; omega)) (by simp; omega) ?_; intro v4 W4 ho hb hg hat; have HR4 := zA.mk ho; have HB4 := zA.mk hb; have HG4 := zA.mk hg; clear ho hb hg hat; obtain ⟨A4, c4, e4⟩ := Kd.zAk HR4.out; rw [List.nil_append, List.length_take, HHL.out, Nat.min_eq_left (by omega)] at e4; rw [List.nil_append] at HR4; subst e4) | (refine Kd.zBc kH (Rr := RH) (w0 := W) W.heap.size (by rfl) (.tmp 41) (.tmp 44) 22 49 zDe 88 rfl Tryz.underlying22 zEi rfl (by decide) (by omega) (.slice (some ⟨W.heap.size + 1, 0, none⟩) 0 0) [] (hs.take k) _ k _ (fun _ => True) (fun _ => False) rfl rfl (by with_reducible repeat (first | exact own0H' _ (Nat.le_refl _) | refine Kd.zCa ?_ _ | refine Kd.zEa ?_)) (C_rhb HTK.out (by with_reducible repeat (first | exact Below.refl _ _ | refine zAf ?_ | refine zAc ?_ _ | refine zAa ?_ _ | exact HB4.out | exact HB5.out | exact HB6.out))) (fun x cs h => h) (fun _ hk => hk.elim) (fun _ _ => trivial) (by with_reducible repeat (first | exact Below.refl _ _ | refine zAf ?_ | refine zAc ?_ _ | refine zAa ?_ _ | exact HB4.out | exact HB5.out | exact HB6.out)) (by first | (simp; done) | (simp; omega) | (have h8 := HB4.out.size; simp; omega) | (have h8 := HB5.out.size; simp; omega)) (by simp; omega) ?_; intro v4 W4 ho hb hg hat; have HR4 := zA.mk ho; have HB4 := zA.mk hb; have HG4 := zA.mk hg; clear ho hb hg hat; obtain ⟨A4, c4, e4⟩ := Kd.zAk HR4.out; rw [List.nil_append, List.length_take, HHL.out, Nat.min_eq_left (by omega)] at e4; rw [List.nil_append] at HR4; subst e4) | fail)
      all_goals (
       subst e6
       go_wp2_with fail
       refine (congrArg (fun m => Q (Ending.returned (Value.slice A6 m c6)) W6) ?_).mp (HRES.out A6 _ c6 W.heap.size (fun _ => True) W6 HBW.out.size HR6.out (HBW.out.trans (HB6.out.mono HBW.out.size)))
       first | (simp; done) | (simp; omega))
     case neg =>
      obtain ⟨R, hR⟩ : ∃ R : Option Addr, some { block := (ad.add (k * 6)).block, off := (ad.add (k * 6)).off + 6 } = R := ⟨_, rfl⟩
      obtain ⟨m2, hm2⟩ : ∃ m, (n - k - 1) = m := ⟨_, rfl⟩
      obtain ⟨c2, hc2⟩ : ∃ m, (c - k - 1) = m := ⟨_, rfl⟩
      have HREST : zA (kH.C (w3.drewN nq) R m2 ((zs.map (·.1)).drop (k + 1)) ∧ m2 + k ≤ 100) := ⟨by
       subst hR hm2
       refine ⟨Kd.zBa ?_ (zAc (Below.refl _ _) _), by omega⟩
       have h9 := Kd.C_drop (m := 1) (c := c - k) (show kH.C w3 (some (ad.add (k * 6))) ((zs.map (·.1)).drop k).length ((zs.map (·.1)).drop k) by rw [List.length_drop, List.length_map, HZ.out.2.2]; exact HRW.out) (by rw [List.length_drop, List.length_map, HZ.out.2.2]; omega) (by rw [List.length_drop, List.length_map, HZ.out.2.2]; omega)
       rw [List.length_drop, List.length_drop, List.length_map, HZ.out.2.2, List.drop_drop, if_neg hck] at h9
       exact h9⟩
      have HPUT : zA (putF cs x = cs.take k ++ [x] ++ cs.drop (k + 1)) := ⟨put_old HS.out.1 HS.out.2 HLT.out HCK2.out (of_decide_eq_true HKB.out.symm)⟩
      have HTK : zA (kH.C (w3.drewN nq) (some ad) k ((zs.map (·.1)).take k)) := ⟨by
       have h9 := Kd.C_take (m := k) (show kH.C w (some ad) (zs.map (·.1)).length (zs.map (·.1)) by rw [List.length_map, HZ.out.2.2]; exact HH.out) (by rw [List.length_map, HZ.out.2.2]; omega)
       rw [List.length_take, List.length_map, HZ.out.2.2, Nat.min_eq_left (by omega)] at h9
       exact Kd.zBa h9 (zAc HB3.out _)⟩
      have HBW : zA (Below w.heap.size w (w3.drewN nq)) := ⟨zAc HB3.out _⟩
      have HGW : zA ((w3.drewN nq).heap[w.heap.size]? = some (.cells #[.string x.f0.f0, .string x.f0.f1, .string x.f0.f2, .int .u64 x.f0.f3, .slice V lx cv, .bool x.f2] 49 (0, 0))) := ⟨HG3.out⟩
      have HRES : zA (∀ (A' : Option Addr) (m c' bs : Nat) (ok2 : Nat → Prop) (W' : World), w.heap.size ≤ bs → Kd.R kH 49 W' bs ok2 (.slice A' m c') ((zs.map (·.1)).take k ++ [⟨x.f0, ⟨V, lx, cv⟩, x.f2⟩] ++ (zs.map (·.1)).drop (k + 1)) → Below w.heap.size w W' → Q (.returned (.slice A' m c')) W') := ⟨fun A' m c' bs ok2 W' hbs hr hb => by
       have h9 := CAt.own (ok := ok) (w := w) (zs := zs.take k ++ [(⟨x.f0, ⟨V, lx, cv⟩, x.f2⟩, x)] ++ zs.drop (k + 1)) (xs := putF cs x) (by simpa [List.map_take, List.map_drop] using hr) (fun z hz => by
        rcases List.mem_append.1 hz with hz | hz
        ·rcases List.mem_append.1 hz with hz | hz
         ·exact HZF.out z (List.mem_of_mem_take hz)
         ·rw [List.mem_singleton.1 hz]
          exact ⟨rfl, rfl, by have h8 := HV.out; rw [HLX.out] at h8; exact h8⟩
        ·exact HZF.out z (List.mem_of_mem_drop hz)) hb hbs (by
         rw [HPUT.out, ← HZ.out.2.1]
         simp [List.map_take, List.map_drop])
       have h8 := h9.len
       rw [HQ.out]
       subst h8
       exact ⟨A', c', rfl, h9, hb⟩⟩
      go_upto_region 7 with fail
      generalize hW : w3.drewN nq = W at HREST HTK HBW HGW ⊢
      try simp only [hR, hm2, hc2]
      clear hR hm2 hc2 hW
      obtain ⟨hs, hhs⟩ : ∃ hs : List Ch, zs.map (·.1) = hs := ⟨_, rfl⟩
      have HHL : zA (hs.length = n) := ⟨by rw [← hhs, List.length_map, HZ.out.2.2]⟩
      rw [hhs] at HREST HTK HRES
      clear hhs
      have hkc : k ≤ c := by omega
      have hkcz : (k : Int) ≤ (c : Int) := by omega
      have HKEEP : zA (∀ X, Below W.heap.size W X → X.cell? ⟨w.heap.size, 0, none⟩ = some (.string x.f0.f0) ∧ X.cell? ⟨w.heap.size, 1, none⟩ = some (.string x.f0.f1) ∧ X.cell? ⟨w.heap.size, 2, none⟩ = some (.string x.f0.f2) ∧ X.cell? ⟨w.heap.size, 3, none⟩ = some (.int .u64 x.f0.f3) ∧ X.cell? ⟨w.heap.size, 4, none⟩ = some (.slice V lx cv) ∧ X.cell? ⟨w.heap.size, 5, none⟩ = some (.bool x.f2)) := ⟨fun X hX => by
       have h9 := zAe HGW.out hX
       exact ⟨(zAb h9 0).trans rfl, (zAb h9 1).trans rfl, (zAb h9 2).trans rfl, (zAb h9 3).trans rfl, (zAb h9 4).trans rfl, (zAb h9 5).trans rfl⟩⟩
      go_region_held3 (fun X => X.cell? ⟨w.heap.size, 0, none⟩ = some (.string x.f0.f0) ∧ X.cell? ⟨w.heap.size, 1, none⟩ = some (.string x.f0.f1) ∧ X.cell? ⟨w.heap.size, 2, none⟩ = some (.string x.f0.f2) ∧ X.cell? ⟨w.heap.size, 3, none⟩ = some (.int .u64 x.f0.f3) ∧ X.cell? ⟨w.heap.size, 4, none⟩ = some (.slice V lx cv) ∧ X.cell? ⟨w.heap.size, 5, none⟩ = some (.bool x.f2)) (exact HKEEP.out _ (by with_reducible repeat (first | exact Below.refl _ _ | refine zAf ?_ | refine zAc ?_ _ | refine zAa ?_ _ | exact HB4.out | exact HB5.out | exact HB6.out))) (first | (refine Kd.zBc kH (Rr := RH) (w0 := W) W.heap.size (by rfl) (.tmp 48) (.tmp 49) 22 49 zDe 88 rfl Tryz.underlying22 zEi rfl (by decide) (by omega) (.slice A5 (k + 1) c5) (hs.take k ++ [⟨x.f0, ⟨V, lx, cv⟩, x.f2⟩]) _ _ m2 _ (fun _ => True) (fun _ => False) rfl rfl (by with_reducible repeat (first | exact HR5.out | refine Kd.zCa ?_ _ | refine Kd.zEa ?_)) (C_rhb HREST.out.1 (by with_reducible repeat (first | exact Below.refl _ _ | refine zAf ?_ | refine zAc ?_ _ | refine zAa ?_ _ | exact HB4.out | exact HB5.out | exact HB6.out))) (fun x cs h => h) (fun _ hk => hk.elim) (fun _ _ => trivial) (by with_reducible repeat (first | exact Below.refl _ _ | refine zAf ?_ | refine zAc ?_ _ | refine zAa ?_ _ | exact HB4.out | exact HB5.out | exact HB6.out)) (by first | (simp; done) | (simp; omega) | (have h8 := HB4.out.size; simp; omega) | (have h8 := HB5.out.size; simp; omega)) (by rw [List.length_append, List.length_take, List.length_singleton]; have := HREST.out.2; omega) ?_; intro v6 W6 ho hb hg hat; have HR6 := zA.mk ho; have HB6 := zA.mk hb; clear ho hb hg hat; obtain ⟨A6, c6, e6⟩ := Kd.zAk HR6.out) | (refine Kd.zBc kH (Rr := RH) (w0 := W) W.heap.size (by rfl) (.tmp 45) (.tmp 47) 22 49 zDe 88 rfl Tryz.underlying22 zEi rfl (by decide) (by omega) (.slice A4 k c4) (hs.take k) [⟨x.f0, ⟨V, lx, cv⟩, x.f2⟩] _ 1 1 (fun _ => True) (fun _ => False) rfl rfl (by with_reducible repeat (first | exact HR4.out | refine Kd.zCa ?_ _ | refine Kd.zEa ?_)) (by first | exact C_rh (C_ch1 (x := ⟨x.f0, ⟨V, lx, cv⟩, x.f2⟩) (heap_alloc_new _ _)) | exact C_rh (C_ch1 (x := ⟨x.f0, ⟨V, lx, cv⟩, x.f2⟩) (zCg (two_b _ _ _) HG4.out (by simp [Value.ownBlock]))) | exact C_rh (C_ch1 (x := ⟨x.f0, ⟨V, lx, cv⟩, x.f2⟩) (zCg (two_a _ _ _) HG4.out (by simp [Value.ownBlock]))) | exact C_rh (C_ch1 (x := ⟨x.f0, ⟨V, lx, cv⟩, x.f2⟩) (heap_alloc_new' _ _))) (fun x cs h => h) (fun _ hk => hk.elim) (fun _ _ => trivial) (by with_reducible repeat (first | exact Below.refl _ _ | refine zAf ?_ | refine zAc ?_ _ | refine zAa ?_ _ | exact HB4.out | exact HB5.out | exact HB6.out)) (by first | (simp; done) | (simp; omega) | (have h8 := HB4.out.size; simp; omega) | (have h8 := HB5.out.size; simp; omega)) (by rw [List.length_take]; omega) ?_; intro v5 W5 ho hb hg hat; have HR5 := zA.mk ho; have HB5 := zA.mk hb; clear ho hb hg hat; obtain ⟨A5, c5, e5⟩ := Kd.zAk HR5.out; rw [List.length_append, List.length_singleton, List.length_take, HHL.out, Nat.min_eq_left (by omega)] at e5; subst e5) | (refine Kd.zBc kH (Rr := RH) (w0 := W) W.heap.size (by rfl) (.tmp 41) (.tmp 44) 22 49 zDe 88 rfl Tryz.underlying22 zEi rfl (by decide) (by omega) (.slice (some ⟨W.heap.size, 0, none⟩) 0 0) [] (hs.take k) _ k _ (fun _ => True) (fun _ => False) rfl rfl (by with_reducible repeat (first | exact own0H (Nat.le_refl _) | refine Kd.zCa ?_ _ | refine Kd.zEa ?_)) (C_rhb HTK.out (by with_reducible repeat (first | exact Below.refl _ _ | refine zAf ?_ | refine zAc ?_ _ | refine zAa ?_ _ | exact HB4.out | exact HB5.out | exact HB6.out))) (fun x cs h => h) (fun _ hk => hk.elim) (fun _ _ => trivial) (by with_reducible repeat (first | exact Below.refl _ _ | refine zAf ?_ | refine zAc ?_ _ | refine zAa ?_ _ | exact HB4.out | exact HB5.out | exact HB6.out)) (by first | (simp; done) | (simp; omega) | (have h8 := HB4.out.size; simp; omega) | (have h8 := HB5.out.size; simp; omega)) (by simp; omega) ?_; intro v4 W4 ho hb hg hat; have HR4 := zA.mk ho; have HB4 := zA.mk hb; have HG4 := zA.mk hg; clear ho hb hg hat; obtain ⟨A4, c4, e4⟩ := Kd.zAk HR4.out; rw [List.nil_append, List.length_take, HHL.out, Nat.min_eq_left (by omega)] at e4; rw [List.nil_append] at HR4; subst e4) | (refine Kd.zBc kH (Rr := RH) (w0 := W) W.heap.size (by rfl) (.tmp 41) (.tmp 44) 22 49 zDe 88 rfl Tryz.underlying22 zEi rfl (by decide) (by omega) (.slice (some ⟨W.heap.size + 1, 0, none⟩) 0 0) [] (hs.take k) _ k _ (fun _ => True) (fun _ => False) rfl rfl (by with_reducible repeat (first | exact own0H' _ (Nat.le_refl _) | refine Kd.zCa ?_ _ | refine Kd.zEa ?_)) (C_rhb HTK.out (by with_reducible repeat (first | exact Below.refl _ _ | refine zAf ?_ | refine zAc ?_ _ | refine zAa ?_ _ | exact HB4.out | exact HB5.out | exact HB6.out))) (fun x cs h => h) (fun _ hk => hk.elim) (fun _ _ => trivial) (by with_reducible repeat (first | exact Below.refl _ _ | refine zAf ?_ | refine zAc ?_ _ | refine zAa ?_ _ | exact HB4.out | exact HB5.out | exact HB6.out)) (by first | (simp; done) | (simp; omega) | (have h8 := HB4.out.size; simp; omega) | (have h8 := HB5.out.size; simp; omega)) (by simp; omega) ?_; intro v4 W4 ho hb hg hat; have HR4 := zA.mk ho; have HB4 := zA.mk hb; have HG4 := zA.mk hg; clear ho hb hg hat; obtain ⟨A4, c4, e4⟩ := Kd.zAk HR4.out; rw [List.nil_append, List.length_take, HHL.out, Nat.min_eq_left (by omega)] at e4; rw [List.nil_append] at HR4; subst e4) | fail)
      all_goals (
       subst e6
       go_wp2_with fail
       refine (congrArg (fun m => Q (Ending.returned (Value.slice A6 m c6)) W6) ?_).mp (HRES.out A6 _ c6 W.heap.size (fun _ => True) W6 HBW.out.size HR6.out (HBW.out.trans (HB6.out.mono HBW.out.size)))
       first | (simp; done) | (simp; omega))
    case false =>
     obtain ⟨R, hR⟩ : ∃ R : Option Addr, (some (ad.add (k * 6))) = R := ⟨_, rfl⟩
     obtain ⟨m2, hm2⟩ : ∃ m, (n - k) = m := ⟨_, rfl⟩
     obtain ⟨c2, hc2⟩ : ∃ m, (c - k) = m := ⟨_, rfl⟩
     have HREST : zA (kH.C (w3.drewN nq) R m2 ((zs.map (·.1)).drop (k)) ∧ m2 + k ≤ 100) := ⟨by
      subst hR hm2
      refine ⟨Kd.zBa ?_ (zAc (Below.refl _ _) _), by omega⟩
      exact HRW.out⟩
     have HPUT : zA (putF cs x = cs.take k ++ [x] ++ cs.drop (k)) := ⟨put_new HS.out.1 HS.out.2 HLT.out HGE.out (fun y hy e => by rw [HCK2.out] at hy; cases hy; have h9 := HKB.out; rw [e] at h9; simp at h9)⟩
     have HTK : zA (kH.C (w3.drewN nq) (some ad) k ((zs.map (·.1)).take k)) := ⟨by
      have h9 := Kd.C_take (m := k) (show kH.C w (some ad) (zs.map (·.1)).length (zs.map (·.1)) by rw [List.length_map, HZ.out.2.2]; exact HH.out) (by rw [List.length_map, HZ.out.2.2]; omega)
      rw [List.length_take, List.length_map, HZ.out.2.2, Nat.min_eq_left (by omega)] at h9
      exact Kd.zBa h9 (zAc HB3.out _)⟩
     have HBW : zA (Below w.heap.size w (w3.drewN nq)) := ⟨zAc HB3.out _⟩
     have HGW : zA ((w3.drewN nq).heap[w.heap.size]? = some (.cells #[.string x.f0.f0, .string x.f0.f1, .string x.f0.f2, .int .u64 x.f0.f3, .slice V lx cv, .bool x.f2] 49 (0, 0))) := ⟨HG3.out⟩
     have HRES : zA (∀ (A' : Option Addr) (m c' bs : Nat) (ok2 : Nat → Prop) (W' : World), w.heap.size ≤ bs → Kd.R kH 49 W' bs ok2 (.slice A' m c') ((zs.map (·.1)).take k ++ [⟨x.f0, ⟨V, lx, cv⟩, x.f2⟩] ++ (zs.map (·.1)).drop (k)) → Below w.heap.size w W' → Q (.returned (.slice A' m c')) W') := ⟨fun A' m c' bs ok2 W' hbs hr hb => by
      have h9 := CAt.own (ok := ok) (w := w) (zs := zs.take k ++ [(⟨x.f0, ⟨V, lx, cv⟩, x.f2⟩, x)] ++ zs.drop (k)) (xs := putF cs x) (by simpa [List.map_take, List.map_drop] using hr) (fun z hz => by
       rcases List.mem_append.1 hz with hz | hz
       ·rcases List.mem_append.1 hz with hz | hz
        ·exact HZF.out z (List.mem_of_mem_take hz)
        ·rw [List.mem_singleton.1 hz]
         exact ⟨rfl, rfl, by have h8 := HV.out; rw [HLX.out] at h8; exact h8⟩
       ·exact HZF.out z (List.mem_of_mem_drop hz)) hb hbs (by
        rw [HPUT.out, ← HZ.out.2.1]
        simp [List.map_take, List.map_drop])
      have h8 := h9.len
      rw [HQ.out]
      subst h8
      exact ⟨A', c', rfl, h9, hb⟩⟩
     go_upto_region 7 with fail
     generalize hW : w3.drewN nq = W at HREST HTK HBW HGW ⊢
     try simp only [hR, hm2, hc2]
     clear hR hm2 hc2 hW
     obtain ⟨hs, hhs⟩ : ∃ hs : List Ch, zs.map (·.1) = hs := ⟨_, rfl⟩
     have HHL : zA (hs.length = n) := ⟨by rw [← hhs, List.length_map, HZ.out.2.2]⟩
     rw [hhs] at HREST HTK HRES
     clear hhs
     have hkc : k ≤ c := by omega
     have hkcz : (k : Int) ≤ (c : Int) := by omega
     have HKEEP : zA (∀ X, Below W.heap.size W X → X.cell? ⟨w.heap.size, 0, none⟩ = some (.string x.f0.f0) ∧ X.cell? ⟨w.heap.size, 1, none⟩ = some (.string x.f0.f1) ∧ X.cell? ⟨w.heap.size, 2, none⟩ = some (.string x.f0.f2) ∧ X.cell? ⟨w.heap.size, 3, none⟩ = some (.int .u64 x.f0.f3) ∧ X.cell? ⟨w.heap.size, 4, none⟩ = some (.slice V lx cv) ∧ X.cell? ⟨w.heap.size, 5, none⟩ = some (.bool x.f2)) := ⟨fun X hX => by
      have h9 := zAe HGW.out hX
      exact ⟨(zAb h9 0).trans rfl, (zAb h9 1).trans rfl, (zAb h9 2).trans rfl, (zAb h9 3).trans rfl, (zAb h9 4).trans rfl, (zAb h9 5).trans rfl⟩⟩
     go_region_held3 (fun X => X.cell? ⟨w.heap.size, 0, none⟩ = some (.string x.f0.f0) ∧ X.cell? ⟨w.heap.size, 1, none⟩ = some (.string x.f0.f1) ∧ X.cell? ⟨w.heap.size, 2, none⟩ = some (.string x.f0.f2) ∧ X.cell? ⟨w.heap.size, 3, none⟩ = some (.int .u64 x.f0.f3) ∧ X.cell? ⟨w.heap.size, 4, none⟩ = some (.slice V lx cv) ∧ X.cell? ⟨w.heap.size, 5, none⟩ = some (.bool x.f2)) (exact HKEEP.out _ (by with_reducible repeat (first | exact Below.refl _ _ | refine zAf ?_ | refine zAc ?_ _ | refine zAa ?_ _ | exact HB4.out | exact HB5.out | exact HB6.out))) (first | (refine Kd.zBc kH (Rr := RH) (w0 := W) W.heap.size (by rfl) (.tmp 48) (.tmp 49) 22 49 zDe 88 rfl Tryz.underlying22 zEi rfl (by decide) (by omega) (.slice A5 (k + 1) c5) (hs.take k ++ [⟨x.f0, ⟨V, lx, cv⟩, x.f2⟩]) _ _ m2 _ (fun _ => True) (fun _ => False) rfl rfl (by with_reducible repeat (first | exact HR5.out | refine Kd.zCa ?_ _ | refine Kd.zEa ?_)) (C_rhb HREST.out.1 (by with_reducible repeat (first | exact Below.refl _ _ | refine zAf ?_ | refine zAc ?_ _ | refine zAa ?_ _ | exact HB4.out | exact HB5.out | exact HB6.out))) (fun x cs h => h) (fun _ hk => hk.elim) (fun _ _ => trivial) (by with_reducible repeat (first | exact Below.refl _ _ | refine zAf ?_ | refine zAc ?_ _ | refine zAa ?_ _ | exact HB4.out | exact HB5.out | exact HB6.out)) (by first | (simp; done) | (simp; omega) | (have h8 := HB4.out.size; simp; omega) | (have h8 := HB5.out.size; simp; omega)) (by rw [List.length_append, List.length_take, List.length_singleton]; have := HREST.out.2; omega) ?_; intro v6 W6 ho hb hg hat; have HR6 := zA.mk ho; have HB6 := zA.mk hb; clear ho hb hg hat; obtain ⟨A6, c6, e6⟩ := Kd.zAk HR6.out) | (refine Kd.zBc kH (Rr := RH) (w0 := W) W.heap.size (by rfl) (.tmp 45) (.tmp 47) 22 49 zDe 88 rfl Tryz.underlying22 zEi rfl (by decide) (by omega) (.slice A4 k c4) (hs.take k) [⟨x.f0, ⟨V, lx, cv⟩, x.f2⟩] _ 1 1 (fun _ => True) (fun _ => False) rfl rfl (by with_reducible repeat (first | exact HR4.out | refine Kd.zCa ?_ _ | refine Kd.zEa ?_)) (by first | exact C_rh (C_ch1 (x := ⟨x.f0, ⟨V, lx, cv⟩, x.f2⟩) (heap_alloc_new _ _)) | exact C_rh (C_ch1 (x := ⟨x.f0, ⟨V, lx, cv⟩, x.f2⟩) (zCg (two_b _ _ _) HG4.out (by simp [Value.ownBlock]))) | exact C_rh (C_ch1 (x := ⟨x.f0, ⟨V, lx, cv⟩, x.f2⟩) (zCg (two_a _ _ _) HG4.out (by simp [Value.ownBlock]))) | exact C_rh (C_ch1 (x := ⟨x.f0, ⟨V, lx, cv⟩, x.f2⟩) (heap_alloc_new' _ _))) (fun x cs h => h) (fun _ hk => hk.elim) (fun _ _ => trivial) (by with_reducible repeat (first | exact Below.refl _ _ | refine zAf ?_ | refine zAc ?_ _ | refine zAa ?_ _ | exact HB4.out | exact HB5.out | exact HB6.out)) (by first | (simp; done) | (simp; omega) | (have h8 := HB4.out.size; simp; omega) | (have h8 := HB5.out.size; simp; omega)) (by rw [List.length_take]; omega) ?_; intro v5 W5 ho hb hg hat; have HR5 := zA.mk ho; have HB5 := zA.mk hb; clear ho hb hg hat; obtain ⟨A5, c5, e5⟩ := Kd.zAk HR5.out; rw [List.length_append, List.length_singleton, List.length_take, HHL.out, Nat.min_eq_left (by omega)] at e5; subst e5) | (refine Kd.zBc kH (Rr := RH) (w0 := W) W.heap.size (by rfl) (.tmp 41) (.tmp 44) 22 49 zDe 88 rfl Tryz.underlying22 zEi rfl (by decide) (by omega) (.slice (some ⟨W.heap.size, 0, none⟩) 0 0) [] (hs.take k) _ k _ (fun _ => True) (fun _ => False) rfl rfl (by with_reducible repeat (first | exact own0H (Nat.le_refl _) | refine Kd.zCa ?_ _ | refine Kd.zEa ?_)) (C_rhb HTK.out (by with_reducible repeat (first | exact Below.refl _ _ | refine zAf ?_ | refine zAc ?_ _ | refine zAa ?_ _ | exact HB4.out | exact HB5.out | exact HB6.out))) (fun x cs h => h) (fun _ hk => hk.elim) (fun _ _ => trivial) (by with_reducible repeat (first | exact Below.refl _ _ | refine zAf ?_ | refine zAc ?_ _ | refine zAa ?_ _ | exact HB4.out | exact HB5.out | exact HB6.out)) (by first | (simp; done) | (simp; omega) | (have h8 := HB4.out.size; simp; omega) | (have h8 := HB5.out.size; simp; omega)) (by simp; omega) ?_; intro v4 W4 ho hb hg hat; have HR4 := zA.mk ho; have HB4 := zA.mk hb; have HG4 := zA.mk hg; clear ho hb hg hat; obtain ⟨A4, c4, e4⟩ := Kd.zAk HR4.out; rw [List.nil_append, List.length_take, HHL.out, Nat.min_eq_left (by omega)] at e4; rw [List.nil_append] at HR4; subst e4) | (refine Kd.zBc kH (Rr := RH) (w0 := W) W.heap.size (by rfl) (.tmp 41) (.tmp 44) 22 49 zDe 88 rfl Tryz.underlying22 zEi rfl (by decide) (by omega) (.slice (some ⟨W.heap.size + 1, 0, none⟩) 0 0) [] (hs.take k) _ k _ (fun _ => True) (fun _ => False) rfl rfl (by with_reducible repeat (first | exact own0H' _ (Nat.le_refl _) | refine Kd.zCa ?_ _ | refine Kd.zEa ?_)) (C_rhb HTK.out (by with_reducible repeat (first | exact Below.refl _ _ | refine zAf ?_ | refine zAc ?_ _ | refine zAa ?_ _ | exact HB4.out | exact HB5.out | exact HB6.out))) (fun x cs h => h) (fun _ hk => hk.elim) (fun _ _ => trivial) (by with_reducible repeat (first | exact Below.refl _ _ | refine zAf ?_ | refine zAc ?_ _ | refine zAa ?_ _ | exact HB4.out | exact HB5.out | exact HB6.out)) (by first | (simp; done) | (simp; omega) | (have h8 := HB4.out.size; simp; omega) | (have h8 := HB5.out.size; simp; omega)) (by simp; omega) ?_; intro v4 W4 ho hb hg hat; have HR4 := zA.mk ho; have HB4 := zA.mk hb; have HG4 := zA.mk hg; clear ho hb hg hat; obtain ⟨A4, c4, e4⟩ := Kd.zAk HR4.out; rw [List.nil_append, List.length_take, HHL.out, Nat.min_eq_left (by omega)] at e4; rw [List.nil_append] at HR4; subst e4) | fail)
     all_goals (
      subst e6
      go_wp2_with fail
      refine (congrArg (fun m => Q (Ending.returned (Value.slice A6 m c6)) W6) ?_).mp (HRES.out A6 _ c6 W.heap.size (fun _ => True) W6 HBW.out.size HR6.out (HBW.out.trans (HB6.out.mono HBW.out.size)))
      first | (simp; done) | (simp; omega))
  ·have hkn : k = n := by omega
   subst hkn
   have hltz : ¬ (k : Int) < (k : Int) := by omega
   have HGE : zA (∀ y, cs[k]? = some y → ¬ cmpK y.f0 x.f0 < 0) := ⟨fun y hy => by
    rw [List.getElem?_eq_none (by rw [HN.out]; exact Nat.le_refl _)] at hy
    cases hy⟩
   have d0 : decide ((k : Int) < (k : Int)) = false := Cp.df (by omega)
   go_upto_region 2 with fail
   refine wp_region_bl (by kernel_rfl) (by kernel_rfl) ?_
   repeat (go_big_quiet_step (fail))
   refine wpQuiet_nil ?_
   intro w3 hw3
   obtain ⟨i3, e3⟩ := hw3
   have hb3 := i3.2
   rw [← e3] at hb3
   clear e3 i3 x0 x1 x2 x3 hlb
   have HB3 : zA (Below w.heap.size w w3) := ⟨HB.out.trans (hb3.mono HB.out.size)⟩
   have HG3 := zA.mk (zAe HG.out hb3)
   clear hb3 HB HG
   go_upto_region 5 with fail
   go_quiet (fail)
   obtain ⟨R, hR⟩ : ∃ R : Option Addr, (if c = k then A else Option.map (fun x => x.add (k * 6)) A) = R := ⟨_, rfl⟩
   obtain ⟨c2, hc2⟩ : ∃ m, (c - k) = m := ⟨_, rfl⟩
   have HREST : zA (kH.C (w3.drewN nq) R 0 ((zs.map (·.1)).drop (k)) ∧ 0 + k ≤ 100) := ⟨by
    subst hR
    refine ⟨Kd.zBa ?_ (zAc (Below.refl _ _) _), by omega⟩
    rw [List.drop_of_length_le (by rw [List.length_map, HZ.out.2.2]; exact Nat.le_refl _)]
    exact ⟨rfl, Nat.zero_le _, fun h => absurd h (by simp)⟩⟩
   have HPUT : zA (putF cs x = cs.take k ++ [x] ++ cs.drop (k)) := ⟨put_new HS.out.1 HS.out.2 HLT.out HGE.out (fun y hy e => by rw [List.getElem?_eq_none (by rw [HN.out]; exact Nat.le_refl _)] at hy; cases hy)⟩
   have HTK : zA (kH.C (w3.drewN nq) A k ((zs.map (·.1)).take k)) := ⟨by
    have h9 := Kd.C_take (m := k) (show kH.C w A (zs.map (·.1)).length (zs.map (·.1)) by rw [List.length_map, HZ.out.2.2]; exact HH.out) (by rw [List.length_map, HZ.out.2.2]; omega)
    rw [List.length_take, List.length_map, HZ.out.2.2, Nat.min_eq_left (by omega)] at h9
    exact Kd.zBa h9 (zAc HB3.out _)⟩
   have HBW : zA (Below w.heap.size w (w3.drewN nq)) := ⟨zAc HB3.out _⟩
   have HGW : zA ((w3.drewN nq).heap[w.heap.size]? = some (.cells #[.string x.f0.f0, .string x.f0.f1, .string x.f0.f2, .int .u64 x.f0.f3, .slice V lx cv, .bool x.f2] 49 (0, 0))) := ⟨HG3.out⟩
   have HRES : zA (∀ (A' : Option Addr) (m c' bs : Nat) (ok2 : Nat → Prop) (W' : World), w.heap.size ≤ bs → Kd.R kH 49 W' bs ok2 (.slice A' m c') ((zs.map (·.1)).take k ++ [⟨x.f0, ⟨V, lx, cv⟩, x.f2⟩] ++ (zs.map (·.1)).drop (k)) → Below w.heap.size w W' → Q (.returned (.slice A' m c')) W') := ⟨fun A' m c' bs ok2 W' hbs hr hb => by
    have h9 := CAt.own (ok := ok) (w := w) (zs := zs.take k ++ [(⟨x.f0, ⟨V, lx, cv⟩, x.f2⟩, x)] ++ zs.drop (k)) (xs := putF cs x) (by simpa [List.map_take, List.map_drop] using hr) (fun z hz => by
     rcases List.mem_append.1 hz with hz | hz
     ·rcases List.mem_append.1 hz with hz | hz
      ·exact HZF.out z (List.mem_of_mem_take hz)
      ·rw [List.mem_singleton.1 hz]
       exact ⟨rfl, rfl, by have h8 := HV.out; rw [HLX.out] at h8; exact h8⟩
     ·exact HZF.out z (List.mem_of_mem_drop hz)) hb hbs (by
      rw [HPUT.out, ← HZ.out.2.1]
      simp [List.map_take, List.map_drop])
    have h8 := h9.len
    rw [HQ.out]
    subst h8
    exact ⟨A', c', rfl, h9, hb⟩⟩
   go_upto_region 7 with fail
   generalize hW : w3.drewN nq = W at HREST HTK HBW HGW ⊢
   try simp only [hR, hc2]
   clear hR hc2 hW
   obtain ⟨hs, hhs⟩ : ∃ hs : List Ch, zs.map (·.1) = hs := ⟨_, rfl⟩
   have HHL : zA (hs.length = k) := ⟨by rw [← hhs, List.length_map, HZ.out.2.2]⟩
   rw [hhs] at HREST HTK HRES
   clear hhs
   have hkc : k ≤ c := by omega
   have hkcz : (k : Int) ≤ (c : Int) := by omega
   have HKEEP : zA (∀ X, Below W.heap.size W X → X.cell? ⟨w.heap.size, 0, none⟩ = some (.string x.f0.f0) ∧ X.cell? ⟨w.heap.size, 1, none⟩ = some (.string x.f0.f1) ∧ X.cell? ⟨w.heap.size, 2, none⟩ = some (.string x.f0.f2) ∧ X.cell? ⟨w.heap.size, 3, none⟩ = some (.int .u64 x.f0.f3) ∧ X.cell? ⟨w.heap.size, 4, none⟩ = some (.slice V lx cv) ∧ X.cell? ⟨w.heap.size, 5, none⟩ = some (.bool x.f2)) := ⟨fun X hX => by
    have h9 := zAe HGW.out hX
    exact ⟨(zAb h9 0).trans rfl, (zAb h9 1).trans rfl, (zAb h9 2).trans rfl, (zAb h9 3).trans rfl, (zAb h9 4).trans rfl, (zAb h9 5).trans rfl⟩⟩
   go_region_held3 (fun X => X.cell? ⟨w.heap.size, 0, none⟩ = some (.string x.f0.f0) ∧ X.cell? ⟨w.heap.size, 1, none⟩ = some (.string x.f0.f1) ∧ X.cell? ⟨w.heap.size, 2, none⟩ = some (.string x.f0.f2) ∧ X.cell? ⟨w.heap.size, 3, none⟩ = some (.int .u64 x.f0.f3) ∧ X.cell? ⟨w.heap.size, 4, none⟩ = some (.slice V lx cv) ∧ X.cell? ⟨w.heap.size, 5, none⟩ = some (.bool x.f2)) (exact HKEEP.out _ (by with_reducible repeat (first | exact Below.refl _ _ | refine zAf ?_ | refine zAc ?_ _ | refine zAa ?_ _ | exact HB4.out | exact HB5.out | exact HB6.out))) (first | (refine Kd.zBc kH (Rr := RH) (w0 := W) W.heap.size (by rfl) (.tmp 48) (.tmp 49) 22 49 zDe 88 rfl Tryz.underlying22 zEi rfl (by decide) (by omega) (.slice A5 (k + 1) c5) (hs.take k ++ [⟨x.f0, ⟨V, lx, cv⟩, x.f2⟩]) _ _ 0 _ (fun _ => True) (fun _ => False) rfl rfl (by with_reducible repeat (first | exact HR5.out | refine Kd.zCa ?_ _ | refine Kd.zEa ?_)) (C_rhb HREST.out.1 (by with_reducible repeat (first | exact Below.refl _ _ | refine zAf ?_ | refine zAc ?_ _ | refine zAa ?_ _ | exact HB4.out | exact HB5.out | exact HB6.out))) (fun x cs h => h) (fun _ hk => hk.elim) (fun _ _ => trivial) (by with_reducible repeat (first | exact Below.refl _ _ | refine zAf ?_ | refine zAc ?_ _ | refine zAa ?_ _ | exact HB4.out | exact HB5.out | exact HB6.out)) (by first | (simp; done) | (simp; omega) | (have h8 := HB4.out.size; simp; omega) | (have h8 := HB5.out.size; simp; omega)) (by rw [List.length_append, List.length_take, List.length_singleton]; have := HREST.out.2; omega) ?_; intro v6 W6 ho hb hg hat; have HR6 := zA.mk ho; have HB6 := zA.mk hb; clear ho hb hg hat; obtain ⟨A6, c6, e6⟩ := Kd.zAk HR6.out) | (refine Kd.zBc kH (Rr := RH) (w0 := W) W.heap.size (by rfl) (.tmp 45) (.tmp 47) 22 49 zDe 88 rfl Tryz.underlying22 zEi rfl (by decide) (by omega) (.slice A4 k c4) (hs.take k) [⟨x.f0, ⟨V, lx, cv⟩, x.f2⟩] _ 1 1 (fun _ => True) (fun _ => False) rfl rfl (by with_reducible repeat (first | exact HR4.out | refine Kd.zCa ?_ _ | refine Kd.zEa ?_)) (by first | exact C_rh (C_ch1 (x := ⟨x.f0, ⟨V, lx, cv⟩, x.f2⟩) (heap_alloc_new _ _)) | exact C_rh (C_ch1 (x := ⟨x.f0, ⟨V, lx, cv⟩, x.f2⟩) (zCg (two_b _ _ _) HG4.out (by simp [Value.ownBlock]))) | exact C_rh (C_ch1 (x := ⟨x.f0, ⟨V, lx, cv⟩, x.f2⟩) (zCg (two_a _ _ _) HG4.out (by simp [Value.ownBlock]))) | exact C_rh (C_ch1 (x := ⟨x.f0, ⟨V, lx, cv⟩, x.f2⟩) (heap_alloc_new' _ _))) (fun x cs h => h) (fun _ hk => hk.elim) (fun _ _ => trivial) (by with_reducible repeat (first | exact Below.refl _ _ | refine zAf ?_ | refine zAc ?_ _ | refine zAa ?_ _ | exact HB4.out | exact HB5.out | exact HB6.out)) (by first | (simp; done) | (simp; omega) | (have h8 := HB4.out.size; simp; omega) | (have h8 := HB5.out.size; simp; omega)) (by rw [List.length_take]; omega) ?_; intro v5 W5 ho hb hg hat; have HR5 := zA.mk ho; have HB5 := zA.mk hb; clear ho hb hg hat; obtain ⟨A5, c5, e5⟩ := Kd.zAk HR5.out; rw [List.length_append, List.length_singleton, List.length_take, HHL.out, Nat.min_eq_left (by omega)] at e5; subst e5) | (refine Kd.zBc kH (Rr := RH) (w0 := W) W.heap.size (by rfl) (.tmp 41) (.tmp 44) 22 49 zDe 88 rfl Tryz.underlying22 zEi rfl (by decide) (by omega) (.slice (some ⟨W.heap.size, 0, none⟩) 0 0) [] (hs.take k) _ k _ (fun _ => True) (fun _ => False) rfl rfl (by with_reducible repeat (first | exact own0H (Nat.le_refl _) | refine Kd.zCa ?_ _ | refine Kd.zEa ?_)) (C_rhb HTK.out (by with_reducible repeat (first | exact Below.refl _ _ | refine zAf ?_ | refine zAc ?_ _ | refine zAa ?_ _ | exact HB4.out | exact HB5.out | exact HB6.out))) (fun x cs h => h) (fun _ hk => hk.elim) (fun _ _ => trivial) (by with_reducible repeat (first | exact Below.refl _ _ | refine zAf ?_ | refine zAc ?_ _ | refine zAa ?_ _ | exact HB4.out | exact HB5.out | exact HB6.out)) (by first | (simp; done) | (simp; omega) | (have h8 := HB4.out.size; simp; omega) | (have h8 := HB5.out.size; simp; omega)) (by simp; omega) ?_; intro v4 W4 ho hb hg hat; have HR4 := zA.mk ho; have HB4 := zA.mk hb; have HG4 := zA.mk hg; clear ho hb hg hat; obtain ⟨A4, c4, e4⟩ := Kd.zAk HR4.out; rw [List.nil_append, List.length_take, HHL.out, Nat.min_eq_left (by omega)] at e4; rw [List.nil_append] at HR4; subst e4) | (refine Kd.zBc kH (Rr := RH) (w0 := W) W.heap.size (by rfl) (.tmp 41) (.tmp 44) 22 49 zDe 88 rfl Tryz.underlying22 zEi rfl (by decide) (by omega) (.slice (some ⟨W.heap.size + 1, 0, none⟩) 0 0) [] (hs.take k) _ k _ (fun _ => True) (fun _ => False) rfl rfl (by with_reducible repeat (first | exact own0H' _ (Nat.le_refl _) | refine Kd.zCa ?_ _ | refine Kd.zEa ?_)) (C_rhb HTK.out (by with_reducible repeat (first | exact Below.refl _ _ | refine zAf ?_ | refine zAc ?_ _ | refine zAa ?_ _ | exact HB4.out | exact HB5.out | exact HB6.out))) (fun x cs h => h) (fun _ hk => hk.elim) (fun _ _ => trivial) (by with_reducible repeat (first | exact Below.refl _ _ | refine zAf ?_ | refine zAc ?_ _ | refine zAa ?_ _ | exact HB4.out | exact HB5.out | exact HB6.out)) (by first | (simp; done) | (simp; omega) | (have h8 := HB4.out.size; simp; omega) | (have h8 := HB5.out.size; simp; omega)) (by simp; omega) ?_; intro v4 W4 ho hb hg hat; have HR4 := zA.mk ho; have HB4 := zA.mk hb; have HG4 := zA.mk hg; clear ho hb hg hat; obtain ⟨A4, c4, e4⟩ := Kd.zAk HR4.out; rw [List.nil_append, List.length_take, HHL.out, Nat.min_eq_left (by omega)] at e4; rw [List.nil_append] at HR4; subst e4) | fail)
   all_goals (
    subst e6
    go_wp2_with fail
    refine (congrArg (fun m => Q (Ending.returned (Value.slice A6 m c6)) W6) ?_).mp (HRES.out A6 _ c6 W.heap.size (fun _ => True) W6 HBW.out.size HR6.out (HBW.out.trans (HB6.out.mono HBW.out.size)))
    first | (simp; done) | (simp; omega))
end Go.Proofs.YtpckachmleonlaaGreatDoor
end
