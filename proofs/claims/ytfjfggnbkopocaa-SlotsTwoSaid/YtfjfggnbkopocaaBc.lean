/- Slots: the certificates of a log. -/
import Derived.Test.YtfjfggnbkopocaaBb
import Derived.Test.YtfjfggnbkopocaaQ
/- Certs. -/
set_option linter.unusedVariables false
set_option linter.unusedSimpArgs false
namespace Go.Proofs.Ytfjfggnbkopocaa
open Go.RowKit Go.Proofs.YtfjfggnbkopocaaW.PrintWords
attribute [local go_sem] ptr

def kL : Kd (List Sig) := Kd.slice 46 kS
/-- The texts of the certificate of a number. -/
def certQ (L : List (Int × SlotM)) (q : Int) : Option (List Sig) := ((getQ L q).bind (·.cert)).map (·.texts)
def certsOf (L : List (Int × SlotM)) (r : List Int) : List (List Sig) := r.filterMap (certQ L)
/-- A row of another type stays apart. -/
theorem R_apart44 {w : World} {v vo : Value} {L : List Sig} {out : List (List Sig)} (h : kS.R 46 w 0 tr v L) (ho : kL.R 44 w 0 tr vo out) : kS.R 46 w 0 (fun k => some k ≠ vo.ownBlock) v L := by
  obtain ⟨inner, hown⟩ := Kd.R_own ho
  refine Kd.R_mono (Kd.R_bound h) ?_
  rintro k ⟨_, _, _, q, hq, cells, hc⟩ e
  rcases hown.2 with ⟨h0, _⟩ | ⟨g, cap, cur, hv, _, hg, _⟩
  · rw [h0] at e
    cases e
  · rw [hv] at e
    have e1 : k = g := by simpa [Value.ownBlock] using e
    subst e1
    rw [hg] at hc
    injection hc with hc
    injection hc with _ hc
    subst hc
    revert hq
    decide
theorem certs_step {L : List (Int × SlotM)} {r : List Int} {i : Nat} {q : Int} {s : SlotM} (hq : r[i]? = some q) (hg : getQ L q = some s) : certsOf L (r.take (i + 1)) = certsOf L (r.take i) ++ (s.cert.map (·.texts)).toList := by
  unfold certsOf
  rw [List.take_add_one, List.filterMap_append, hq]
  congr 1
  have h1 : certQ L q = s.cert.map (·.texts) := by
    unfold certQ
    rw [hg]
    rfl
  cases h2 : s.cert with
  | none =>
    rw [h2] at h1
    simp [List.filterMap_cons, h1]
  | some c =>
    rw [h2] at h1
    simp [List.filterMap_cons, h1]
theorem info44 : (Try.prog.info? 44).map (fun i => (i.zero, i.size, i.bytes)) = some (some (.slice none 0 0), 1, 24) := by kernel_rfl
/-- The certificates' bounds. -/
def okC (es : List Ent) : Prop := es.length ≤ 12 ∧ ∀ e ∈ es, ∀ c, e.s.cert = some c → c.texts.length ≤ 1000000 ∧ ∀ x ∈ c.texts, okS x
theorem Certs_nil {w : World} : Calls Try.prog 14 #[.pointer none] w fun r w' => r = .returned (.slice none 0 0) ∧ w' = w := by
  go_enter Try.func14, Try.ntmps14
  go_wp2_with fail
  go_ret
  exact ⟨rfl, rfl⟩
set_option maxHeartbeats 4000000 in
set_option maxRecDepth 100000 in
theorem Certs_any {w : World} {l m : Nat} {f low view : Int} {es : List Ent} (h : LogAt w l m f low view es) (hok : okC es) :
    Calls Try.prog 14 #[ptr l] w fun e w' => ∃ v, e = .returned v ∧ ∃ r : List Int, r.Perm (es.map (·.q)) ∧ Up r ∧ kL.R 44 w' 0 tr v (certsOf (absL es) r) ∧ Below w.heap.size w w' := by
  have HL := Aside0.mk h
  have HO := Aside0.mk hok
  obtain ⟨_, _, _, c3, _⟩ := h.cells
  have hk := (callsIn_wide (n := 1)).1 (keys_any 1 m w)
  clear h hok
  go_enter Try.func14, Try.ntmps14
  go_wp2_with fail
  refine hk.mono ?_
  rintro e w1 ⟨rfl, h1⟩
  have hs := Sorted_any m (pairs es) (by unfold pairs; rw [List.length_map]; exact HO.out.1) w w1 h1 HL.out.map
  have HB1 : Aside0 (Below w.heap.size w w1) := ⟨by rw [h1]; exact below_alloc (Below.refl _ _) _⟩
  clear hk h1
  go_wp2_with fail
  refine hs.mono ?_
  rintro e w2 ⟨v, r, rfl, hp, hu, hr, hb⟩
  have HP : Aside0 (r.Perm (es.map (·.q))) := ⟨by unfold pairs at hp; rw [List.map_map] at hp; exact hp⟩
  have HU := Aside0.mk hu
  have HB2 : Aside0 (Below w.heap.size w w2) := ⟨HB1.out.trans (hb.mono HB1.out.size)⟩
  obtain ⟨A, c, rfl, _, hC⟩ := Kd.R_reads hr
  have HC := Aside0.mk hC
  have hrl : r.length ≤ 12 := by have h1 := HP.out.length_eq; rw [List.length_map] at h1; have := HO.out.1; omega
  clear hs hp hu hr hb hC c3
  go_wp2_with fail
  go_loopw [2, 18] (fun v2 v18 w' => ∃ i : Nat, i ≤ r.length ∧ v18 = .int .i64 i ∧ Aside0 (kL.R 44 w' 0 tr v2 (certsOf (absL es) (r.take i))) ∧ Aside0 (From w2.heap.size v2) ∧ Aside0 (Below w2.heap.size w2 w')) (fun _ v18 _ => r.length - (RowKit.intOf v18).toNat)
  case atStart => exact ⟨0, by omega, rfl, ⟨by simpa [certsOf] using Kd.R_nil kL 44 _ 0 tr⟩, ⟨fun k hk => by cases hk⟩, ⟨Below.refl _ _⟩⟩
  case round =>
    obtain ⟨i, hi, rfl, HV, HFr, HW⟩ := hrel
    have HWw : Aside0 (Below w.heap.size w wr) := ⟨HB2.out.trans (HW.out.mono HB2.out.size)⟩
    by_cases hlt : i < r.length
    · have h3 : (i : Int) < r.length := by omega
      obtain ⟨ad, hA, hcell⟩ := Kd.at_int (Kd.C_below HC.out HW.out) (i : Int) (by omega) (by omega)
      obtain ⟨q, hq⟩ : ∃ q, rd r (i : Int) = q := ⟨_, rfl⟩
      rw [hq, Int.toNat_natCast] at hcell
      subst hA
      have hqr : r[i]? = some q := by
        rw [← hq]
        unfold rd
        rw [List.getElem?_eq_getElem hlt]
        simp [List.getD, hlt]
      have hqe : q ∈ es.map (·.q) := HP.out.subset (List.mem_of_getElem? hqr)
      obtain ⟨e, he, heq⟩ := List.mem_map.1 hqe
      have HLr : Aside0 (LogAt wr l m f low view es) := ⟨HL.out.keep HWw.out⟩
      have hcq : certsOf (absL es) (r.take (i + 1)) = certsOf (absL es) (r.take i) ++ (e.s.cert.map (·.texts)).toList := by
        have hg : getQ (absL es) q = some e.s := by
          obtain ⟨a, b, rfl⟩ := List.append_of_mem he
          exact getQ_abs (nodup_q HL.out) heq
        exact certs_step hqr hg
      have HCQ := Aside0.mk hcq
      have hlk : (Instr.lookup 57 (.map (some m)) (.int .u64 q) false).run Try.prog wr = .ok (.pointer (some ⟨e.sb, 0, none⟩)) wr := by
        have hpm : (e.q, e.sb) ∈ pairs es := List.mem_map.2 ⟨e, he, rfl⟩
        have h5 := lookup_any HLr.out (q := q) (by rw [← heq]; obtain ⟨_, _, _, _, _, hqs⟩ := HLr.out.map; exact hqs _ hpm)
        rw [← heq] at h5 ⊢
        rw [getP_some HLr.out.map.nodup hpm] at h5
        exact h5
      obtain ⟨_, _, _, c3, _⟩ := HLr.out.cells
      have HQ := Aside0.mk (And.intro hlt hi)
      obtain ⟨vp, vs, vc, _, _, _, _, s4, _, _, _, hct, _⟩ := (HLr.out.slots e he).cells
      cases hce : e.s.cert with
      | none =>
        rw [hce] at hct
        have hvc : vc = .pointer none := hct
        subst hvc
        have HN := Aside0.mk hce
        clear hct hcq hqr hqe hce heq he hq
        go_wp2_with fail
        go_roundw
        case rel => exact ⟨i + 1, by have := HQ.out.1; omega, by go_num, ⟨by rw [HCQ.out, HN.out]; simpa using HV.out⟩, HFr, HW⟩
        case measure => simp [RowKit.intOf]; have := HQ.out.1; omega
      | some ce =>
        rw [hce] at hct
        obtain ⟨gc, us, ut, hv, hgc, _, htx⟩ := hct
        subst hv
        have HN := Aside0.mk hce
        have hcl := cloneS_any ut ce.texts wr htx (HO.out.2 e he ce hce).1
        have HT := Aside0.mk ((HO.out.2 e he ce hce).2)
        have htl := (HO.out.2 e he ce hce).1
        have m2 : wr.cell? ⟨gc, 2, none⟩ = some ut := (blk_cell hgc 2).trans rfl
        clear hcq hqr hqe hce heq he hq hgc htx
        go_wp2_with fail
        refine hcl.mono ?_
        rintro ee W1 ⟨vt, rfl, hr, hf, hb⟩
        have HR := Aside0.mk hr
        have HF := Aside0.mk hf
        have HB := Aside0.mk hb
        obtain ⟨At, ct, et⟩ := Kd.R_slice hr
        subst et
        obtain ⟨W0, rfl⟩ : ∃ W0, W0 = wr := ⟨_, rfl⟩
        clear hcl hr hf hb c3 hlk hcell s4 m2
        go_wp2_with fail
        go_loopw [40] (fun v40 w' => ∃ j : Nat, j ≤ ce.texts.length ∧ v40 = .int .i64 j ∧ Aside0 (kS.R 46 w' 0 tr (.slice At ce.texts.length ct) ce.texts) ∧ Aside0 (Below W0.heap.size W0 w')) (fun v40 _ => ce.texts.length - (RowKit.intOf v40).toNat)
        case atStart => exact ⟨0, by omega, rfl, HR, HB⟩
        case round =>
          obtain ⟨j, hj, rfl, HO2, HW2⟩ := hrel
          by_cases hjl : j < ce.texts.length
          · obtain ⟨x, hx⟩ : ∃ x, ce.texts[j]? = some x := ⟨_, List.getElem?_eq_getElem hjl⟩
            have HX := Aside0.mk hx
            have HKx : Aside0 (okS x) := ⟨HT.out x (List.mem_of_getElem? hx)⟩
            obtain ⟨g, c1, ev, _⟩ := rowS_block HO2.out (by omega)
            injection ev with ev1 ev2 ev3
            subst ev1 ev3
            have hj3 : (j : Int) < ce.texts.length := by omega
            have HFg := Aside0.mk (HF.out g rfl)
            have HLn := Aside0.mk (HO.out.2)
            obtain ⟨v1, v2, c0, c1', c2', k1, k2, fz, hnl⟩ := rowS_at HO2.out hx
            obtain ⟨A1, m1, q1, l1, r1⟩ := Kd.R_reads k1
            obtain ⟨A2, m2, q2, l2, r2⟩ := Kd.R_reads k2
            subst q1 q2
            have R1 := Aside0.mk r1
            have R2 := Aside0.mk r2
            have z1 := fz (j * 3 + 1)
            have z2 := fz (j * 3 + 2)
            clear hx k1 k2 r1 r2 fz l1 l2 hnl ev2
            go_wp2_with fail
            have HX3 : Aside0 ((wr.alloc (.cells #[.int .u64 x.from_, .slice A1 x.b.length m1, .slice A2 x.tag.length m2] 46)).heap[wr.heap.size]? = some (.cells #[.int .u64 x.from_, .slice A1 x.b.length m1, .slice A2 x.tag.length m2] 46 (0, 0))) := ⟨heap_alloc_new wr _⟩
            have HB3 : Aside0 (Below wr.heap.size wr (wr.alloc (.cells #[.int .u64 x.from_, .slice A1 x.b.length m1, .slice A2 x.tag.length m2] 46))) := ⟨below_alloc (Below.refl _ _) _⟩
            have HGl : Aside0 (g < wr.heap.size) := ⟨World.block_lt_of_cell? wr _ c0⟩
            have HS3 : Aside0 (wr.heap.size < (wr.alloc (.cells #[.int .u64 x.from_, .slice A1 x.b.length m1, .slice A2 x.tag.length m2] 46)).heap.size) := ⟨by simp⟩
            generalize wr.alloc (.cells #[.int .u64 x.from_, .slice A1 x.b.length m1, .slice A2 x.tag.length m2] 46) = w3 at HX3 HB3 HS3 ⊢
            have HGS : Aside0 (g < wr.heap.size) := HGl
            obtain ⟨gs, hgs⟩ : ∃ gs, wr.heap.size = gs := ⟨_, rfl⟩
            have HW3 : Aside0 (Below W0.heap.size W0 w3) := ⟨HW2.out.trans (HB3.out.mono HW2.out.size)⟩
            have HR1' : Aside0 (kB.C w3 A1 x.b.length x.b) := ⟨Kd.C_below R1.out HB3.out⟩
            have HR2' : Aside0 (kB.C w3 A2 x.tag.length x.tag) := ⟨Kd.C_below R2.out HB3.out⟩
            have HO3 : Aside0 (kS.R 46 w3 0 tr (.slice (some ⟨g, 0, none⟩) ce.texts.length ct) ce.texts) := ⟨Kd.R_below HO2.out HB3.out⟩
            rw [hgs] at HX3 HGS HS3 ⊢
            have hne : gs ≠ g := by have := HGS.out; omega
            have hne' : g ≠ gs := by omega
            have k1 : w3.cell? ⟨gs, 1, none⟩ = some (.slice A1 x.b.length m1) := (blk_cell HX3.out 1).trans rfl
            have k2 : w3.cell? ⟨gs, 2, none⟩ = some (.slice A2 x.tag.length m2) := (blk_cell HX3.out 2).trans rfl
            clear hgs c0 c1' c2' z1 z2 R1 R2 HB3 HO2 HW2 HGl
            go_region_held3 (fun w' => w'.cell? ⟨gs, 1, none⟩ = some (.slice A1 x.b.length m1) ∧ w'.cell? ⟨gs, 2, none⟩ = some (.slice A2 x.tag.length m2))
              (first | go_keep | exact keepG HY1.out (by repeat (first | exact Below.refl _ _ | refine below_drew ?_ | refine pw_below_drewN ?_ _ | refine below_alloc ?_ _)))
              (first
                | (go_at_call_of 31 (Value.slice A1 x.b.length m1); refine (clone_any A1 m1 x.b _ (Kd.C_below HR1'.out (by repeat (first | exact Below.refl _ _ | refine below_drew ?_ | refine pw_below_drewN ?_ _ | refine below_alloc ?_ _))) HKx.out.1).mono ?_; rintro e W1 ⟨v1, rfl, hr, hb⟩; have HB1 := Aside0.mk (bl_to (Below.refl w3.heap.size w3) (Nat.le_refl _) (by repeat (first | exact Below.refl _ _ | refine below_drew ?_ | refine pw_below_drewN ?_ _ | refine below_alloc ?_ _)) hb); have HY1 := Aside0.mk (blk_below HX3.out HB1.out); have HN1 := Aside0.mk (Kd.R_lower hr (Nat.zero_le _)); clear hr hb; obtain ⟨B1, p1, q1⟩ := Kd.R_slice HN1.out; subst q1)
                | (go_at_call_of 31 (Value.slice A2 x.tag.length m2); refine (clone_any A2 m2 x.tag _ (Kd.C_below HR2'.out (bl_to HB1.out (Nat.le_refl _) (by repeat (first | exact Below.refl _ _ | refine below_drew ?_ | refine pw_below_drewN ?_ _ | refine below_alloc ?_ _)) (Below.refl _ _))) HKx.out.2).mono ?_; rintro e W2 ⟨v2, rfl, hr, hb⟩; have HB2 := Aside0.mk (bl_to (Below.refl W1.heap.size W1) (Nat.le_refl _) (by repeat (first | exact Below.refl _ _ | refine below_drew ?_ | refine pw_below_drewN ?_ _ | refine below_alloc ?_ _)) hb); have HY2 := Aside0.mk (blk_below HY1.out HB2.out); have HN2 := Aside0.mk (Kd.R_below HN1.out HB2.out); have HN3 := Aside0.mk (Kd.R_lower hr (Nat.zero_le _)); have HO4 := Aside0.mk (Kd.R_below HO3.out (HB1.out.trans (HB2.out.mono HB1.out.size))); obtain ⟨x1, x2, y0, y1, y2, _, _, fz, hnl⟩ := rowS_at HO4.out HX.out; have z1 := fz (j * 3 + 1); have z2 := fz (j * 3 + 2); obtain ⟨g1, g2⟩ := keepG HY2.out (Below.refl _ _); clear hr hb fz hnl; obtain ⟨B2, p2, q2⟩ := Kd.R_slice HN3.out; subst q2))
            have HO5 := Aside0.mk (rowS_set HO4.out HX.out HN2.out HN3.out)
            have HW5 : Aside0 (Below W0.heap.size W0 W2) := ⟨HW3.out.trans ((HB1.out.trans (HB2.out.mono HB1.out.size)).mono HW3.out.size)⟩
            have HW6 : Aside0 (Below W0.heap.size W0 ((W2.setCell ⟨g, j * 3 + 1, none⟩ (.slice B1 x.b.length p1)).setCell ⟨g, j * 3 + 2, none⟩ (.slice B2 x.tag.length p2))) := ⟨(HW5.out.setCell HFg.out _).setCell HFg.out _⟩
            go_wp2_with fail
            go_roundw
            case rel => exact ⟨j + 1, by omega, by go_num, HO5, HW6⟩
            case measure => simp [RowKit.intOf]; omega
          · have hj3 : ¬ ((j : Int) < ce.texts.length) := by omega
            clear hjl hj
            have HV2 : Aside0 (kL.R 44 wr 0 tr u2 (certsOf (absL es) (r.take i))) := ⟨Kd.R_below HV.out HW2.out⟩
            have HM2 : Aside0 (kL.M wr 0 (fun k => some k ≠ u2.ownBlock) ce.texts [.slice At ce.texts.length ct]) := ⟨⟨_, rfl, R_apart44 HO2.out HV2.out⟩⟩
            have hl12 : (certsOf (absL es) (r.take i)).length ≤ 12 := by
              have := List.length_filterMap_le (certQ (absL es)) (r.take i)
              unfold certsOf
              rw [List.length_take] at this
              omega
            go_wp2_with (at_builtin; refine Kd.R_append kL (w0 := w) (W := wr) 0 rfl (.tmp 60) (.tmp 62) 39 44 (.slice none 0 0) 24 rfl Try.underlying39 info44 rfl (by decide) (by omega) u2 (certsOf (absL es) (r.take i)) ce.texts [.slice At ce.texts.length ct] tr (fun k => some k ≠ u2.ownBlock) rfl rfl HM2.out (fun k hk => ⟨trivial, hk⟩) (fun _ _ => trivial) HV2.out ((HWw.out.trans (HW2.out.mono HWw.out.size)).mono (Nat.zero_le _)) (Nat.zero_le _) (by omega) ?_; intro v1 w1 ho _ hg hat)
            have HWs : Aside0 (Below w2.heap.size w2 wr) := ⟨HW.out.trans (HW2.out.mono HW.out.size)⟩
            go_roundw
            case rel => exact ⟨i + 1, by have := HQ.out.1; omega, by go_num, ⟨by rw [HCQ.out, HN.out]; exact ho⟩, ⟨HFr.out.grow HWs.out.size hat⟩, ⟨below_grown HWs.out hg HWs.out.size HFr.out⟩⟩
            case measure => simp [RowKit.intOf]; have := HQ.out.1; omega
    · have h3 : ¬ ((i : Int) < r.length) := by omega
      go_wp2_with fail
      go_ret
      have e1 : i = r.length := by omega
      exact ⟨_, rfl, r, HP.out, HU.out, by have := HV.out; rw [e1, List.take_length] at this; exact this, HWw.out⟩
end Go.Proofs.Ytfjfggnbkopocaa
