/- Slots: a first pre-prepare. -/
import Derived.Test.YtfjfggnbkopocaaU
/- Pre. -/
set_option linter.unusedVariables false
set_option linter.unusedSimpArgs false
namespace Go.Proofs.Ytfjfggnbkopocaa
open Go.RowKit Go.Proofs.YtfjfggnbkopocaaW.PrintWords
attribute [local go_sem] ptr

structure Boxed2 (w0 wx : World) (g : Nat) (x : Sig) : Prop where
  box : ∃ v1 v2, wx.heap[g]? = some (.cells #[.int .u64 x.from_, v1, v2] 46 (0, 0)) ∧ kB.R 5 wx 0 tr v1 x.b ∧ kB.R 5 wx 0 tr v2 x.tag
  fr : Fr [g] w0 wx
set_option maxHeartbeats 4000000 in
set_option maxRecDepth 100000 in
theorem Pre_first {w : World} {l m : Nat} {f low view : Int} {es : List Ent} (h : LogAt w l m f low view es) (h1 : 1 ≤ f) (h4 : f ≤ 4) (hlow : 0 ≤ low) (hv0 : 0 ≤ view) (hok : ∀ p ∈ absL es, okV p.2.prep)
    (x : Sig) (q : Int) (sum : List Int) (A1 A2 A : Option Addr) (c1 c2 c : Nat) (hq0 : 0 ≤ q) (hq1 : q < 18446744073709551616) (hx : okS x)
    (r1 : Read (foot l m es) w A1 x.b) (r2 : Read (foot l m es) w A2 x.tag) (hr : Read (foot l m es) w A sum) (k : Nat) (hk : x.from_ = (k : Int) + 1) (ha : askedK f low x.from_ q = 0) (hp : x.from_ = prim view f) (hlc : sum.length ≤ c) (s : SlotM) (hs : getQ (atQ (absL es) q) q = some s) (hpre : s.pre = none) (hsl : sum.length ≤ 1000000) :
    Calls Try.prog 21 #[ptr l, .agg #[.int .u64 x.from_, .slice A1 x.b.length c1, .slice A2 x.tag.length c2], .int .u64 q, .slice A sum.length c] w fun r w' => r = .returned (.int .i64 (preK sum s)) ∧ Left w w' l m f low view es low view (modQ (atQ (absL es) q) q (preM f view x sum)) := by
  have HL := Aside0.mk h
  have HF := Aside0.mk (And.intro h1 h4)
  have HLW := Aside0.mk hlow
  have HV0 := Aside0.mk hv0
  have HOK := Aside0.mk hok
  have HQ := Aside0.mk (And.intro hq0 hq1)
  have HX := Aside0.mk hx
  have R1 := Aside0.mk r1
  have R2 := Aside0.mk r2
  have RS := Aside0.mk hr
  have HK := Aside0.mk hk
  have HA := Aside0.mk ha
  have hpr : (x.from_ != prim view f) = false := by rw [hp]; simp
  have HSQ := Aside0.mk hs
  have HPRE := Aside0.mk hpre
  have HLC := Aside0.mk hlc
  have HSL := Aside0.mk hsl
  clear h h1 h4 hlow hv0 hok hq0 hq1 hx r1 r2 hr hk ha hp hs hpre hlc hsl
  go_enter Try.func21, Try.ntmps21
  go_wp2_with fail
  obtain ⟨g, hg⟩ : ∃ g, w.heap.size = g := ⟨_, rfl⟩
  have HG := Aside0.mk hg
  have HX0 : Aside0 ((w.alloc (.cells #[.int .u64 x.from_, .slice A1 x.b.length c1, .slice A2 x.tag.length c2] 46)).heap[g]? = some (.cells #[.int .u64 x.from_, .slice A1 x.b.length c1, .slice A2 x.tag.length c2] 46 (0, 0))) := ⟨by rw [← hg]; exact heap_alloc_new w _⟩
  have HB : Aside0 (Below w.heap.size w (w.alloc (.cells #[.int .u64 x.from_, .slice A1 x.b.length c1, .slice A2 x.tag.length c2] 46))) := ⟨below_alloc (Below.refl _ _) _⟩
  rw [hg]
  generalize w.alloc (.cells #[.int .u64 x.from_, .slice A1 x.b.length c1, .slice A2 x.tag.length c2] 46) = w1 at HX0 HB ⊢
  clear hg
  refine (slot_ok2 HL.out HB.out HF.out.1 HF.out.2 HLW.out (by have := HK.out; omega) HQ.out.1 HQ.out.2 HA.out).mono ?_
  rintro r w2 ⟨a, e, b, rfl, heq, habs, hL2, hF2, hfo, hst⟩
  have HST := Aside0.mk hst
  clear hst
  have HE := Aside0.mk heq
  have HAB := Aside0.mk habs
  have HL2 := Aside0.mk hL2
  have HF2 := Aside0.mk hF2
  have HFO := Aside0.mk hfo
  have hne : g ≠ m := by
    have := HL.out.lt (b := m) (by simp [foot])
    have := HG.out
    omega
  have HX2 : Aside0 (w2.heap[g]? = some (.cells #[.int .u64 x.from_, .slice A1 x.b.length c1, .slice A2 x.tag.length c2] 46 (0, 0))) := ⟨(hF2.block g (blk_lt HX0.out) (by simpa using hne)).trans HX0.out⟩
  have g0 : w2.cell? ⟨g, 0, none⟩ = some (.int .u64 x.from_) := (blk_cell HX2.out 0).trans rfl
  obtain ⟨l0, l1, l2, l3, _⟩ := hL2.cells
  clear heq habs hL2 hF2 hfo hne l1 l3
  go_wp2_with fail
  go_quiet ((go_at_call 37; exact quiet1 (Primary_any HF.out.1 HF.out.2 HV0.out _)))
  have HL3 : Aside0 (LogAt (w2.drewN nq) l m f low view (a ++ e :: b)) := ⟨HL2.out.keep (pw_below_drewN (Below.refl _ _) nq)⟩
  have HW3 : Aside0 (Fr (foot l m es) w (w2.drewN nq)) := ⟨((Fr.of_below (F := foot l m es) HB.out).trans (HF2.out.mono (G := foot l m es) (by simp [foot])) (fun x hx => .inl hx)).trans (Fr.of_below (F := []) (pw_below_drewN (Below.refl _ _) nq)) (by simp)⟩
  have HW23 : Aside0 (Fr [g] w2 (w2.drewN nq)) := ⟨Fr.of_below (pw_below_drewN (Below.refl _ _) nq)⟩
  have HX3 : Aside0 ((w2.drewN nq).heap[g]? = some (.cells #[.int .u64 x.from_, .slice A1 x.b.length c1, .slice A2 x.tag.length c2] 46 (0, 0))) := ⟨HX2.out⟩
  generalize w2.drewN nq = w3 at HL3 HW3 HX3 HW23 ⊢
  have HSm : Aside0 (∀ x ∈ foot l m (a ++ e :: b), x ∈ foot l m es ∨ w.heap.size ≤ x) := ⟨fun x hx => (HFO.out x hx).imp id (fun h => Nat.le_trans HB.out.size h)⟩
  have HES : Aside0 (SlotAt w3 f e) := ⟨HL3.out.slots e (by simp)⟩
  have HSE : Aside0 (e.s = s) := ⟨by
    have h5 := getQ_abs (nodup_q HL3.out) HE.out
    rw [HAB.out, HSQ.out] at h5
    exact (Option.some.inj h5).symm⟩
  clear g0 l0 l2
  obtain ⟨vp, vs, vc, s0, s1, s2, s3, s4, _, hpe, hse, _, _, _, _⟩ := HES.out.cells
  rw [HSE.out, HPRE.out] at hpe
  have hpe0 : vp = .pointer none := hpe
  subst hpe0
  clear hse s1 s2 s3 s4 hpe
  have g1 : w3.cell? ⟨g, 1, none⟩ = some (.slice A1 x.b.length c1) := (blk_cell HX3.out 1).trans rfl
  have g2 : w3.cell? ⟨g, 2, none⟩ = some (.slice A2 x.tag.length c2) := (blk_cell HX3.out 2).trans rfl
  have Q1 : Aside0 (kB.C w3 A1 x.b.length x.b) := ⟨R1.out _ HW3.out⟩
  have Q2 : Aside0 (kB.C w3 A2 x.tag.length x.tag) := ⟨R2.out _ HW3.out⟩
  go_wp2_with fail
  go_cut [56] (fun v56 wx => Aside0 (Boxed2 w3 wx g x))
  case first =>
    go_region_with
      (first
        | (go_at_call_of 31 (Value.slice A1 x.b.length c1); refine (clone_any A1 c1 x.b _ (Kd.C_below Q1.out (bl_to (Below.refl w3.heap.size w3) (Nat.le_refl _) (by repeat (first | exact Below.refl _ _ | refine below_drew ?_ | refine pw_below_drewN ?_ _ | refine below_alloc ?_ _)) (Below.refl _ _))) HX.out.1).mono ?_; rintro e W1 ⟨v1, rfl, hr, hb⟩; have HB3 := Aside0.mk (bl_to (Below.refl w3.heap.size w3) (Nat.le_refl _) (by repeat (first | exact Below.refl _ _ | refine below_drew ?_ | refine pw_below_drewN ?_ _ | refine below_alloc ?_ _)) hb); have HY1 := Aside0.mk (blk_below HX3.out (bl_to (Below.refl w3.heap.size w3) (Nat.le_refl _) (by repeat (first | exact Below.refl _ _ | refine below_drew ?_ | refine pw_below_drewN ?_ _ | refine below_alloc ?_ _)) hb)); have HR1 := Aside0.mk (Kd.R_lower hr (Nat.zero_le _)); obtain ⟨y1, y2⟩ := keepG HY1.out (Below.refl _ _); clear hr hb; obtain ⟨B1, m1, q1⟩ := Kd.R_slice HR1.out; subst q1)
        | (go_at_call_of 31 (Value.slice A2 x.tag.length c2); refine (clone_any A2 c2 x.tag _ (Kd.C_below Q2.out (bl_to HB3.out (Nat.le_refl _) (by repeat (first | exact Below.refl _ _ | refine below_drew ?_ | refine pw_below_drewN ?_ _ | refine below_alloc ?_ _)) (Below.refl _ _))) HX.out.2).mono ?_; rintro e W2 ⟨v2, rfl, hr, hb⟩; have HB4 := Aside0.mk (bl_to HB3.out (Nat.le_refl _) (by repeat (first | exact Below.refl _ _ | refine below_drew ?_ | refine pw_below_drewN ?_ _ | refine below_alloc ?_ _)) hb); have HY2 := Aside0.mk (blk_below HY1.out (bl_to (Below.refl W1.heap.size W1) (Nat.le_refl _) (by repeat (first | exact Below.refl _ _ | refine below_drew ?_ | refine pw_below_drewN ?_ _ | refine below_alloc ?_ _)) hb)); have HR3 := Aside0.mk (Kd.R_below HR1.out (bl_to (Below.refl W1.heap.size W1) (Nat.le_refl _) (by repeat (first | exact Below.refl _ _ | refine below_drew ?_ | refine pw_below_drewN ?_ _ | refine below_alloc ?_ _)) hb)); have HR2 := Aside0.mk (Kd.R_lower hr (Nat.zero_le _)); obtain ⟨z1, z2⟩ := keepG HY2.out (Below.refl _ _); have z3 := blk_frozen HY2.out 1; have z4 := blk_frozen HY2.out 2; clear hr hb; obtain ⟨B2, m2, q2⟩ := Kd.R_slice HR2.out; subst q2))
    all_goals (
      go_wp2_with fail
      go_meet
      have q1 := blk_setCell HY2.out 1 (.slice B1 x.b.length m1)
      have q2 := blk_setCell q1 2 (.slice B2 x.tag.length m2)
      exact ⟨⟨⟨_, _, q2, Kd.R_set (Kd.R_set HR3.out HY2.out (by decide) 1 _) q1 (by decide) 2 _, Kd.R_set (Kd.R_set HR2.out HY2.out (by decide) 1 _) q1 (by decide) 2 _⟩, ((Fr.of_below (F := [g]) HB4.out).trans (Fr.set (F := [g]) ⟨g, 1, none⟩ (by simp) _) (by simp)).trans (Fr.set (F := [g]) ⟨g, 2, none⟩ (by simp) _) (by simp)⟩⟩)
  case rest =>
    have HWc : Aside0 (Fr (foot l m es) w wc) := ⟨HW3.out.trans hcut.out.fr (fun y hy => .inr (by have := HG.out; simp at hy; omega))⟩
    have HLc : Aside0 (LogAt wc l m f low view (a ++ e :: b)) := ⟨HST.out [g] wc (HW23.out.trans hcut.out.fr (by simp)) (fun y hy => by
      have hyg : y = g := by simpa using hy
      subst hyg
      exact ⟨by have := HG.out; omega, fun hin => (HL3.out.mut _ hin).not HX3.out (by decide) (by decide) (by decide)⟩)⟩
    obtain ⟨v1, v2, hbx, hb1, hb2⟩ := hcut.out.box
    have HBX := Aside0.mk hbx
    have HB1 := Aside0.mk hb1
    have HB2 := Aside0.mk hb2
    clear hbx hb1 hb2 g1 g2 s0
    go_wp2_with fail
    refine (clone_any A c sum _ (RS.out _ HWc.out) HSL.out).mono ?_
    rintro r w5 ⟨v5, rfl, hr5, hb5⟩
    have HB5 := Aside0.mk hb5
    have HR5 := Aside0.mk (Kd.R_lower hr5 (Nat.zero_le _))
    have HL5 : Aside0 (LogAt w5 l m f low view (a ++ e :: b)) := ⟨HLc.out.keep hb5⟩
    obtain ⟨vp5, vs5, vc5, t0, t1, _, _, _, tf, tp, ts, tc, tv1, tv2, th⟩ := (HL5.out.slots e (by simp)).cells
    have HTC := Aside0.mk tc
    have HTV1 := Aside0.mk tv1
    have HTV2 := Aside0.mk tv2
    have HTH := Aside0.mk th
    have z0 := tf 0
    have z1 := tf 1
    obtain ⟨A6, n6, q6⟩ := Kd.R_slice hr5
    subst q6
    clear hr5 hb5 tc tv1 tv2 th tf tp ts
    go_wp2_with fail
    have HFs : Aside0 (Fr [e.sb] w5 ((w5.setCell ⟨e.sb, 0, none⟩ (.pointer (some ⟨g, 0, none⟩))).setCell ⟨e.sb, 1, none⟩ (.slice A6 sum.length n6))) := ⟨fr_set (fr_set (Fr.refl _ _) 0 _) 1 _⟩
    have HLs : Aside0 (LogAt ((w5.setCell ⟨e.sb, 0, none⟩ (.pointer (some ⟨g, 0, none⟩))).setCell ⟨e.sb, 1, none⟩ (.slice A6 sum.length n6)) l m f low view (a ++ { e with s := { e.s with pre := some x, sum := sum } } :: b)) := ⟨by
      have hm := blk_mut (HL5.out.slots e (by simp)) (F := [e.sb]) (by simp [blks])
      have hnd := (nodup_apart HL5.out.nodup).2.2.2
      have hd1 : e.pb ≠ e.sb := by simp [blks] at hnd; omega
      have hd2 : e.cb ≠ e.sb := by simp [blks] at hnd; omega
      refine HL5.out.set (F := [e.sb]) HFs.out (by simp [blks]) rfl rfl rfl rfl ?_
      refine ⟨_, _, _, blk_setCell (blk_setCell HTH.out 0 _) 1 _, ⟨g, _, rfl, HFs.out.other hm (blk_below HBX.out HB5.out) (by decide) (by decide) (by decide), ?_⟩, R_fr HR5.out HFs.out hm kB_types, HTC.out.fr HFs.out hm, HTV1.out.fr HFs.out hm (by simpa using hd1), HTV2.out.fr HFs.out hm (by simpa using hd2)⟩
      exact kS_mkM (R_fr (Kd.R_below HB1.out HB5.out) HFs.out hm kB_types) (R_fr (Kd.R_below HB2.out HB5.out) HFs.out hm kB_types)⟩
    have HOe : Aside0 (okV e.s.prep) := ⟨okL_at HOK.out (e.q, e.s) (by rw [← HAB.out]; exact List.mem_map.2 ⟨e, by simp, rfl⟩)⟩
    generalize (w5.setCell ⟨e.sb, 0, none⟩ (.pointer (some ⟨g, 0, none⟩))).setCell ⟨e.sb, 1, none⟩ (.slice A6 sum.length n6) = w6 at HFs HLs ⊢
    refine (settle_any HLs.out HF.out.1 HF.out.2 HOe.out).mono ?_
    rintro r w7 ⟨rfl, hL7, hF7⟩
    have HL7 := Aside0.mk hL7
    have HF7 := Aside0.mk hF7
    clear hL7 hF7 t0 t1 z0 z1
    go_wp2_with fail
    go_ret
    have hin : ∀ y ∈ blks e, y ∈ foot l m es ∨ w.heap.size ≤ y := fun y hy => HSm.out y (foot_ent (e := e) (by simp) hy)
    refine ⟨?_, ⟨_, HL7.out, ?_, ?_⟩, ?_⟩
    · unfold preK
      rw [HPRE.out]
      rfl
    · rw [← HAB.out]
      refine modQ_abs (nodup_q HL3.out) HE.out HE.out ?_
      show settleM f view { e.s with pre := some x, sum := sum } = preM f view x sum e.s
      unfold preM
      rw [HSE.out, HPRE.out]
    · intro y hy
      have h9 := hy
      rw [foot_swap (e := e) (e' := { e with s := settleM f view { e.s with pre := some x, sum := sum } }) rfl rfl rfl] at h9
      exact HSm.out y h9
    · refine ((HWc.out.trans (Fr.of_below (F := []) HB5.out) (by simp)).trans HFs.out ?_).trans HF7.out ?_
      · intro y hy
        exact hin y (by simp at hy; simp [blks, hy])
      · intro y hy
        exact hin y (by simp at hy; simp [blks, hy])
end Go.Proofs.Ytfjfggnbkopocaa
