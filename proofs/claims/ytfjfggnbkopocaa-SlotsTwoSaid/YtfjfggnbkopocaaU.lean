/- Slots: the primary's prepare; a pre-prepare of another one. -/
import Derived.Test.YtfjfggnbkopocaaS
/- The primary. -/
set_option linter.unusedVariables false
set_option linter.unusedSimpArgs false
namespace Go.Proofs.Ytfjfggnbkopocaa
open Go.RowKit Go.Proofs.YtfjfggnbkopocaaW.PrintWords
attribute [local go_sem] ptr

set_option maxHeartbeats 4000000 in
set_option maxRecDepth 100000 in
theorem Prepare_prim {w : World} {l m : Nat} {f low view : Int} {es : List Ent} (h : LogAt w l m f low view es) (h1 : 1 ≤ f) (h4 : f ≤ 4) (hlow : 0 ≤ low) (hv0 : 0 ≤ view) (hok : ∀ p ∈ absL es, okV p.2.prep)
    (x : Sig) (q : Int) (sum : List Int) (A1 A2 A : Option Addr) (c1 c2 c : Nat) (hq0 : 0 ≤ q) (hq1 : q < 18446744073709551616) (hx : okS x)
    (r1 : Read (foot l m es) w A1 x.b) (r2 : Read (foot l m es) w A2 x.tag) (hr : Read (foot l m es) w A sum) (k : Nat) (hk : x.from_ = (k : Int) + 1) (ha : askedK f low x.from_ q = 0) (hp : x.from_ = prim view f) :
    Calls Try.prog 22 #[ptr l, .agg #[.int .u64 x.from_, .slice A1 x.b.length c1, .slice A2 x.tag.length c2], .int .u64 q, .slice A sum.length c] w fun r w' => r = .returned (.int .i64 18) ∧ Left w w' l m f low view es low view (atQ (absL es) q) := by
  have HL := Aside0.mk h
  have HF := Aside0.mk (And.intro h1 h4)
  have HLW := Aside0.mk hlow
  have HV0 := Aside0.mk hv0
  have HOK := Aside0.mk hok
  have HQ := Aside0.mk (And.intro hq0 hq1)
  have HX := Aside0.mk hx
  have R1 := Aside0.mk r1
  have R2 := Aside0.mk r2
  have RS := Aside0.mk hr
  have HK := Aside0.mk hk
  have HA := Aside0.mk ha
  have hpr : (x.from_ == prim view f) = true := beq_iff_eq.2 hp
  clear h h1 h4 hlow hv0 hok hq0 hq1 hx r1 r2 hr hk ha hp
  go_enter Try.func22, Try.ntmps22
  go_wp2_with fail
  obtain ⟨g, hg⟩ : ∃ g, w.heap.size = g := ⟨_, rfl⟩
  have HG := Aside0.mk hg
  have HX0 : Aside0 ((w.alloc (.cells #[.int .u64 x.from_, .slice A1 x.b.length c1, .slice A2 x.tag.length c2] 46)).heap[g]? = some (.cells #[.int .u64 x.from_, .slice A1 x.b.length c1, .slice A2 x.tag.length c2] 46 (0, 0))) := ⟨by rw [← hg]; exact heap_alloc_new w _⟩
  have HB : Aside0 (Below w.heap.size w (w.alloc (.cells #[.int .u64 x.from_, .slice A1 x.b.length c1, .slice A2 x.tag.length c2] 46))) := ⟨below_alloc (Below.refl _ _) _⟩
  rw [hg]
  generalize w.alloc (.cells #[.int .u64 x.from_, .slice A1 x.b.length c1, .slice A2 x.tag.length c2] 46) = w1 at HX0 HB ⊢
  clear hg
  refine (slot_ok (HL.out.keep HB.out) HF.out.1 HF.out.2 HLW.out (by have := HK.out; omega) HQ.out.1 HQ.out.2 HA.out).mono ?_
  rintro r w2 ⟨a, e, b, rfl, heq, habs, hL2, hF2, hfo⟩
  have HE := Aside0.mk heq
  have HAB := Aside0.mk habs
  have HL2 := Aside0.mk hL2
  have HF2 := Aside0.mk hF2
  have HFO := Aside0.mk hfo
  have hne : g ≠ m := by
    have := HL.out.lt (b := m) (by simp [foot])
    have := HG.out
    omega
  have HX2 : Aside0 (w2.heap[g]? = some (.cells #[.int .u64 x.from_, .slice A1 x.b.length c1, .slice A2 x.tag.length c2] 46 (0, 0))) := ⟨(hF2.block g (blk_lt HX0.out) (by simpa using hne)).trans HX0.out⟩
  have g0 : w2.cell? ⟨g, 0, none⟩ = some (.int .u64 x.from_) := (blk_cell HX2.out 0).trans rfl
  obtain ⟨l0, l1, l2, l3, _⟩ := hL2.cells
  clear heq habs hL2 hF2 hfo hne l1 l3
  go_wp2_with fail
  go_quiet ((go_at_call 37; exact quiet1 (Primary_any HF.out.1 HF.out.2 HV0.out _)))
  have HL3 : Aside0 (LogAt (w2.drewN nq) l m f low view (a ++ e :: b)) := ⟨HL2.out.keep (pw_below_drewN (Below.refl _ _) nq)⟩
  have HW3 : Aside0 (Fr (foot l m es) w (w2.drewN nq)) := ⟨((Fr.of_below (F := foot l m es) HB.out).trans (HF2.out.mono (G := foot l m es) (by simp [foot])) (fun x hx => .inl hx)).trans (Fr.of_below (F := []) (pw_below_drewN (Below.refl _ _) nq)) (by simp)⟩
  go_wp2_with fail
  go_ret
  exact ⟨rfl, ⟨_, HL3.out, HAB.out, fun x hx => (HFO.out x hx).imp id (fun h => Nat.le_trans HB.out.size h)⟩, HW3.out⟩
set_option maxHeartbeats 4000000 in
set_option maxRecDepth 100000 in
theorem Pre_other {w : World} {l m : Nat} {f low view : Int} {es : List Ent} (h : LogAt w l m f low view es) (h1 : 1 ≤ f) (h4 : f ≤ 4) (hlow : 0 ≤ low) (hv0 : 0 ≤ view) (hok : ∀ p ∈ absL es, okV p.2.prep)
    (x : Sig) (q : Int) (sum : List Int) (A1 A2 A : Option Addr) (c1 c2 c : Nat) (hq0 : 0 ≤ q) (hq1 : q < 18446744073709551616) (hx : okS x)
    (r1 : Read (foot l m es) w A1 x.b) (r2 : Read (foot l m es) w A2 x.tag) (hr : Read (foot l m es) w A sum) (k : Nat) (hk : x.from_ = (k : Int) + 1) (ha : askedK f low x.from_ q = 0) (hp : x.from_ ≠ prim view f) :
    Calls Try.prog 21 #[ptr l, .agg #[.int .u64 x.from_, .slice A1 x.b.length c1, .slice A2 x.tag.length c2], .int .u64 q, .slice A sum.length c] w fun r w' => r = .returned (.int .i64 18) ∧ Left w w' l m f low view es low view (atQ (absL es) q) := by
  have HL := Aside0.mk h
  have HF := Aside0.mk (And.intro h1 h4)
  have HLW := Aside0.mk hlow
  have HV0 := Aside0.mk hv0
  have HOK := Aside0.mk hok
  have HQ := Aside0.mk (And.intro hq0 hq1)
  have HX := Aside0.mk hx
  have R1 := Aside0.mk r1
  have R2 := Aside0.mk r2
  have RS := Aside0.mk hr
  have HK := Aside0.mk hk
  have HA := Aside0.mk ha
  have hpr : (x.from_ != prim view f) = true := bne_iff_ne.2 hp
  clear h h1 h4 hlow hv0 hok hq0 hq1 hx r1 r2 hr hk ha hp
  go_enter Try.func21, Try.ntmps21
  go_wp2_with fail
  obtain ⟨g, hg⟩ : ∃ g, w.heap.size = g := ⟨_, rfl⟩
  have HG := Aside0.mk hg
  have HX0 : Aside0 ((w.alloc (.cells #[.int .u64 x.from_, .slice A1 x.b.length c1, .slice A2 x.tag.length c2] 46)).heap[g]? = some (.cells #[.int .u64 x.from_, .slice A1 x.b.length c1, .slice A2 x.tag.length c2] 46 (0, 0))) := ⟨by rw [← hg]; exact heap_alloc_new w _⟩
  have HB : Aside0 (Below w.heap.size w (w.alloc (.cells #[.int .u64 x.from_, .slice A1 x.b.length c1, .slice A2 x.tag.length c2] 46))) := ⟨below_alloc (Below.refl _ _) _⟩
  rw [hg]
  generalize w.alloc (.cells #[.int .u64 x.from_, .slice A1 x.b.length c1, .slice A2 x.tag.length c2] 46) = w1 at HX0 HB ⊢
  clear hg
  refine (slot_ok (HL.out.keep HB.out) HF.out.1 HF.out.2 HLW.out (by have := HK.out; omega) HQ.out.1 HQ.out.2 HA.out).mono ?_
  rintro r w2 ⟨a, e, b, rfl, heq, habs, hL2, hF2, hfo⟩
  have HE := Aside0.mk heq
  have HAB := Aside0.mk habs
  have HL2 := Aside0.mk hL2
  have HF2 := Aside0.mk hF2
  have HFO := Aside0.mk hfo
  have hne : g ≠ m := by
    have := HL.out.lt (b := m) (by simp [foot])
    have := HG.out
    omega
  have HX2 : Aside0 (w2.heap[g]? = some (.cells #[.int .u64 x.from_, .slice A1 x.b.length c1, .slice A2 x.tag.length c2] 46 (0, 0))) := ⟨(hF2.block g (blk_lt HX0.out) (by simpa using hne)).trans HX0.out⟩
  have g0 : w2.cell? ⟨g, 0, none⟩ = some (.int .u64 x.from_) := (blk_cell HX2.out 0).trans rfl
  obtain ⟨l0, l1, l2, l3, _⟩ := hL2.cells
  clear heq habs hL2 hF2 hfo hne l1 l3
  go_wp2_with fail
  go_quiet ((go_at_call 37; exact quiet1 (Primary_any HF.out.1 HF.out.2 HV0.out _)))
  have HL3 : Aside0 (LogAt (w2.drewN nq) l m f low view (a ++ e :: b)) := ⟨HL2.out.keep (pw_below_drewN (Below.refl _ _) nq)⟩
  have HW3 : Aside0 (Fr (foot l m es) w (w2.drewN nq)) := ⟨((Fr.of_below (F := foot l m es) HB.out).trans (HF2.out.mono (G := foot l m es) (by simp [foot])) (fun x hx => .inl hx)).trans (Fr.of_below (F := []) (pw_below_drewN (Below.refl _ _) nq)) (by simp)⟩
  go_wp2_with fail
  go_ret
  exact ⟨rfl, ⟨_, HL3.out, HAB.out, fun x hx => (HFO.out x hx).imp id (fun h => Nat.le_trans HB.out.size h)⟩, HW3.out⟩
end Go.Proofs.Ytfjfggnbkopocaa

/- Slots: a second pre-prepare. -/
/- Pre again. -/
set_option linter.unusedVariables false
set_option linter.unusedSimpArgs false
namespace Go.Proofs.Ytfjfggnbkopocaa
open Go.RowKit Go.Proofs.YtfjfggnbkopocaaW.PrintWords
attribute [local go_sem] ptr

/-- Are bytes the same? -/
def sameB (a b : List Int) : Bool := (strOfNums a).toList == (strOfNums b).toList
/-- A pre-prepare of the primary. -/
def preM (f view : Int) (x : Sig) (sum : List Int) (s : SlotM) : SlotM := match s.pre with
  | none => settleM f view { s with pre := some x, sum := sum }
  | some _ => if sameB s.sum sum then settleM f view s else s
def preK (sum : List Int) (s : SlotM) : Int := match s.pre with
  | none => 0
  | some _ => if sameB s.sum sum then 0 else 18
theorem Equal_any {w : World} {A0 A1 : Option Addr} {c0 c1 : Nat} {l0 l1 : List Int} (h0 : kB.C w A0 l0.length l0) (k0 : l0.length ≤ c0) (h1 : kB.C w A1 l1.length l1) (k1 : l1.length ≤ c1) :
    Calls Try.prog 38 #[.slice A0 l0.length c0, .slice A1 l1.length c1] w fun e w' => e = .returned (.bool (sameB l0 l1)) ∧ Drawn0 w w' := PSlotsTwo.bytes_Equal.calls A0 c0 l0 A1 c1 l1 _ w h0 k0 h1 k1 rfl
set_option maxHeartbeats 4000000 in
set_option maxRecDepth 100000 in
theorem Pre_again {w : World} {l m : Nat} {f low view : Int} {es : List Ent} (h : LogAt w l m f low view es) (h1 : 1 ≤ f) (h4 : f ≤ 4) (hlow : 0 ≤ low) (hv0 : 0 ≤ view) (hok : ∀ p ∈ absL es, okV p.2.prep)
    (x : Sig) (q : Int) (sum : List Int) (A1 A2 A : Option Addr) (c1 c2 c : Nat) (hq0 : 0 ≤ q) (hq1 : q < 18446744073709551616) (hx : okS x)
    (r1 : Read (foot l m es) w A1 x.b) (r2 : Read (foot l m es) w A2 x.tag) (hr : Read (foot l m es) w A sum) (k : Nat) (hk : x.from_ = (k : Int) + 1) (ha : askedK f low x.from_ q = 0) (hp : x.from_ = prim view f) (hlc : sum.length ≤ c) (s : SlotM) (hs : getQ (atQ (absL es) q) q = some s) (gp : Sig) (hpre : s.pre = some gp) :
    Calls Try.prog 21 #[ptr l, .agg #[.int .u64 x.from_, .slice A1 x.b.length c1, .slice A2 x.tag.length c2], .int .u64 q, .slice A sum.length c] w fun r w' => r = .returned (.int .i64 (preK sum s)) ∧ Left w w' l m f low view es low view (modQ (atQ (absL es) q) q (preM f view x sum)) := by
  have HL := Aside0.mk h
  have HF := Aside0.mk (And.intro h1 h4)
  have HLW := Aside0.mk hlow
  have HV0 := Aside0.mk hv0
  have HOK := Aside0.mk hok
  have HQ := Aside0.mk (And.intro hq0 hq1)
  have HX := Aside0.mk hx
  have R1 := Aside0.mk r1
  have R2 := Aside0.mk r2
  have RS := Aside0.mk hr
  have HK := Aside0.mk hk
  have HA := Aside0.mk ha
  have hpr : (x.from_ != prim view f) = false := by rw [hp]; simp
  have HSQ := Aside0.mk hs
  have HPRE := Aside0.mk hpre
  have HLC := Aside0.mk hlc
  clear h h1 h4 hlow hv0 hok hq0 hq1 hx r1 r2 hr hk ha hp hs hpre hlc
  go_enter Try.func21, Try.ntmps21
  go_wp2_with fail
  obtain ⟨g, hg⟩ : ∃ g, w.heap.size = g := ⟨_, rfl⟩
  have HG := Aside0.mk hg
  have HX0 : Aside0 ((w.alloc (.cells #[.int .u64 x.from_, .slice A1 x.b.length c1, .slice A2 x.tag.length c2] 46)).heap[g]? = some (.cells #[.int .u64 x.from_, .slice A1 x.b.length c1, .slice A2 x.tag.length c2] 46 (0, 0))) := ⟨by rw [← hg]; exact heap_alloc_new w _⟩
  have HB : Aside0 (Below w.heap.size w (w.alloc (.cells #[.int .u64 x.from_, .slice A1 x.b.length c1, .slice A2 x.tag.length c2] 46))) := ⟨below_alloc (Below.refl _ _) _⟩
  rw [hg]
  generalize w.alloc (.cells #[.int .u64 x.from_, .slice A1 x.b.length c1, .slice A2 x.tag.length c2] 46) = w1 at HX0 HB ⊢
  clear hg
  refine (slot_ok (HL.out.keep HB.out) HF.out.1 HF.out.2 HLW.out (by have := HK.out; omega) HQ.out.1 HQ.out.2 HA.out).mono ?_
  rintro r w2 ⟨a, e, b, rfl, heq, habs, hL2, hF2, hfo⟩
  have HE := Aside0.mk heq
  have HAB := Aside0.mk habs
  have HL2 := Aside0.mk hL2
  have HF2 := Aside0.mk hF2
  have HFO := Aside0.mk hfo
  have hne : g ≠ m := by
    have := HL.out.lt (b := m) (by simp [foot])
    have := HG.out
    omega
  have HX2 : Aside0 (w2.heap[g]? = some (.cells #[.int .u64 x.from_, .slice A1 x.b.length c1, .slice A2 x.tag.length c2] 46 (0, 0))) := ⟨(hF2.block g (blk_lt HX0.out) (by simpa using hne)).trans HX0.out⟩
  have g0 : w2.cell? ⟨g, 0, none⟩ = some (.int .u64 x.from_) := (blk_cell HX2.out 0).trans rfl
  obtain ⟨l0, l1, l2, l3, _⟩ := hL2.cells
  clear heq habs hL2 hF2 hfo hne l1 l3
  go_wp2_with fail
  go_quiet ((go_at_call 37; exact quiet1 (Primary_any HF.out.1 HF.out.2 HV0.out _)))
  have HL3 : Aside0 (LogAt (w2.drewN nq) l m f low view (a ++ e :: b)) := ⟨HL2.out.keep (pw_below_drewN (Below.refl _ _) nq)⟩
  have HW3 : Aside0 (Fr (foot l m es) w (w2.drewN nq)) := ⟨((Fr.of_below (F := foot l m es) HB.out).trans (HF2.out.mono (G := foot l m es) (by simp [foot])) (fun x hx => .inl hx)).trans (Fr.of_below (F := []) (pw_below_drewN (Below.refl _ _) nq)) (by simp)⟩
  generalize w2.drewN nq = w3 at HL3 HW3 ⊢
  have HSm : Aside0 (∀ x ∈ foot l m (a ++ e :: b), x ∈ foot l m es ∨ w.heap.size ≤ x) := ⟨fun x hx => (HFO.out x hx).imp id (fun h => Nat.le_trans HB.out.size h)⟩
  have HES : Aside0 (SlotAt w3 f e) := ⟨HL3.out.slots e (by simp)⟩
  have HSE : Aside0 (e.s = s) := ⟨by
    have h5 := getQ_abs (nodup_q HL3.out) HE.out
    rw [HAB.out, HSQ.out] at h5
    exact (Option.some.inj h5).symm⟩
  clear g0 l0 l2
  obtain ⟨vp, vs, vc, s0, s1, s2, s3, s4, _, hpe, hse, _, _, _, _⟩ := HES.out.cells
  rw [HSE.out, HPRE.out] at hpe
  obtain ⟨gpb, gcs, hvp, _, _⟩ := hpe
  subst hvp
  obtain ⟨A5, n5, q5, hl5, hc5⟩ := Kd.R_reads hse
  subst q5
  have HC5 := Aside0.mk hc5
  have HL5' := Aside0.mk hl5
  have HOe : Aside0 (okV e.s.prep) := ⟨okL_at HOK.out (e.q, e.s) (by rw [← HAB.out]; exact List.mem_map.2 ⟨e, by simp, rfl⟩)⟩
  clear hse hl5 hc5 s2 s3 s4
  go_wp2_with fail
  refine (Equal_any HC5.out HL5'.out (RS.out _ HW3.out) HLC.out).mono ?_
  rintro r w4 ⟨rfl, n4, rfl⟩
  have HL4 : Aside0 (LogAt (w3.drewN n4) l m f low view (a ++ e :: b)) := ⟨HL3.out.keep (pw_below_drewN (Below.refl _ _) n4)⟩
  have HW4 : Aside0 (Fr (foot l m es) w (w3.drewN n4)) := ⟨HW3.out.trans (Fr.of_below (F := []) (pw_below_drewN (Below.refl _ _) n4)) (by simp)⟩
  have t0 : (w3.drewN n4).cell? ⟨e.sb, 0, none⟩ = some (ptr gpb) := s0
  generalize w3.drewN n4 = w4 at HL4 HW4 t0 ⊢
  have hn := nodup_q HL4.out
  have HN := Aside0.mk hn
  have hself : ∀ (L : List (Int × SlotM)) (g : SlotM → SlotM), (∀ p ∈ L, p.1 = q → g p.2 = p.2) → modQ L q g = L := fun L g hg => by
    unfold modQ
    conv => rhs; rw [← List.map_id L]
    refine List.map_congr_left (fun p hp => ?_)
    by_cases hpq : p.1 = q
    · rw [if_pos hpq, hg p hp hpq]
      rfl
    · rw [if_neg hpq]
      rfl
  have HSELF := Aside0.mk hself
  cases hb : sameB e.s.sum sum with
  | false =>
    have HSM := Aside0.mk hb
    clear hb hn hself
    go_wp2_with fail
    go_ret
    refine ⟨?_, ⟨_, HL4.out, ?_, HSm.out⟩, HW4.out⟩
    · unfold preK
      rw [HPRE.out, ← HSE.out]
      simp [HSM.out]
    · rw [HSELF.out]
      · exact HAB.out
      · intro p hp hpq
        have h5 : getQ (atQ (absL es) q) q = some p.2 := by
          rw [← HAB.out] at hp ⊢
          obtain ⟨e1, he1, rfl⟩ := List.mem_map.1 hp
          obtain ⟨a1, b1, hab⟩ := List.append_of_mem he1
          have hnn := HN.out
          rw [hab] at hnn ⊢
          exact getQ_abs hnn hpq
        rw [HSQ.out] at h5
        have h6 := Option.some.inj h5
        rw [← h6]
        unfold preM
        rw [HPRE.out]
        simp [← HSE.out, HSM.out]
  | true =>
    have HSM := Aside0.mk hb
    clear hb hn hself
    go_wp2_with fail
    refine (settle_any HL4.out HF.out.1 HF.out.2 HOe.out).mono ?_
    rintro r w5 ⟨rfl, hL5, hF5⟩
    have HL5 := Aside0.mk hL5
    have HF5 := Aside0.mk hF5
    clear hL5 hF5
    go_wp2_with fail
    go_ret
    have hin : ∀ y ∈ blks e, y ∈ foot l m es ∨ w.heap.size ≤ y := fun y hy => HSm.out y (foot_ent (e := e) (by simp) hy)
    refine ⟨?_, ⟨_, HL5.out, ?_, ?_⟩, ?_⟩
    · unfold preK
      rw [HPRE.out, ← HSE.out]
      simp [HSM.out]
    · rw [← HAB.out]
      refine modQ_abs HN.out HE.out HE.out ?_
      show settleM f view e.s = preM f view x sum e.s
      unfold preM
      rw [HSE.out, HPRE.out]
      have h7 := HSM.out
      rw [HSE.out] at h7
      simp [h7]
    · intro y hy
      have h9 := hy
      rw [foot_swap (e := e) (e' := { e with s := settleM f view e.s }) rfl rfl rfl] at h9
      exact HSm.out y h9
    · refine HW4.out.trans HF5.out ?_
      intro y hy
      exact hin y (by simp at hy; simp [blks, hy])
end Go.Proofs.Ytfjfggnbkopocaa
