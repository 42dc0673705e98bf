/- Slots: Commit; what is refused. -/
import Derived.Test.YtfjfggnbkopocaaQ
/- Commit. -/
set_option linter.unusedVariables false
set_option linter.unusedSimpArgs false
namespace Go.Proofs.Ytfjfggnbkopocaa
open Go.RowKit Go.Proofs.YtfjfggnbkopocaaW.PrintWords
attribute [local go_sem] ptr

set_option maxHeartbeats 4000000 in
set_option maxRecDepth 100000 in
theorem Commit_ok {w : World} {l m : Nat} {f low view : Int} {es : List Ent} (h : LogAt w l m f low view es) (h1 : 1 ≤ f) (h4 : f ≤ 4) (hlow : 0 ≤ low) (hv0 : 0 ≤ view) (hok : ∀ p ∈ absL es, okV p.2.prep)
    (x : Sig) (q : Int) (sum : List Int) (A1 A2 A : Option Addr) (c1 c2 c : Nat) (hq0 : 0 ≤ q) (hq1 : q < 18446744073709551616) (hx : okS x)
    (r1 : Read (foot l m es) w A1 x.b) (r2 : Read (foot l m es) w A2 x.tag) (hr : Read (foot l m es) w A sum) (k : Nat) (hk : x.from_ = (k : Int) + 1) (ha : askedK f low x.from_ q = 0) :
    Calls Try.prog 23 #[ptr l, .agg #[.int .u64 x.from_, .slice A1 x.b.length c1, .slice A2 x.tag.length c2], .int .u64 q, .slice A sum.length c] w fun r w' => ∃ s, getQ (atQ (absL es) q) q = some s ∧ r = .returned (.int .i64 (voteK s.comm k)) ∧ Left w w' l m f low view es low view (modQ (atQ (absL es) q) q (commitM k x sum)) := by
  have HL := Aside0.mk h
  have HF := Aside0.mk (And.intro h1 h4)
  have HLW := Aside0.mk hlow
  have HV0 := Aside0.mk hv0
  have HOK := Aside0.mk hok
  have HQ := Aside0.mk (And.intro hq0 hq1)
  have HX := Aside0.mk hx
  have R1 := Aside0.mk r1
  have R2 := Aside0.mk r2
  have RS := Aside0.mk hr
  have HK := Aside0.mk hk
  have HA := Aside0.mk ha
  clear h h1 h4 hlow hv0 hok hq0 hq1 hx r1 r2 hr hk ha
  go_enter Try.func23, Try.ntmps23
  go_wp2_with fail
  obtain ⟨g, hg⟩ : ∃ g, w.heap.size = g := ⟨_, rfl⟩
  have HG := Aside0.mk hg
  have HX0 : Aside0 ((w.alloc (.cells #[.int .u64 x.from_, .slice A1 x.b.length c1, .slice A2 x.tag.length c2] 46)).heap[g]? = some (.cells #[.int .u64 x.from_, .slice A1 x.b.length c1, .slice A2 x.tag.length c2] 46 (0, 0))) := ⟨by rw [← hg]; exact heap_alloc_new w _⟩
  have HB : Aside0 (Below w.heap.size w (w.alloc (.cells #[.int .u64 x.from_, .slice A1 x.b.length c1, .slice A2 x.tag.length c2] 46))) := ⟨below_alloc (Below.refl _ _) _⟩
  rw [hg]
  generalize w.alloc (.cells #[.int .u64 x.from_, .slice A1 x.b.length c1, .slice A2 x.tag.length c2] 46) = w1 at HX0 HB ⊢
  clear hg
  refine (slot_ok (HL.out.keep HB.out) HF.out.1 HF.out.2 HLW.out (by have := HK.out; omega) HQ.out.1 HQ.out.2 HA.out).mono ?_
  rintro r w2 ⟨a, e, b, rfl, heq, habs, hL2, hF2, hfo⟩
  have HE := Aside0.mk heq
  have HAB := Aside0.mk habs
  have HL2 := Aside0.mk hL2
  have HF2 := Aside0.mk hF2
  have HFO := Aside0.mk hfo
  have hne : g ≠ m := by
    have := HL.out.lt (b := m) (by simp [foot])
    have := HG.out
    omega
  have HX2 : Aside0 (w2.heap[g]? = some (.cells #[.int .u64 x.from_, .slice A1 x.b.length c1, .slice A2 x.tag.length c2] 46 (0, 0))) := ⟨(hF2.block g (blk_lt HX0.out) (by simpa using hne)).trans HX0.out⟩
  have g0 : w2.cell? ⟨g, 0, none⟩ = some (.int .u64 x.from_) := (blk_cell HX2.out 0).trans rfl
  obtain ⟨l0, l1, l2, l3, _⟩ := hL2.cells
  clear heq habs hL2 hF2 hfo hne l1 l3
  go_wp2_with fail
  have HL3 : Aside0 (LogAt (w2) l m f low view (a ++ e :: b)) := ⟨HL2.out⟩
  have HX3 : Aside0 ((w2).heap[g]? = some (.cells #[.int .u64 x.from_, .slice A1 x.b.length c1, .slice A2 x.tag.length c2] 46 (0, 0))) := ⟨HX2.out⟩
  have HW3 : Aside0 (Fr (foot l m es) w (w2)) := ⟨((Fr.of_below (F := foot l m es) HB.out).trans (HF2.out.mono (G := foot l m es) (by simp [foot])) (fun x hx => .inl hx))⟩
  generalize w2 = w3 at HL3 HX3 HW3 ⊢
  have HSm : Aside0 (∀ x ∈ foot l m (a ++ e :: b), x ∈ foot l m es ∨ w.heap.size ≤ x) := ⟨fun x hx => (HFO.out x hx).imp id (fun h => Nat.le_trans HB.out.size h)⟩
  have HES : Aside0 (SlotAt w3 f e) := ⟨HL3.out.slots e (by simp)⟩
  clear g0 l0 l2
  have g0 : w3.cell? ⟨g, 0, none⟩ = some (.int .u64 x.from_) := (blk_cell HX3.out 0).trans rfl
  have g1 : w3.cell? ⟨g, 1, none⟩ = some (.slice A1 x.b.length c1) := (blk_cell HX3.out 1).trans rfl
  have g2 : w3.cell? ⟨g, 2, none⟩ = some (.slice A2 x.tag.length c2) := (blk_cell HX3.out 2).trans rfl
  obtain ⟨vp, vs, vc, s0, s1, s2, s3, s4, _, _, _, _, _, hvp, _⟩ := HES.out.cells
  have HVP := Aside0.mk hvp
  have S2 := Aside0.mk s3
  clear s0 s1 s2 s4 hvp
  have hsm : ¬ (e.sb = e.cb) := by
    have := (nodup_apart HL3.out.nodup).2.2.2
    simp [blks] at this
    omega
  have hgp : ¬ (g = e.cb) := by
    intro e0
    have h5 := HVP.out.mut
    rw [← e0] at h5
    exact h5.not HX3.out (by decide) (by decide) (by decide)
  go_wp2_with fail
  go_region_held3 (fun w' => w'.cell? ⟨g, 0, none⟩ = some (.int .u64 x.from_) ∧ w'.cell? ⟨g, 1, none⟩ = some (.slice A1 x.b.length c1) ∧ w'.cell? ⟨g, 2, none⟩ = some (.slice A2 x.tag.length c2) ∧ w'.cell? ⟨e.sb, 3, none⟩ = some (ptr e.cb))
    (first | exact HK4.out | go_keep)
    (first
      | (go_at_call 40; refine (Add_any HF.out.1 HF.out.2 e.cb e.s.comm x A1 A2 A c1 c2 c sum w3.drew (HVP.out.fr (Fr.of_below (F := []) (below_drew (Below.refl _ _))) (by simp) (by simp)) (R1.out _ (fr_drew HW3.out)) (R2.out _ (fr_drew HW3.out)) HX.out (RS.out.go (fr_drew HW3.out) (fun y hy => HSm.out y (foot_ent (e := e) (by simp) (by simp [blks] at hy ⊢; omega)))) k HK.out (by have := asked_ok HA.out; have := HK.out; omega)).mono ?_; rintro r w4 ⟨rfl, hv4, hF4⟩; have HV4 := Aside0.mk hv4; have HF4 : Aside0 (Fr [e.cb] w3 w4) := ⟨(Fr.of_below (F := [e.cb]) (below_drew (Below.refl _ _))).trans hF4 (by simp)⟩; have HK4 : Aside0 (w4.cell? ⟨g, 0, none⟩ = some (.int .u64 x.from_) ∧ w4.cell? ⟨g, 1, none⟩ = some (.slice A1 x.b.length c1) ∧ w4.cell? ⟨g, 2, none⟩ = some (.slice A2 x.tag.length c2) ∧ w4.cell? ⟨e.sb, 3, none⟩ = some (ptr e.cb)) := ⟨fr_cell HF4.out g0 (by simpa using hgp), fr_cell HF4.out g1 (by simpa using hgp), fr_cell HF4.out g2 (by simpa using hgp), fr_cell HF4.out S2.out (by simpa using hsm)⟩; clear hv4 hF4))
  have HL4 : Aside0 (LogAt w4 l m f low view (a ++ { e with s := { e.s with comm := voteM e.s.comm k x sum } } :: b)) := ⟨HL3.out.set (F := [e.cb]) HF4.out (by simp [blks]) rfl rfl rfl rfl (HES.out.comm HF4.out HV4.out (nodup_apart HL3.out.nodup).2.2.2)⟩
  clear g0 g1 g2 hsm hgp
  go_wp2_with fail
  go_ret
  have hn := nodup_q HL3.out
  have hin : ∀ y ∈ blks e, y ∈ foot l m es ∨ w.heap.size ≤ y := fun y hy => HSm.out y (foot_ent (e := e) (by simp) hy)
  refine ⟨e.s, ?_, rfl, ⟨⟨_, HL4.out, ?_, ?_⟩, ?_⟩⟩
  · rw [← HAB.out]
    exact getQ_abs hn HE.out
  · rw [← HAB.out]
    exact modQ_abs hn HE.out HE.out rfl
  · intro y hy
    have h9 := hy
    rw [foot_swap (e := e) (e' := { e with s := { e.s with comm := voteM e.s.comm k x sum } }) rfl rfl rfl] at h9
    exact HSm.out y h9
  · refine HW3.out.trans HF4.out ?_
    intro y hy
    exact hin y (by simp at hy; simp [blks, hy])
end Go.Proofs.Ytfjfggnbkopocaa

/- Slots: what is refused. -/
/- Refusals. -/
set_option linter.unusedVariables false
set_option linter.unusedSimpArgs false
namespace Go.Proofs.Ytfjfggnbkopocaa
open Go.RowKit Go.Proofs.YtfjfggnbkopocaaW.PrintWords
attribute [local go_sem] ptr

set_option maxHeartbeats 2000000 in
set_option maxRecDepth 100000 in
theorem Pre_nil {w : World} (x0 q : Int) (v1 v2 v : Value) : Calls Try.prog 21 #[.pointer none, .agg #[.int .u64 x0, v1, v2], .int .u64 q, v] w fun r w' => r = .returned (.int .i64 17) ∧ Below w.heap.size w w' := by
  go_enter Try.func21, Try.ntmps21
  go_wp2_with fail
  refine (slot_nil).mono ?_
  rintro r w1 ⟨rfl, rfl⟩
  go_wp2_with fail
  go_ret
  exact ⟨rfl, below_alloc (Below.refl _ _) _⟩
set_option maxHeartbeats 2000000 in
set_option maxRecDepth 100000 in
theorem Pre_bad {w : World} {l m : Nat} {f low view : Int} {es : List Ent} (h : LogAt w l m f low view es) (h1 : 1 ≤ f) (h4 : f ≤ 4) (hlow : 0 ≤ low) (x0 q : Int) (v1 v2 v : Value) (hx : 0 ≤ x0) (hq0 : 0 ≤ q) (hq1 : q < 18446744073709551616) (ha : askedK f low x0 q ≠ 0) :
    Calls Try.prog 21 #[ptr l, .agg #[.int .u64 x0, v1, v2], .int .u64 q, v] w fun r w' => r = .returned (.int .i64 (askedK f low x0 q)) ∧ Below w.heap.size w w' := by
  have e1 : (askedK f low x0 q == 0) = false := beq_eq_false_iff_ne.2 ha
  have e2 : (askedK f low x0 q != 0) = true := bne_iff_ne.2 ha
  have HS := Aside0.mk (fun (W : World) (hW : Below w.heap.size w W) => slot_bad (h.keep hW) h1 h4 hlow hx hq0 hq1 ha)
  clear h ha
  generalize askedK f low x0 q = K at e1 e2 HS ⊢
  go_enter Try.func21, Try.ntmps21
  go_wp2_with fail
  refine (HS.out _ (below_alloc (Below.refl _ _) _)).mono ?_
  rintro r w1 ⟨rfl, hb⟩
  have HB := Aside0.mk ((below_alloc (Below.refl w.heap.size w) (Obj.cells #[.int .u64 x0, v1, v2] 46)).trans (hb.mono (by simp)))
  clear hb
  go_wp2_with fail
  go_ret
  exact ⟨rfl, HB.out⟩
set_option maxHeartbeats 2000000 in
set_option maxRecDepth 100000 in
theorem Prepare_nil {w : World} (x0 q : Int) (v1 v2 v : Value) : Calls Try.prog 22 #[.pointer none, .agg #[.int .u64 x0, v1, v2], .int .u64 q, v] w fun r w' => r = .returned (.int .i64 17) ∧ Below w.heap.size w w' := by
  go_enter Try.func22, Try.ntmps22
  go_wp2_with fail
  refine (slot_nil).mono ?_
  rintro r w1 ⟨rfl, rfl⟩
  go_wp2_with fail
  go_ret
  exact ⟨rfl, below_alloc (Below.refl _ _) _⟩
set_option maxHeartbeats 2000000 in
set_option maxRecDepth 100000 in
theorem Prepare_bad {w : World} {l m : Nat} {f low view : Int} {es : List Ent} (h : LogAt w l m f low view es) (h1 : 1 ≤ f) (h4 : f ≤ 4) (hlow : 0 ≤ low) (x0 q : Int) (v1 v2 v : Value) (hx : 0 ≤ x0) (hq0 : 0 ≤ q) (hq1 : q < 18446744073709551616) (ha : askedK f low x0 q ≠ 0) :
    Calls Try.prog 22 #[ptr l, .agg #[.int .u64 x0, v1, v2], .int .u64 q, v] w fun r w' => r = .returned (.int .i64 (askedK f low x0 q)) ∧ Below w.heap.size w w' := by
  have e1 : (askedK f low x0 q == 0) = false := beq_eq_false_iff_ne.2 ha
  have e2 : (askedK f low x0 q != 0) = true := bne_iff_ne.2 ha
  have HS := Aside0.mk (fun (W : World) (hW : Below w.heap.size w W) => slot_bad (h.keep hW) h1 h4 hlow hx hq0 hq1 ha)
  clear h ha
  generalize askedK f low x0 q = K at e1 e2 HS ⊢
  go_enter Try.func22, Try.ntmps22
  go_wp2_with fail
  refine (HS.out _ (below_alloc (Below.refl _ _) _)).mono ?_
  rintro r w1 ⟨rfl, hb⟩
  have HB := Aside0.mk ((below_alloc (Below.refl w.heap.size w) (Obj.cells #[.int .u64 x0, v1, v2] 46)).trans (hb.mono (by simp)))
  clear hb
  go_wp2_with fail
  go_ret
  exact ⟨rfl, HB.out⟩
set_option maxHeartbeats 2000000 in
set_option maxRecDepth 100000 in
theorem Commit_nil {w : World} (x0 q : Int) (v1 v2 v : Value) : Calls Try.prog 23 #[.pointer none, .agg #[.int .u64 x0, v1, v2], .int .u64 q, v] w fun r w' => r = .returned (.int .i64 17) ∧ Below w.heap.size w w' := by
  go_enter Try.func23, Try.ntmps23
  go_wp2_with fail
  refine (slot_nil).mono ?_
  rintro r w1 ⟨rfl, rfl⟩
  go_wp2_with fail
  go_ret
  exact ⟨rfl, below_alloc (Below.refl _ _) _⟩
set_option maxHeartbeats 2000000 in
set_option maxRecDepth 100000 in
theorem Commit_bad {w : World} {l m : Nat} {f low view : Int} {es : List Ent} (h : LogAt w l m f low view es) (h1 : 1 ≤ f) (h4 : f ≤ 4) (hlow : 0 ≤ low) (x0 q : Int) (v1 v2 v : Value) (hx : 0 ≤ x0) (hq0 : 0 ≤ q) (hq1 : q < 18446744073709551616) (ha : askedK f low x0 q ≠ 0) :
    Calls Try.prog 23 #[ptr l, .agg #[.int .u64 x0, v1, v2], .int .u64 q, v] w fun r w' => r = .returned (.int .i64 (askedK f low x0 q)) ∧ Below w.heap.size w w' := by
  have e1 : (askedK f low x0 q == 0) = false := beq_eq_false_iff_ne.2 ha
  have e2 : (askedK f low x0 q != 0) = true := bne_iff_ne.2 ha
  have HS := Aside0.mk (fun (W : World) (hW : Below w.heap.size w W) => slot_bad (h.keep hW) h1 h4 hlow hx hq0 hq1 ha)
  clear h ha
  generalize askedK f low x0 q = K at e1 e2 HS ⊢
  go_enter Try.func23, Try.ntmps23
  go_wp2_with fail
  refine (HS.out _ (below_alloc (Below.refl _ _) _)).mono ?_
  rintro r w1 ⟨rfl, hb⟩
  have HB := Aside0.mk ((below_alloc (Below.refl w.heap.size w) (Obj.cells #[.int .u64 x0, v1, v2] 46)).trans (hb.mono (by simp)))
  clear hb
  go_wp2_with fail
  go_ret
  exact ⟨rfl, HB.out⟩
end Go.Proofs.Ytfjfggnbkopocaa
