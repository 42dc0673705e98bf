/- Slots: what a log says of a number. -/
import Derived.Test.YtfjfggnbkopocaaV
/- Readers. -/
set_option linter.unusedVariables false
set_option linter.unusedSimpArgs false
namespace Go.Proofs.Ytfjfggnbkopocaa
open Go.RowKit Go.Proofs.YtfjfggnbkopocaaW.PrintWords
attribute [local go_sem] ptr

section
variable {w : World} {l m : Nat} {f low view : Int} {es : List Ent} {q : Int}
theorem find_none (h : LogAt w l m f low view es) (hq : okQ q) (hg : getP (pairs es) q = none) : Calls Try.prog 27 #[ptr l, .int .u64 q] w fun e w' => e = .returned (.pointer none) ∧ w' = w := by
  have := find_any h hq
  rw [hg] at this
  exact this
theorem find_some {a b : List Ent} {e : Ent} (h : LogAt w l m f low view (a ++ e :: b)) (hq : okQ q) (he : e.q = q) : Calls Try.prog 27 #[ptr l, .int .u64 q] w fun r w' => r = .returned (ptr e.sb) ∧ w' = w := by
  have h5 := find_any h hq
  have hg : getP (pairs (a ++ e :: b)) q = some e.sb := by
    have := getP_some h.map.nodup (p := (e.q, e.sb)) (List.mem_map.2 ⟨e, by simp, rfl⟩)
    rw [he] at this
    exact this
  rw [hg] at h5
  exact h5
set_option maxHeartbeats 2000000 in
theorem Sum_none (h : LogAt w l m f low view es) (hq : okQ q) (hg : getP (pairs es) q = none) : Calls Try.prog 20 #[ptr l, .int .u64 q] w fun r w' => r = .returned (.tuple #[.slice none 0 0, .bool false]) ∧ Below w.heap.size w w' := by
  have h0 := find_none h hq hg
  clear h hg
  go_enter Try.func20, Try.ntmps20
  go_wp2_with fail
  refine h0.mono ?_
  rintro r w1 ⟨rfl, rfl⟩
  clear h0
  go_wp2_with fail
  go_ret2
  exact ⟨rfl, Below.refl _ _⟩
set_option maxHeartbeats 2000000 in
theorem Sum_nopre {a b : List Ent} {e : Ent} (h : LogAt w l m f low view (a ++ e :: b)) (hq : okQ q) (he : e.q = q) (hp : e.s.pre = none) : Calls Try.prog 20 #[ptr l, .int .u64 q] w fun r w' => r = .returned (.tuple #[.slice none 0 0, .bool false]) ∧ Below w.heap.size w w' := by
  have h0 := find_some h hq he
  obtain ⟨vp, vs, vc, c0, _, _, _, _, _, hpre, _⟩ := (h.slots e (by simp)).cells
  rw [hp] at hpre
  have hv : vp = .pointer none := hpre
  subst hv
  clear h hpre
  go_enter Try.func20, Try.ntmps20
  go_wp2_with fail
  refine h0.mono ?_
  rintro r w1 ⟨rfl, rfl⟩
  clear h0
  go_wp2_with fail
  go_ret2
  exact ⟨rfl, Below.refl _ _⟩
set_option maxHeartbeats 2000000 in
theorem Sum_yes {a b : List Ent} {e : Ent} (h : LogAt w l m f low view (a ++ e :: b)) (hq : okQ q) (he : e.q = q) (g : Sig) (hp : e.s.pre = some g) (hl : e.s.sum.length ≤ 1000000) : Calls Try.prog 20 #[ptr l, .int .u64 q] w fun r w' => ∃ v, r = .returned (.tuple #[v, .bool true]) ∧ kB.R 5 w' w.heap.size tr v e.s.sum ∧ Below w.heap.size w w' := by
  have h0 := find_some h hq he
  obtain ⟨vp, vs, vc, c0, c1, _, _, _, _, hpre, hs, _⟩ := (h.slots e (by simp)).cells
  rw [hp] at hpre
  obtain ⟨gp, gcs, hv, _⟩ := hpre
  subst hv
  obtain ⟨A, n, hv2, _, hc⟩ := Kd.R_reads hs
  subst hv2
  have hcl := clone_any A n e.s.sum w hc hl
  clear h hs hc
  go_enter Try.func20, Try.ntmps20
  go_wp2_with fail
  refine h0.mono ?_
  rintro r w1 ⟨rfl, rfl⟩
  clear h0
  go_wp2_with fail
  refine hcl.mono ?_
  rintro r w2 ⟨v, rfl, hr, hb⟩
  have HR := Aside0.mk hr
  have HB := Aside0.mk hb
  obtain ⟨A2, n2, q2⟩ := Kd.R_slice hr
  subst q2
  clear hr hb hcl
  go_wp2_with fail
  go_ret2
  exact ⟨_, rfl, HR.out, HB.out⟩
end
end Go.Proofs.Ytfjfggnbkopocaa

/- Slots: what a log says of a number: Prepared, Best. -/
/- Readers. -/
set_option linter.unusedVariables false
set_option linter.unusedSimpArgs false
namespace Go.Proofs.Ytfjfggnbkopocaa
open Go.RowKit Go.Proofs.YtfjfggnbkopocaaW.PrintWords
attribute [local go_sem] ptr

section
variable {w : World} {l m : Nat} {f low view : Int} {es : List Ent} {q : Int}
set_option maxHeartbeats 2000000 in
theorem Prepared_none (h : LogAt w l m f low view es) (hq : okQ q) (hg : getP (pairs es) q = none) : Calls Try.prog 18 #[ptr l, .int .u64 q] w fun r w' => r = .returned (.bool false) ∧ Below w.heap.size w w' := by
  have h0 := find_none h hq hg
  clear h hg
  go_enter Try.func18, Try.ntmps18
  go_wp2_with fail
  refine h0.mono ?_
  rintro r w1 ⟨rfl, rfl⟩
  clear h0
  go_wp2_with fail
  go_ret
  exact ⟨rfl, Below.refl _ _⟩
set_option maxHeartbeats 2000000 in
theorem Prepared_some {a b : List Ent} {e : Ent} (h : LogAt w l m f low view (a ++ e :: b)) (h1 : 1 ≤ f) (h4 : f ≤ 4) (hq : okQ q) (he : e.q = q) : Calls Try.prog 18 #[ptr l, .int .u64 q] w fun r w' => r = .returned (.bool (prepB f e.s)) ∧ Below w.heap.size w w' := by
  have h0 := find_some h hq he
  have hp := prepared_any h1 h4 h.cells.1 (h.slots e (by simp))
  clear h
  generalize prepB f e.s = t at hp ⊢
  go_enter Try.func18, Try.ntmps18
  go_wp2_with fail
  refine h0.mono ?_
  rintro r w1 ⟨rfl, rfl⟩
  clear h0
  go_wp2_with fail
  refine hp.mono ?_
  rintro r w2 ⟨rfl, hb⟩
  have HB := Aside0.mk hb
  clear hb hp
  go_wp2_with fail
  go_ret
  exact ⟨rfl, HB.out⟩
set_option maxHeartbeats 2000000 in
theorem Best_none (h : LogAt w l m f low view es) (hq : okQ q) (hg : getP (pairs es) q = none) : Calls Try.prog 15 #[ptr l, .int .u64 q] w fun r w' => r = .returned (.tuple #[.int .u64 0, .slice none 0 0, .bool false]) ∧ Below w.heap.size w w' := by
  have h0 := find_none h hq hg
  clear h hg
  go_enter Try.func15, Try.ntmps15
  go_wp2_with fail
  refine h0.mono ?_
  rintro r w1 ⟨rfl, rfl⟩
  clear h0
  go_wp2_with fail
  go_ret3
  exact ⟨rfl, Below.refl _ _⟩
set_option maxHeartbeats 2000000 in
theorem Best_nocert {a b : List Ent} {e : Ent} (h : LogAt w l m f low view (a ++ e :: b)) (hq : okQ q) (he : e.q = q) (hp : e.s.cert = none) : Calls Try.prog 15 #[ptr l, .int .u64 q] w fun r w' => r = .returned (.tuple #[.int .u64 0, .slice none 0 0, .bool false]) ∧ Below w.heap.size w w' := by
  have h0 := find_some h hq he
  obtain ⟨vp, vs, vc, _, _, _, _, c4, _, _, _, hc, _⟩ := (h.slots e (by simp)).cells
  rw [hp] at hc
  have hv : vc = .pointer none := hc
  subst hv
  clear h hc
  go_enter Try.func15, Try.ntmps15
  go_wp2_with fail
  refine h0.mono ?_
  rintro r w1 ⟨rfl, rfl⟩
  clear h0
  go_wp2_with fail
  go_ret3
  exact ⟨rfl, Below.refl _ _⟩
set_option maxHeartbeats 2000000 in
theorem Best_yes {a b : List Ent} {e : Ent} (h : LogAt w l m f low view (a ++ e :: b)) (hq : okQ q) (he : e.q = q) (ce : CertM) (hp : e.s.cert = some ce) (hl : ce.sum.length ≤ 1000000) : Calls Try.prog 15 #[ptr l, .int .u64 q] w fun r w' => ∃ v, r = .returned (.tuple #[.int .u64 ce.view, v, .bool true]) ∧ kB.R 5 w' w.heap.size tr v ce.sum ∧ Below w.heap.size w w' := by
  have h0 := find_some h hq he
  obtain ⟨vp, vs, vc, _, _, _, _, c4, _, _, _, hc, _⟩ := (h.slots e (by simp)).cells
  rw [hp] at hc
  obtain ⟨gc, us, ut, hv, hgc, hs, _⟩ := hc
  subst hv
  have m0 : w.cell? ⟨gc, 0, none⟩ = some (.int .u64 ce.view) := (blk_cell hgc 0).trans rfl
  have m1 : w.cell? ⟨gc, 1, none⟩ = some us := (blk_cell hgc 1).trans rfl
  obtain ⟨A, n, hv2, _, hc2⟩ := Kd.R_reads hs
  subst hv2
  have HC := Aside0.mk hc2
  have HGC := Aside0.mk hgc
  have HLn := Aside0.mk hl
  have HKS : Aside0 (∀ W, Below w.heap.size w W → W.cell? ⟨e.sb, 4, none⟩ = some (ptr gc) ∧ W.cell? ⟨gc, 0, none⟩ = some (.int .u64 ce.view) ∧ W.cell? ⟨gc, 1, none⟩ = some (.slice A ce.sum.length n)) := ⟨fun W hW => ⟨fr_ret hW c4, fr_ret hW m0, fr_ret hW m1⟩⟩
  clear h hs hc2 hgc hl
  go_enter Try.func15, Try.ntmps15
  go_wp2_with fail
  refine h0.mono ?_
  rintro r w1 ⟨rfl, rfl⟩
  clear h0
  go_wp2_with fail
  go_region_held3 (fun w' => w'.cell? ⟨e.sb, 4, none⟩ = some (ptr gc) ∧ w'.cell? ⟨gc, 0, none⟩ = some (.int .u64 ce.view) ∧ w'.cell? ⟨gc, 1, none⟩ = some (.slice A ce.sum.length n))
    (first | exact HKS.out _ HB2.out | exact HKS.out _ (Below.refl _ _) | exact HKS.out _ (below_drew (Below.refl _ _)) | go_keep)
    (first
      | (go_at_call 31; refine (clone_any A n ce.sum w1.drew (Kd.C_below HC.out (below_drew (Below.refl _ _))) HLn.out).mono ?_; rintro r w2 ⟨v, rfl, hr, hb⟩; have HB2 := Aside0.mk (bl_to (Below.refl w1.heap.size w1) (Nat.le_refl _) (below_drew (Below.refl _ _)) hb); have HR := Aside0.mk hr; obtain ⟨A2, n2, q2⟩ := Kd.R_slice hr; subst q2; clear hr hb))
  go_wp2_with fail
  go_ret3
  exact ⟨_, rfl, HR.out, HB2.out⟩
end
end Go.Proofs.Ytfjfggnbkopocaa

/- Slots: what a log says of a number: Committed. -/
/- Committed. -/
set_option linter.unusedVariables false
set_option linter.unusedSimpArgs false
namespace Go.Proofs.Ytfjfggnbkopocaa
open Go.RowKit Go.Proofs.YtfjfggnbkopocaaW.PrintWords
attribute [local go_sem] ptr

/-- Is a slot committed? -/
def commB (f : Int) (s : SlotM) : Bool := prepB f s && decide (2 * f + 1 ≤ ((hits s.comm (strOfNums s.sum)).length : Int))
section
variable {w : World} {l m : Nat} {f low view : Int} {es : List Ent} {q : Int}
set_option maxHeartbeats 2000000 in
theorem Committed_none (h : LogAt w l m f low view es) (hq : okQ q) (hg : getP (pairs es) q = none) : Calls Try.prog 12 #[ptr l, .int .u64 q] w fun r w' => r = .returned (.tuple #[.slice none 0 0, .bool false]) ∧ Below w.heap.size w w' := by
  have h0 := find_none h hq hg
  clear h hg
  go_enter Try.func12, Try.ntmps12
  go_wp2_with fail
  refine h0.mono ?_
  rintro r w1 ⟨rfl, rfl⟩
  clear h0
  go_wp2_with fail
  refine wp_region_bl (by kernel_rfl) (by kernel_rfl) ?_
  repeat (go_big_quiet_step (fail))
  refine wpQuiet_nil ?_
  rintro w2 ⟨⟨w2', hb1⟩, rfl⟩
  have HB1 := Aside0.mk hb1
  clear hb1
  go_wp2_with fail
  go_ret2
  exact ⟨rfl, HB1.out⟩
set_option maxHeartbeats 2000000 in
theorem Committed_noprep {a b : List Ent} {e : Ent} (h : LogAt w l m f low view (a ++ e :: b)) (h1 : 1 ≤ f) (h4 : f ≤ 4) (hq : okQ q) (he : e.q = q) (hp : prepB f e.s = false) : Calls Try.prog 12 #[ptr l, .int .u64 q] w fun r w' => r = .returned (.tuple #[.slice none 0 0, .bool false]) ∧ Below w.heap.size w w' := by
  have h0 := find_some h hq he
  have HP : ∀ i : Bl w, Calls Try.prog 28 #[.pointer (some ⟨l, 0, none⟩), .pointer (some ⟨e.sb, 0, none⟩)] i.1 fun r w' => r = .returned (.bool false) ∧ ∃ j : Bl w, w' = j.1 := fun i => by
    have h5 := prepared_any h1 h4 (bl_cell h.cells.1 i) ((h.slots e (by simp)).fr (Fr.of_below (F := []) i.2) (by simp) (by simp))
    rw [hp] at h5
    exact bl_call h5
  clear h
  go_enter Try.func12, Try.ntmps12
  go_wp2_with fail
  refine h0.mono ?_
  rintro r w1 ⟨rfl, rfl⟩
  clear h0
  go_wp2_with fail
  refine wp_region_bl (by kernel_rfl) (by kernel_rfl) ?_
  repeat (go_big_quiet_step (exact HP _))
  refine wpQuiet_nil ?_
  rintro w2 ⟨⟨w2', hb1⟩, rfl⟩
  have HB1 := Aside0.mk hb1
  clear hb1
  go_wp2_with fail
  go_ret2
  exact ⟨rfl, HB1.out⟩
set_option maxHeartbeats 2000000 in
theorem Committed_few {a b : List Ent} {e : Ent} (h : LogAt w l m f low view (a ++ e :: b)) (h1 : 1 ≤ f) (h4 : f ≤ 4) (hq : okQ q) (he : e.q = q) (hp : prepB f e.s = true) (hf : ((hits e.s.comm (strOfNums e.s.sum)).length : Int) < 2 * f + 1) : Calls Try.prog 12 #[ptr l, .int .u64 q] w fun r w' => r = .returned (.tuple #[.slice none 0 0, .bool false]) ∧ Below w.heap.size w w' := by
  have h0 := find_some h hq he
  have hs := h.slots e (by simp)
  obtain ⟨vp, vs, vc, _, c1, _, c3, _, _, _, hsum, _, _, hv, _⟩ := hs.cells
  obtain ⟨A, n, hv2, _, hc2⟩ := Kd.R_reads hsum
  subst hv2
  have HP : ∀ i : Bl w, Calls Try.prog 28 #[.pointer (some ⟨l, 0, none⟩), .pointer (some ⟨e.sb, 0, none⟩)] i.1 fun r w' => r = .returned (.bool true) ∧ ∃ j : Bl w, w' = j.1 := fun i => by
    have h5 := prepared_any h1 h4 (bl_cell h.cells.1 i) (hs.fr (Fr.of_below (F := []) i.2) (by simp) (by simp))
    rw [hp] at h5
    exact bl_call h5
  obtain ⟨N, hN⟩ : ∃ N : Nat, (hits e.s.comm (strOfNums e.s.sum)).length = N := ⟨_, rfl⟩
  have HCn : ∀ i : Bl w, Calls Try.prog 29 #[.pointer (some ⟨e.cb, 0, none⟩), .slice A e.s.sum.length n] i.1 fun r w' => r = .returned (.int .i64 (N : Int)) ∧ ∃ j : Bl w, w' = j.1 := fun i => by
    have h5 := Count_any e.cb f e.s.comm A n e.s.sum i.1 (hv.fr (Fr.of_below (F := []) i.2) (by simp) (by simp)) (Kd.C_below hc2 i.2)
    rw [hN] at h5
    exact bl_call h5
  have HM : ∀ i : Bl w, Calls Try.prog 30 #[.int .i64 f] i.1 fun r w' => r = .returned (.int .i64 (2 * f + 1)) ∧ ∃ j : Bl w, w' = j.1 := fun i => bl_call ((Most_any h1 h4 i.1).mono (fun _ _ ⟨a1, a2⟩ => ⟨a1, below_drawn a2⟩))
  have d0 := bl_cell h.cells.1
  have d1 := bl_cell c1
  have d3 := bl_cell c3
  have e1 : decide ((N : Int) < 2 * f + 1) = true := dt (by rw [← hN]; exact hf)
  clear h hs hsum hv hc2 hf hN c1 c3
  go_enter Try.func12, Try.ntmps12
  go_wp2_with fail
  refine h0.mono ?_
  rintro r w1 ⟨rfl, rfl⟩
  clear h0
  go_wp2_with fail
  refine wp_region_bl (by kernel_rfl) (by kernel_rfl) ?_
  repeat (go_big_quiet_step (first | exact HP _ | exact HCn _ | exact HM _))
  refine wpQuiet_nil ?_
  rintro w2 ⟨⟨w2', hb1⟩, rfl⟩
  have HB1 := Aside0.mk hb1
  clear hb1
  go_wp2_with fail
  go_ret2
  exact ⟨rfl, HB1.out⟩
set_option maxHeartbeats 2000000 in
theorem Committed_yes {a b : List Ent} {e : Ent} (h : LogAt w l m f low view (a ++ e :: b)) (h1 : 1 ≤ f) (h4 : f ≤ 4) (hq : okQ q) (he : e.q = q) (hp : prepB f e.s = true) (hf : ¬ ((hits e.s.comm (strOfNums e.s.sum)).length : Int) < 2 * f + 1) (hl : e.s.sum.length ≤ 1000000) : Calls Try.prog 12 #[ptr l, .int .u64 q] w fun r w' => ∃ v, r = .returned (.tuple #[v, .bool true]) ∧ kB.R 5 w' w.heap.size tr v e.s.sum ∧ Below w.heap.size w w' := by
  have h0 := find_some h hq he
  have hs := h.slots e (by simp)
  obtain ⟨vp, vs, vc, _, c1, _, c3, _, _, _, hsum, _, _, hv, _⟩ := hs.cells
  obtain ⟨A, n, hv2, _, hc2⟩ := Kd.R_reads hsum
  subst hv2
  have HP : ∀ i : Bl w, Calls Try.prog 28 #[.pointer (some ⟨l, 0, none⟩), .pointer (some ⟨e.sb, 0, none⟩)] i.1 fun r w' => r = .returned (.bool true) ∧ ∃ j : Bl w, w' = j.1 := fun i => by
    have h5 := prepared_any h1 h4 (bl_cell h.cells.1 i) (hs.fr (Fr.of_below (F := []) i.2) (by simp) (by simp))
    rw [hp] at h5
    exact bl_call h5
  obtain ⟨N, hN⟩ : ∃ N : Nat, (hits e.s.comm (strOfNums e.s.sum)).length = N := ⟨_, rfl⟩
  have HCn : ∀ i : Bl w, Calls Try.prog 29 #[.pointer (some ⟨e.cb, 0, none⟩), .slice A e.s.sum.length n] i.1 fun r w' => r = .returned (.int .i64 (N : Int)) ∧ ∃ j : Bl w, w' = j.1 := fun i => by
    have h5 := Count_any e.cb f e.s.comm A n e.s.sum i.1 (hv.fr (Fr.of_below (F := []) i.2) (by simp) (by simp)) (Kd.C_below hc2 i.2)
    rw [hN] at h5
    exact bl_call h5
  have HM : ∀ i : Bl w, Calls Try.prog 30 #[.int .i64 f] i.1 fun r w' => r = .returned (.int .i64 (2 * f + 1)) ∧ ∃ j : Bl w, w' = j.1 := fun i => bl_call ((Most_any h1 h4 i.1).mono (fun _ _ ⟨a1, a2⟩ => ⟨a1, below_drawn a2⟩))
  have d0 := bl_cell h.cells.1
  have d1 := bl_cell c1
  have d3 := bl_cell c3
  have e1 : decide ((N : Int) < 2 * f + 1) = false := df (by rw [← hN]; exact hf)
  have HC2 := Aside0.mk hc2
  have HLn := Aside0.mk hl
  clear h hs hsum hv hc2 hf hN hl c3
  go_enter Try.func12, Try.ntmps12
  go_wp2_with fail
  refine h0.mono ?_
  rintro r w1 ⟨rfl, rfl⟩
  clear h0
  go_wp2_with fail
  refine wp_region_bl (by kernel_rfl) (by kernel_rfl) ?_
  repeat (go_big_quiet_step (first | exact HP _ | exact HCn _ | exact HM _))
  refine wpQuiet_nil ?_
  rintro w2 ⟨⟨w2', hb1⟩, rfl⟩
  have HB1 := Aside0.mk hb1
  have c1' := fr_ret hb1 c1
  clear hb1 c1 d0 d1 d3
  go_wp2_with fail
  refine (clone_any A n e.s.sum w2 (Kd.C_below HC2.out HB1.out) HLn.out).mono ?_
  rintro r w3 ⟨v, rfl, hr, hb⟩
  have HR := Aside0.mk (Kd.R_lower hr HB1.out.size)
  have HB := Aside0.mk (HB1.out.trans (hb.mono HB1.out.size))
  obtain ⟨A2, n2, q2⟩ := Kd.R_slice hr
  subst q2
  clear hr hb
  go_wp2_with fail
  go_ret2
  exact ⟨_, rfl, HR.out, HB.out⟩
end
end Go.Proofs.Ytfjfggnbkopocaa
