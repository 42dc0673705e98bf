/- Slots: one operation of a law. -/
import Derived.Test.YtfjfggnbkopocaaBg
/- one. -/
set_option linter.unusedVariables false
set_option linter.unusedSimpArgs false
namespace Go.Proofs.Ytfjfggnbkopocaa
open Go.RowKit Go.Proofs.YtfjfggnbkopocaaW.PrintWords
attribute [local go_sem] ptr

theorem byteRow (w : World) (b : Int) : kB.R 5 (w.alloc (.cells #[.int .u8 b] 5)) 0 tr (.slice (some ⟨w.heap.size, 0, none⟩) 1 1) [b] := by
  refine ⟨fun _ _ => trivial, ?_⟩
  have hr : Reps (kB.M w 0 (fun k => tr k ∧ some k ≠ (Value.slice (some ⟨w.heap.size, 0, none⟩) 1 1).ownBlock)) kB.sz [b] [.int .u8 b] := by
    refine ⟨rfl, fun j p hj => ?_⟩
    match j, hj with
    | 0, hj =>
      obtain rfl := Option.some.inj hj
      rfl
  exact OwnRow.lit w 0 hr (Nat.zero_le _) (by simp)
/-- The world in which an operation of the law calls the log's. -/
def oneW (w : World) (kd fr sq b : Int) (A : Option Addr) (n c : Nat) : World :=
  ((w.alloc (.cells #[.int .i64 kd, .int .u64 fr, .int .u64 sq, .slice A n c] 33)).alloc (.cells #[.int .u8 b] 5)).alloc (.cells #[.int .u64 fr, .slice (some ⟨w.heap.size + 1, 0, none⟩) 1 1, .slice A n c] 46)
theorem oneW_below (w : World) (kd fr sq b : Int) (A : Option Addr) (n c : Nat) : Below w.heap.size w (oneW w kd fr sq b A n c) := by
  unfold oneW
  exact below_alloc (below_alloc (below_alloc (Below.refl _ _) _) _) _
theorem oneW_row (w : World) (kd fr sq b : Int) (A : Option Addr) (n c : Nat) : kB.R 5 (oneW w kd fr sq b A n c) 0 tr (.slice (some ⟨w.heap.size + 1, 0, none⟩) 1 1) [b] := by
  unfold oneW
  have h := byteRow (w.alloc (.cells #[.int .i64 kd, .int .u64 fr, .int .u64 sq, .slice A n c] 33)) b
  rw [World.size_alloc] at h
  exact Kd.R_below h (below_alloc (Below.refl _ _) _)
theorem LeftM.pre {w w1 w' : World} {l m : Nat} {f : Int} {es : List Ent} {M M' : LM} (hb : Below w.heap.size w w1) (h : LeftM w1 w' l m f es M M') : LeftM w w' l m f es M M' := by
  obtain ⟨⟨es', h1, h2, h3⟩, h4⟩ := h
  exact ⟨⟨es', h1, h2, fun x hx => (h3 x hx).imp id (fun h5 => Nat.le_trans hb.size h5)⟩, (Fr.of_below hb).trans h4 (fun x hx => .inl hx)⟩
set_option maxHeartbeats 4000000 in
set_option maxRecDepth 100000 in
theorem one_left {w0 w : World} {l m : Nat} {f : Int} {M : LM} (es : List Ent) (hb0 : Below w0.heap.size w0 w) (h : LogAt w l m f M.low M.view es) (ha : absL es = M.L) (hf : ∀ b ∈ foot l m es, w0.heap.size ≤ b) (hM : okM M) (h1 : 1 ≤ f) (h4 : f ≤ 4) (o : OpM) (ho : okO o) (A : Option Addr) (c : Nat) (hlc : o.sum.length ≤ c) (hC : kB.C w0 A o.sum.length o.sum) :
    Calls Try.prog 11 #[ptr l, .agg #[.int .i64 o.kind, .int .u64 o.from_, .int .u64 o.seq, .slice A o.sum.length c]] w fun r w' => r = .returned (.int .i64 (stepM f M o).1) ∧ LeftM w w' l m f es M (stepM f M o).2 := by
  have HS := Aside0.mk h
  have HB0 := Aside0.mk hb0
  have HA := Aside0.mk ha
  have HFo := Aside0.mk hf
  have HM := Aside0.mk hM
  have HF := Aside0.mk (And.intro h1 h4)
  have HO := Aside0.mk ho
  have HC := Aside0.mk hC
  have HL := Aside0.mk hlc
  clear h hM h1 h4 ho hC hlc hb0 ha hf
  obtain ⟨kd, hkd⟩ : ∃ kd, o.kind = kd := ⟨_, rfl⟩
  obtain ⟨fr, hfr⟩ : ∃ fr, o.from_ = fr := ⟨_, rfl⟩
  obtain ⟨sq, hsq⟩ : ∃ sq, o.seq = sq := ⟨_, rfl⟩
  have HK := Aside0.mk (And.intro hkd (And.intro hfr hsq))
  rw [hkd, hfr, hsq]
  clear hkd hfr hsq
  by_cases k0 : kd = 0
  · subst k0
    go_enter Try.func11, Try.ntmps11
    go_wp2_with fail
    have hb := oneW_below w 0 fr sq 0 A o.sum.length c
    have hr := oneW_row w 0 fr sq 0 A o.sum.length c
    have hS := HS.out.keep hb
    have hb1 := HB0.out.trans (hb.mono HB0.out.size)
    have HBW := Aside0.mk hb
    have HE : Aside0 (stepM f M o = preR f M ⟨fr, [0], o.sum⟩ sq o.sum) := ⟨by unfold stepM sigO; rw [HK.out.1, HK.out.2.1, HK.out.2.2]; rfl⟩
    have hfr : 0 ≤ fr := by rw [← HK.out.2.1]; exact HO.out.from0
    have hq0 : 0 ≤ sq := by rw [← HK.out.2.2]; exact HO.out.seq0
    have hq1 : sq < 18446744073709551616 := by rw [← HK.out.2.2]; exact HO.out.seq1
    have hok : okS ⟨fr, [0], o.sum⟩ := ⟨by simp, by have := HO.out.sum; simp; omega⟩
    have hcl := preR_any (w0 := w0) (w := oneW w 0 fr sq 0 A o.sum.length c) (l := l) (m := m) (f := f) (M := M) (q := sq) (x := ⟨fr, [0], o.sum⟩) (sum := o.sum) (A1 := some ⟨w.heap.size + 1, 0, none⟩) (A2 := A) (A := A) (c1 := 1) (c2 := c) (c := c) es hS HA.out HFo.out HM.out HF.out.1 HF.out.2 hfr hok hq0 hq1 HO.out.sum HL.out (Arg.row rfl hr) (Arg.old hb1 HC.out) (Arg.old hb1 HC.out)
    clear hb hb1 hr hS hok hfr hq0 hq1
    refine hcl.mono ?_
    rintro e w' ⟨rfl, hS'⟩
    have HS' := Aside0.mk (LeftM.pre HBW.out hS')
    clear hS' hcl
    go_wp2_with fail
    go_ret
    rw [HE.out]
    exact ⟨rfl, HS'.out⟩
  by_cases k1 : kd = 1
  · subst k1
    go_enter Try.func11, Try.ntmps11
    go_wp2_with fail
    have hb := oneW_below w 1 fr sq 1 A o.sum.length c
    have hr := oneW_row w 1 fr sq 1 A o.sum.length c
    have hS := HS.out.keep hb
    have hb1 := HB0.out.trans (hb.mono HB0.out.size)
    have HBW := Aside0.mk hb
    have HE : Aside0 (stepM f M o = prepareR f M ⟨fr, [1], o.sum⟩ sq o.sum) := ⟨by unfold stepM sigO; rw [HK.out.1, HK.out.2.1, HK.out.2.2]; rfl⟩
    have hfr : 0 ≤ fr := by rw [← HK.out.2.1]; exact HO.out.from0
    have hq0 : 0 ≤ sq := by rw [← HK.out.2.2]; exact HO.out.seq0
    have hq1 : sq < 18446744073709551616 := by rw [← HK.out.2.2]; exact HO.out.seq1
    have hok : okS ⟨fr, [1], o.sum⟩ := ⟨by simp, by have := HO.out.sum; simp; omega⟩
    have hcl := prepareR_any (w0 := w0) (w := oneW w 1 fr sq 1 A o.sum.length c) (l := l) (m := m) (f := f) (M := M) (q := sq) (x := ⟨fr, [1], o.sum⟩) (sum := o.sum) (A1 := some ⟨w.heap.size + 1, 0, none⟩) (A2 := A) (A := A) (c1 := 1) (c2 := c) (c := c) es hS HA.out HFo.out HM.out HF.out.1 HF.out.2 hfr hok hq0 hq1 (Arg.row rfl hr) (Arg.old hb1 HC.out) (Arg.old hb1 HC.out)
    clear hb hb1 hr hS hok hfr hq0 hq1
    refine hcl.mono ?_
    rintro e w' ⟨rfl, hS'⟩
    have HS' := Aside0.mk (LeftM.pre HBW.out hS')
    clear hS' hcl
    go_wp2_with fail
    go_ret
    rw [HE.out]
    exact ⟨rfl, HS'.out⟩
  by_cases k2 : kd = 2
  · subst k2
    go_enter Try.func11, Try.ntmps11
    go_wp2_with fail
    have hb := oneW_below w 2 fr sq 2 A o.sum.length c
    have hr := oneW_row w 2 fr sq 2 A o.sum.length c
    have hS := HS.out.keep hb
    have hb1 := HB0.out.trans (hb.mono HB0.out.size)
    have HBW := Aside0.mk hb
    have HE : Aside0 (stepM f M o = commitR f M ⟨fr, [2], o.sum⟩ sq o.sum) := ⟨by unfold stepM sigO; rw [HK.out.1, HK.out.2.1, HK.out.2.2]; rfl⟩
    have hfr : 0 ≤ fr := by rw [← HK.out.2.1]; exact HO.out.from0
    have hq0 : 0 ≤ sq := by rw [← HK.out.2.2]; exact HO.out.seq0
    have hq1 : sq < 18446744073709551616 := by rw [← HK.out.2.2]; exact HO.out.seq1
    have hok : okS ⟨fr, [2], o.sum⟩ := ⟨by simp, by have := HO.out.sum; simp; omega⟩
    have hcl := commitR_any (w0 := w0) (w := oneW w 2 fr sq 2 A o.sum.length c) (l := l) (m := m) (f := f) (M := M) (q := sq) (x := ⟨fr, [2], o.sum⟩) (sum := o.sum) (A1 := some ⟨w.heap.size + 1, 0, none⟩) (A2 := A) (A := A) (c1 := 1) (c2 := c) (c := c) es hS HA.out HFo.out HM.out HF.out.1 HF.out.2 hfr hok hq0 hq1 (Arg.row rfl hr) (Arg.old hb1 HC.out) (Arg.old hb1 HC.out)
    clear hb hb1 hr hS hok hfr hq0 hq1
    refine hcl.mono ?_
    rintro e w' ⟨rfl, hS'⟩
    have HS' := Aside0.mk (LeftM.pre HBW.out hS')
    clear hS' hcl
    go_wp2_with fail
    go_ret
    rw [HE.out]
    exact ⟨rfl, HS'.out⟩
  by_cases k3 : kd = 3
  · subst k3
    go_enter Try.func11, Try.ntmps11
    go_wp2_with fail
    have hb := oneW_below w 3 fr sq 3 A o.sum.length c
    have hS := HS.out.keep hb
    have hb1 := HB0.out.trans (hb.mono HB0.out.size)
    have HBW := Aside0.mk hb
    have HE : Aside0 (stepM f M o = enterR M sq) := ⟨by unfold stepM; rw [HK.out.1, HK.out.2.2]; rfl⟩
    have hcl := enterR_any (w0 := w0) (w := oneW w 3 fr sq 3 A o.sum.length c) (l := l) (m := m) (f := f) (M := M) es hS HA.out HFo.out HF.out.1 HF.out.2 sq
    clear hb hb1 hS
    refine hcl.mono ?_
    rintro e w' ⟨rfl, hS'⟩
    have HS' := Aside0.mk (LeftM.pre HBW.out hS')
    clear hS' hcl
    go_wp2_with fail
    go_ret
    rw [HE.out]
    exact ⟨rfl, HS'.out⟩
  by_cases k4 : kd = 4
  · subst k4
    go_enter Try.func11, Try.ntmps11
    go_wp2_with fail
    have hb := oneW_below w 4 fr sq 4 A o.sum.length c
    have hS := HS.out.keep hb
    have hb1 := HB0.out.trans (hb.mono HB0.out.size)
    have HBW := Aside0.mk hb
    have HE : Aside0 (stepM f M o = advR M sq) := ⟨by unfold stepM; rw [HK.out.1, HK.out.2.2]; rfl⟩
    have hcl := advR_any (w0 := w0) (w := oneW w 4 fr sq 4 A o.sum.length c) (l := l) (m := m) (f := f) (M := M) es hS HA.out HFo.out sq
    clear hb hb1 hS
    refine hcl.mono ?_
    rintro e w' ⟨rfl, hS'⟩
    have HS' := Aside0.mk (LeftM.pre HBW.out hS')
    clear hS' hcl
    go_wp2_with fail
    go_ret
    rw [HE.out]
    exact ⟨rfl, HS'.out⟩
  have HE : Aside0 (stepM f M o = (0, M)) := ⟨by unfold stepM; rw [HK.out.1, if_neg k0, if_neg k1, if_neg k2, if_neg k3, if_neg k4]⟩
  have b0 : (kd == 0) = false := beq_eq_false_iff_ne.2 k0
  have b1 : (kd == 1) = false := beq_eq_false_iff_ne.2 k1
  have b2 : (kd == 2) = false := beq_eq_false_iff_ne.2 k2
  have b3 : (kd == 3) = false := beq_eq_false_iff_ne.2 k3
  have b4 : (kd == 4) = false := beq_eq_false_iff_ne.2 k4
  go_enter Try.func11, Try.ntmps11
  go_wp2_with fail
  go_ret
  rw [HE.out]
  refine ⟨rfl, LeftM.stay HS.out HA.out ?_⟩
  exact below_alloc (below_alloc (below_alloc (Below.refl _ _) _) _) _
theorem one_calm {w0 w : World} {l m : Nat} {f : Int} {M : LM} (h : St w0 w l m f M) (hM : okM M) (h1 : 1 ≤ f) (h4 : f ≤ 4) (o : OpM) (ho : okO o) (A : Option Addr) (c : Nat) (hlc : o.sum.length ≤ c) (hC : kB.C w0 A o.sum.length o.sum) :
    Calls Try.prog 11 #[ptr l, .agg #[.int .i64 o.kind, .int .u64 o.from_, .int .u64 o.seq, .slice A o.sum.length c]] w fun r w' => r = .returned (.int .i64 (stepM f M o).1) ∧ St w0 w' l m f (stepM f M o).2 ∧ Calm w w' := by
  obtain ⟨es, hL, ha, hf⟩ := h.log
  refine (one_left es h.below hL ha hf hM h1 h4 o ho A c hlc hC).mono ?_
  rintro r w' ⟨rfl, hl⟩
  exact ⟨rfl, St.of_left (M := M) h.below hf hl, _, hl.fr, hL.mut⟩
theorem one_any {w0 w : World} {l m : Nat} {f : Int} {M : LM} (h : St w0 w l m f M) (hM : okM M) (h1 : 1 ≤ f) (h4 : f ≤ 4) (o : OpM) (ho : okO o) (A : Option Addr) (c : Nat) (hlc : o.sum.length ≤ c) (hC : kB.C w0 A o.sum.length o.sum) :
    Calls Try.prog 11 #[ptr l, .agg #[.int .i64 o.kind, .int .u64 o.from_, .int .u64 o.seq, .slice A o.sum.length c]] w fun r w' => r = .returned (.int .i64 (stepM f M o).1) ∧ St w0 w' l m f (stepM f M o).2 :=
  (one_calm h hM h1 h4 o ho A c hlc hC).mono (fun _ _ ⟨a1, a2, _⟩ => ⟨a1, a2⟩)
end Go.Proofs.Ytfjfggnbkopocaa
