/- Slots: the slot of a number. -/
import Derived.Test.YtfjfggnbkopocaaK
/- slot. -/
set_option linter.unusedVariables false
set_option linter.unusedSimpArgs false
namespace Go.Proofs.Ytfjfggnbkopocaa
open Go.RowKit Go.Proofs.YtfjfggnbkopocaaW.PrintWords
attribute [local go_sem] ptr

/-- What stands against a message of somebody. -/
def askedK (f low fr q : Int) : Int := if q ≤ low ∨ q - low > 8 then 13 else if fr = 0 ∨ fr > 3 * f + 1 then 15 else 0
theorem okQ_of {q : Int} (h0 : 0 ≤ q) (h1 : q < 18446744073709551616) : okQ q := by
  unfold okQ Lit.wf
  simp only [Bool.and_eq_true, decide_eq_true_eq]
  exact ⟨h0, by show q ≤ 18446744073709551615; omega⟩
set_option maxHeartbeats 2000000 in
theorem slot_nil {w : World} {fr q : Int} : Calls Try.prog 36 #[.pointer none, .int .u64 fr, .int .u64 q] w fun r w' => r = .returned (.tuple #[.pointer none, .int .i64 17]) ∧ w' = w := by
  go_enter Try.func36, Try.ntmps36
  go_wp2_with fail
  go_ret2
  exact ⟨rfl, rfl⟩
section
variable {w : World} {l m : Nat} {f low view : Int} {es : List Ent} {fr q : Int}
set_option maxHeartbeats 4000000 in
theorem slot_bad (h : LogAt w l m f low view es) (h1 : 1 ≤ f) (h4 : f ≤ 4) (hlow : 0 ≤ low) (hf0 : 0 ≤ fr) (hq0 : 0 ≤ q) (hq1 : q < 18446744073709551616) (hk : askedK f low fr q ≠ 0) :
    Calls Try.prog 36 #[ptr l, .int .u64 fr, .int .u64 q] w fun r w' => r = .returned (.tuple #[.pointer none, .int .i64 (askedK f low fr q)]) ∧ Below w.heap.size w w' := by
  obtain ⟨c0, c1, c2, c3, _⟩ := h.cells
  have HF := Aside0.mk (And.intro h1 h4)
  by_cases a1 : q ≤ low
  · have HR : Aside0 (askedK f low fr q = 13) := ⟨by unfold askedK; rw [if_pos (Or.inl a1)]⟩
    rw [HR.out]
    have b1 : decide (q ≤ low) = true := dt a1
    clear h hk h1 h4
    go_enter Try.func36, Try.ntmps36
    go_wp2_with fail
    go_ret2
    exact ⟨rfl, Below.refl _ _⟩
  · have b1 : decide (q ≤ low) = false := df a1
    have e1 : IntKind.u64.wrap (q - low) = q - low := u64 (by omega)
    by_cases a2 : q - low > 8
    · have HR : Aside0 (askedK f low fr q = 13) := ⟨by unfold askedK; rw [if_pos (Or.inr a2)]⟩
      rw [HR.out]
      have b2 : decide (q - low > 8) = true := dt a2
      clear h hk h1 h4
      go_enter Try.func36, Try.ntmps36
      go_wp2_with fail
      go_ret2
      exact ⟨rfl, Below.refl _ _⟩
    · have b2 : decide (q - low > 8) = false := df a2
      by_cases a3 : fr = 0
      · have HR : Aside0 (askedK f low fr q = 15) := ⟨by unfold askedK; rw [if_neg (by omega), if_pos (Or.inl a3)]⟩
        rw [HR.out]
        have b3 : (fr == 0) = true := beq_iff_eq.2 a3
        clear h hk h1 h4 a3
        go_enter Try.func36, Try.ntmps36
        go_wp2_with fail
        go_ret2
        exact ⟨rfl, Below.refl _ _⟩
      · have b3 : (fr == 0) = false := beq_eq_false_iff_ne.2 a3
        have a4 : fr > 3 * f + 1 := by
          rcases Int.lt_or_le (3 * f + 1) fr with h5 | h5
          · exact h5
          · exfalso
            apply hk
            unfold askedK
            rw [if_neg (by omega), if_neg (by omega)]
        have HR : Aside0 (askedK f low fr q = 15) := ⟨by unfold askedK; rw [if_neg (by omega), if_pos (Or.inr a4)]⟩
        rw [HR.out]
        have b4 : decide (fr > 3 * f + 1) = true := dt a4
        have e2 : IntKind.u64.wrap (3 * f + 1) = 3 * f + 1 := u64 (by omega)
        clear h hk h1 h4
        go_enter Try.func36, Try.ntmps36
        go_wp2_with fail
        refine (N_any HF.out.1 HF.out.2 _).mono ?_
        rintro e w' ⟨rfl, n, rfl⟩
        go_wp2_with fail
        go_ret2
        exact ⟨rfl, pw_below_drewN (Below.refl _ _) _⟩
theorem asked_ok (hk : askedK f low fr q = 0) : ¬ (q ≤ low) ∧ ¬ (q - low > 8) ∧ ¬ (fr = 0) ∧ ¬ (fr > 3 * f + 1) := by
  unfold askedK at hk
  split at hk
  · omega
  · split at hk
    · omega
    · omega
set_option maxHeartbeats 4000000 in
theorem slot_old {a b : List Ent} {e : Ent} (h : LogAt w l m f low view (a ++ e :: b)) (h1 : 1 ≤ f) (h4 : f ≤ 4) (hlow : 0 ≤ low) (hf0 : 0 ≤ fr) (hq0 : 0 ≤ q) (hq1 : q < 18446744073709551616) (hk : askedK f low fr q = 0) (he : e.q = q) :
    Calls Try.prog 36 #[ptr l, .int .u64 fr, .int .u64 q] w fun r w' => r = .returned (.tuple #[ptr e.sb, .int .i64 0]) ∧ Below w.heap.size w w' := by
  obtain ⟨c0, c1, c2, c3, _⟩ := h.cells
  have HF := Aside0.mk (And.intro h1 h4)
  obtain ⟨k1, k2, k3, k4⟩ := asked_ok hk
  have b1 : decide (q ≤ low) = false := df k1
  have e1 : IntKind.u64.wrap (q - low) = q - low := u64 (by omega)
  have b2 : decide (q - low > 8) = false := df k2
  have b3 : (fr == 0) = false := beq_eq_false_iff_ne.2 k3
  have b4 : decide (fr > 3 * f + 1) = false := df k4
  have e2 : IntKind.u64.wrap (3 * f + 1) = 3 * f + 1 := u64 (by omega)
  have hg : getP (pairs (a ++ e :: b)) q = some e.sb := by
    have := getP_some h.map.nodup (p := (e.q, e.sb)) (List.mem_map.2 ⟨e, by simp, rfl⟩)
    rw [he] at this
    exact this
  have hlk : ∀ n, (Instr.lookup 57 (.map (some m)) (.int .u64 q) false).run Try.prog (w.drewN n) = .ok (.pointer (some ⟨e.sb, 0, none⟩)) (w.drewN n) := fun n => by
    have h5 := lookup_any (h.keep (pw_below_drewN (Below.refl _ _) n)) (okQ_of hq0 hq1)
    rw [hg] at h5
    exact h5
  clear h hk h1 h4 k1 k2 k3 k4 he hg
  go_enter Try.func36, Try.ntmps36
  go_wp2_with fail
  refine (N_any HF.out.1 HF.out.2 _).mono ?_
  rintro e w' ⟨rfl, n, rfl⟩
  go_wp2_with fail
  go_ret2
  exact ⟨rfl, pw_below_drewN (Below.refl _ _) _⟩
theorem LogAt.push {w w' : World} {n : Ent} (h : LogAt w l m f low view es) (hF : Fr [m] w w') (hm : MapAt w' m (pairs es ++ [(n.q, n.sb)])) (hn : SlotAt w' f n) (hnew : ∀ x ∈ blks n, x ∉ foot l m es) (hnd : (blks n).Nodup) : LogAt w' l m f low view (es ++ [n]) := by
  have hmm : ∀ x ∈ [m], Mut w x := fun x hx => by rw [List.mem_singleton.1 hx]; exact h.mut m (by simp [foot])
  have hnd0 := h.nodup
  have hlm : l ≠ m := by
    intro e
    unfold foot at hnd0
    rw [List.nodup_cons] at hnd0
    exact hnd0.1 (by simp [e])
  refine ⟨(hF.block l (h.lt (by simp [foot])) (by simp [hlm])).trans h.log, by unfold pairs at hm ⊢; simpa using hm, ?_, ?_⟩
  · intro e he
    rcases List.mem_append.1 he with he | he
    · refine (h.slots e he).fr hF hmm (fun x hx hin => ?_)
      have hxm : x = m := List.mem_singleton.1 hin
      obtain ⟨a, b, rfl⟩ := List.append_of_mem he
      exact ((nodup_apart hnd0).1 x hx).2 hxm
    · rw [List.mem_singleton.1 he]
      exact hn
  · have e1 : foot l m (es ++ [n]) = foot l m es ++ blks n := by
      unfold foot
      rw [List.flatMap_append]
      simp
    rw [e1, List.nodup_append]
    exact ⟨hnd0, hnd, fun x hx y hy e => hnew y hy (e ▸ hx)⟩
set_option maxHeartbeats 4000000 in
theorem slot_new (h : LogAt w l m f low view es) (h1 : 1 ≤ f) (h4 : f ≤ 4) (hlow : 0 ≤ low) (hf0 : 0 ≤ fr) (hq0 : 0 ≤ q) (hq1 : q < 18446744073709551616) (hk : askedK f low fr q = 0) (hg : getP (pairs es) q = none) :
    Calls Try.prog 36 #[ptr l, .int .u64 fr, .int .u64 q] w fun r w' => ∃ n : Ent, r = .returned (.tuple #[ptr n.sb, .int .i64 0]) ∧ n.q = q ∧ n.s = freshS none ∧ LogAt w' l m f low view (es ++ [n]) ∧ Fr [m] w w' ∧ (∀ x ∈ blks n, w.heap.size ≤ x) ∧ w'.heap[n.sb]? = some (.cells #[.pointer none, .slice none 0 0, ptr n.pb, ptr n.cb, .pointer none] 67 (0, 0)) := by
  obtain ⟨c0, c1, c2, c3, _⟩ := h.cells
  have HF := Aside0.mk (And.intro h1 h4)
  obtain ⟨k1, k2, k3, k4⟩ := asked_ok hk
  have b1 : decide (q ≤ low) = false := df k1
  have e1 : IntKind.u64.wrap (q - low) = q - low := u64 (by omega)
  have b2 : decide (q - low > 8) = false := df k2
  have b3 : (fr == 0) = false := beq_eq_false_iff_ne.2 k3
  have b4 : decide (fr > 3 * f + 1) = false := df k4
  have e2 : IntKind.u64.wrap (3 * f + 1) = 3 * f + 1 := u64 (by omega)
  have HQ := Aside0.mk (okQ_of hq0 hq1)
  have hlk : ∀ n, (Instr.lookup 57 (.map (some m)) (.int .u64 q) false).run Try.prog (w.drewN n) = .ok (.pointer none) (w.drewN n) := fun n => by
    have h5 := lookup_any (h.keep (pw_below_drewN (Below.refl _ _) n)) (okQ_of hq0 hq1)
    rw [hg] at h5
    exact h5
  have HL := Aside0.mk h
  have HG := Aside0.mk hg
  have hll := World.block_lt_of_cell? w _ c0
  clear h hk h1 h4 k1 k2 k3 k4 hg
  go_enter Try.func36, Try.ntmps36
  go_wp2_with fail
  refine (N_any HF.out.1 HF.out.2 _).mono ?_
  rintro e w' ⟨rfl, n, rfl⟩
  go_wp2_with fail
  refine (fresh_any (w := w.drewN n) (es := es) (m := m) (low := low) (view := view) HF.out.1 HF.out.2 c0 none none rfl q).mono ?_
  rintro r w2 ⟨s, rfl, hsq, hss, hs, hnew, hnd, hb, hraw⟩
  have HRAW := Aside0.mk hraw
  clear hraw
  have HB : Aside0 (Below w.heap.size w w2) := ⟨(pw_below_drewN (Below.refl w.heap.size w) n).trans hb⟩
  have HL2 : Aside0 (LogAt w2 l m f low view es) := ⟨HL.out.keep HB.out⟩
  have c3' := HL2.out.cells.2.2.2.1
  obtain ⟨w3, hrun, hmap, hgr, hsz⟩ := HL2.out.map.insert Try.underlying30 Try.underlying57 HQ.out HG.out s.sb
  have hrun' : (Instr.mapUpdate 57 (.map (some m)) (.int .u64 q) (.pointer (some ⟨s.sb, 0, none⟩))).run Try.prog w2 = .ok () w3 := hrun
  have HR : Aside0 (n.repr.length = n.repr.length ∧ s.q = q ∧ s.s = freshS none ∧ SlotAt w2 f s ∧ (∀ x ∈ blks s, w.heap.size ≤ x) ∧ (blks s).Nodup) := ⟨⟨rfl, hsq, hss, hs, hnew, hnd⟩⟩
  have HM := Aside0.mk hmap
  have HGr := Aside0.mk (Fr.of_grown hgr)
  clear hsq hss hs hnew hnd hb hrun hmap hgr hsz hlk c0 c1 c2 c3
  go_wp2_with fail
  go_ret2
  obtain ⟨_, hsq, hss, hs, hnew, hnd⟩ := HR.out
  refine ⟨s, rfl, hsq, hss, HL2.out.push HGr.out (by rw [hsq]; exact HM.out) (hs.fr HGr.out ?_ ?_) ?_ hnd, (Fr.of_below (F := [m]) HB.out).trans HGr.out (by simp), hnew, (HGr.out.block _ (blk_lt HRAW.out) ?_).trans HRAW.out⟩
  · intro x hx
    rw [List.mem_singleton.1 hx]
    exact HL2.out.mut m (by simp [foot])
  · intro x hx hin
    have h5 := hnew x hx
    have h6 := HL.out.lt (b := m) (by simp [foot])
    rw [List.mem_singleton.1 hin] at h5
    omega
  · intro x hx hin
    have h5 := hnew x hx
    have h6 := HL.out.lt hin
    omega
  · intro hin
    have h5 := hnew s.sb (by simp [blks])
    have h6 := HL.out.lt (b := m) (by simp [foot])
    rw [List.mem_singleton.1 hin] at h5
    omega
end
end Go.Proofs.Ytfjfggnbkopocaa

/- Slots: a slot is settled: where nothing is to be done. -/
/- settle. -/
set_option linter.unusedVariables false
set_option linter.unusedSimpArgs false
namespace Go.Proofs.Ytfjfggnbkopocaa
open Go.RowKit Go.Proofs.YtfjfggnbkopocaaW.PrintWords
attribute [local go_sem] ptr

/-- The worlds in which what is there in w is as it was. -/
def Bl (w : World) : Type := { W : World // Below w.heap.size w W }
instance (w : World) : Nonempty (Bl w) := ⟨⟨w, Below.refl _ _⟩⟩
/-- A region that draws its order, whose callees may make memory, but answer by value. -/
theorem wp_region_bl {P : Program} {id : Nat} {Q : Exit → Act → World → Prop} {a : Act} {w : World} {l : List Oper} (hm : P.follows .mixedOrders = true) (hB : Region.lexB .any l.toArray = true)
    (h : wpQuiet P l.toArray (fun w' => ∃ i : Bl w, w' = i.1) (fun a' => ∀ w', (∃ i : Bl w, w' = i.1) → Q .normal a' w') l a) : (Code.region id l.toArray true).wp P Q a w :=
  wp_region_quiet (C := fun w' => ∃ i : Bl w, w' = i.1) hm hB ⟨⟨w.drew, below_drew (Below.refl _ _)⟩, rfl⟩ (by simpa using h)
theorem bl_call {P : Program} {f : FuncId} {args : Array Value} {w : World} {i : Bl w} {v : Value}
    (h : Calls P f args i.1 fun e w' => e = .returned v ∧ Below i.1.heap.size i.1 w') :
    Calls P f args i.1 fun e w'' => e = .returned v ∧ ∃ j : Bl w, w'' = j.1 :=
  h.mono fun _ w' ⟨he, hb⟩ => ⟨he, ⟨w', i.2.trans (hb.mono i.2.size)⟩, rfl⟩
theorem bl_cell {w : World} {p : Addr} {v : Value} (h : w.cell? p = some v) (i : Bl w) : i.1.cell? p = some v := (i.2.cell (World.block_lt_of_cell? w _ h)).trans h
/-- Is there a certificate of this view, or a later one? -/
def certB (view : Int) (s : SlotM) : Bool := match s.cert with
  | some c => decide (view ≤ c.view)
  | none => false
set_option maxHeartbeats 4000000 in
set_option maxRecDepth 100000 in
theorem settle_no {w : World} {l m : Nat} {f low view : Int} {a b : List Ent} {e : Ent} (h : LogAt w l m f low view (a ++ e :: b)) (h1 : 1 ≤ f) (h4 : f ≤ 4) (hn : (prepB f e.s && !certB view e.s) = false) :
    Calls Try.prog 39 #[ptr l, ptr e.sb] w fun r w' => r = .returned (.tuple #[]) ∧ Below w.heap.size w w' := by
  obtain ⟨l0, l1, l2, l3, _⟩ := h.cells
  have hs := h.slots e (by simp)
  have HS := Aside0.mk hs
  obtain ⟨vp, vs, vc, c0, c1, c2, c3, c4, _, hp, hs1, hc, hv, _, hb⟩ := hs.cells
  have HF := Aside0.mk (And.intro h1 h4)
  have HL0 := Aside0.mk l0
  cases hpB : prepB f e.s with
  | false =>
    have HP : ∀ i : Bl w, Calls Try.prog 28 #[.pointer (some ⟨l, 0, none⟩), .pointer (some ⟨e.sb, 0, none⟩)] i.1 fun r w' => r = .returned (.bool false) ∧ ∃ j : Bl w, w' = j.1 := fun i => by
      have h5 := prepared_any h1 h4 (bl_cell l0 i) (hs.fr (Fr.of_below (F := []) i.2) (by simp) (by simp))
      rw [hpB] at h5
      exact bl_call h5
    clear h hs hb hp hs1 hc hv hn h1 h4 hpB l0 l1 l2 l3 c0 c1 c2 c3 c4
    go_enter Try.func39, Try.ntmps39
    go_wp2_with fail
    refine wp_region_bl (by kernel_rfl) (by kernel_rfl) ?_
    repeat (go_big_quiet_step (exact HP _))
    refine wpQuiet_nil ?_
    rintro _ ⟨⟨w1, hb1⟩, rfl⟩
    have HB1 := Aside0.mk hb1
    clear hb1
    go_wp2_with fail

    (try simp only [Exit.inBlock, Exit.then])
    refine bodyPost_ret (results_none rfl _ _ _) rfl ?_
    exact ⟨rfl, HB1.out⟩
  | true =>
    have hcB : certB view e.s = true := by rw [hpB] at hn; simpa using hn
    have HP : ∀ i : Bl w, Calls Try.prog 28 #[.pointer (some ⟨l, 0, none⟩), .pointer (some ⟨e.sb, 0, none⟩)] i.1 fun r w' => r = .returned (.bool true) ∧ ∃ j : Bl w, w' = j.1 := fun i => by
      have h5 := prepared_any h1 h4 (bl_cell l0 i) (hs.fr (Fr.of_below (F := []) i.2) (by simp) (by simp))
      rw [hpB] at h5
      exact bl_call h5
    unfold certB at hcB
    cases hce : e.s.cert with
    | none => rw [hce] at hcB; cases hcB
    | some ce =>
      rw [hce] at hcB hc
      obtain ⟨gc, us, ut, rfl, hgc, _, _⟩ := hc
      have m0 : w.cell? ⟨gc, 0, none⟩ = some (.int .u64 ce.view) := (blk_cell hgc 0).trans rfl
      have d0 := bl_cell m0
      have d2 := bl_cell l2
      have d4 := bl_cell c4
      have hge : decide (ce.view ≥ view) = true := hcB
      clear h hs hb hp hs1 hv hn h1 h4 hpB l0 l1 l2 l3 c0 c1 c2 c3 c4 hcB hce hgc m0
      go_enter Try.func39, Try.ntmps39
      go_wp2_with fail
      refine wp_region_bl (by kernel_rfl) (by kernel_rfl) ?_
      repeat (go_big_quiet_step (exact HP _))
      refine wpQuiet_nil ?_
      rintro _ ⟨⟨w1, hb1⟩, rfl⟩
      have HB1 := Aside0.mk hb1
      clear hb1
      go_wp2_with fail
      (try simp only [Exit.inBlock, Exit.then])
      refine bodyPost_ret (results_none rfl _ _ _) rfl ?_
      exact ⟨rfl, HB1.out⟩
end Go.Proofs.Ytfjfggnbkopocaa
