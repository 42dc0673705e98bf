/- Slots: what is not above a mark is deleted. -/
import Derived.Test.YtfjfggnbkopocaaBa
import Derived.Test.YtfjfggnbkopocaaQ
/- Advance. -/
set_option linter.unusedVariables false
set_option linter.unusedSimpArgs false
namespace Go.Proofs.Ytfjfggnbkopocaa
open Go.RowKit Go.Proofs.YtfjfggnbkopocaaW.PrintWords Go.Maps
attribute [local go_sem] ptr key

theorem RangeAt.uniq {w : World} {m r : Nat} {l l' : List (Int × Nat)} {left left' : Int → Bool} (h : RangeAt w m r l left) (h' : RangeAt w m r l' left') : l = l' := by
  obtain ⟨es, clock, since, seen, c0, hb, hs, he, _⟩ := h
  obtain ⟨es', clock', since', seen', c0', hb', hs', he', _⟩ := h'
  rw [hb] at hb'
  injection hb' with e1
  injection e1 with e1 _
  subst e1
  unfold Ents at he he'
  have h1 : l.map (fun p => (key p.1, ptr p.2)) = l'.map (fun p => (key p.1, ptr p.2)) := he.symm.trans he'
  refine List.map_inj_right (fun a b hab => ?_) |>.1 h1
  simp only [Prod.mk.injEq] at hab
  exact Prod.ext (key_inj hab.1) (ptr_inj hab.2)
open Classical in
/-- How many keys are still to come. -/
noncomputable def rangeC (w : World) (m r : Nat) : Nat := if h : ∃ p : List (Int × Nat) × (Int → Bool), RangeAt w m r p.1 p.2 then leftN (Classical.choose h).1 (Classical.choose h).2 else 0
theorem RangeAt.left {w : World} {m r : Nat} {l : List (Int × Nat)} {left : Int → Bool} (h : RangeAt w m r l left) : rangeC w m r = leftN l left := by
  have hx : ∃ p : List (Int × Nat) × (Int → Bool), RangeAt w m r p.1 p.2 := ⟨(l, left), h⟩
  unfold rangeC
  rw [dif_pos hx]
  have h1 := Classical.choose_spec hx
  have h2 := h.uniq h1
  rw [← h2] at h1 ⊢
  exact h1.same h
def keepL (ps : List (Int × Nat)) (left : Int → Bool) (low : Int) : List (Int × Nat) := ps.filter fun p => left p.1 || !decide (p.1 ≤ low)
theorem keep_start (ps : List (Int × Nat)) (low : Int) : keepL ps (fun _ => true) low = ps := by
  unfold keepL
  exact List.filter_eq_self.2 (fun p _ => by simp)
theorem keep_end {ps : List (Int × Nat)} {left : Int → Bool} {low : Int} (h : ∀ p ∈ keepL ps left low, left p.1 = false) : keepL ps left low = ps.filter fun p => !decide (p.1 ≤ low) := by
  unfold keepL
  refine List.filter_congr (fun p hp => ?_)
  cases hl : left p.1 with
  | false => rfl
  | true =>
    have := h p (List.mem_filter.2 ⟨hp, by simp [hl]⟩)
    rw [hl] at this
    cases this
theorem keep_drop (ps : List (Int × Nat)) (left : Int → Bool) (low q : Int) (hq : q ≤ low) : dropAt (keepL ps left low) q = keepL ps (fun x => left x && x != q) low := by
  unfold dropAt keepL
  rw [List.filter_filter]
  refine List.filter_congr (fun p _ => ?_)
  by_cases h : p.1 = q
  · subst h
    simp [hq]
  · have h1 : (p.1 != q) = true := bne_iff_ne.2 h
    simp only [h1, Bool.and_true, Bool.true_and]
theorem keep_stay (ps : List (Int × Nat)) (left : Int → Bool) (low q : Int) (hq : ¬ q ≤ low) : keepL ps left low = keepL ps (fun x => left x && x != q) low := by
  unfold keepL
  refine List.filter_congr (fun p _ => ?_)
  by_cases h : p.1 = q
  · subst h
    simp [hq]
  · have h1 : (p.1 != q) = true := bne_iff_ne.2 h
    simp only [h1, Bool.and_true, Bool.true_and]
theorem left_drop (ps : List (Int × Nat)) (left : Int → Bool) (q : Int) : leftN (dropAt ps q) (fun x => left x && x != q) = leftN ps (fun x => left x && x != q) := by
  unfold leftN dropAt
  rw [List.filter_filter]
  congr 1
  refine List.filter_congr (fun p _ => ?_)
  by_cases h : p.1 = q <;> simp [h]
theorem cb_any (a : Addr) (low q : Int) (v : Value) (w : World) (h : w.cell? a = some (.int .u64 low)) : Calls Try.prog 43 #[.int .u64 q, v, .pointer (some a)] w fun e w' => e = .returned (.bool (decide (q ≤ low))) ∧ w' = w := by
  go_enter Try.func43, Try.ntmps43
  go_wp2_with fail
  go_ret
  exact ⟨rfl, rfl⟩
set_option maxHeartbeats 4000000 in
set_option maxRecDepth 100000 in
theorem DeleteFunc_any (m : Nat) (ps : List (Int × Nat)) (a : Addr) (low : Int) (w : World) (hm : MapAt w m ps) (hc : w.cell? a = some (.int .u64 low)) :
    Calls Try.prog 42 #[.map (some m), .func (.func 43) #[] #[.pointer (some a)]] w fun e w' => e = .returned (.tuple #[]) ∧ MapAt w' m (ps.filter fun p => !decide (p.1 ≤ low)) ∧ Fr [m] w w' := by
  obtain ⟨w0, hrun, hrg0, hg0, hs0⟩ := hm.range (P := Try.prog) Try.underlying57
  have HM := Aside0.mk hm.lt
  have HC := Aside0.mk hc
  have ham : a.block ≠ m := by
    obtain ⟨es, clock, hb, _⟩ := hm
    intro e
    unfold World.cell? at hc
    rw [e, hb] at hc
    simp at hc
  have HA := Aside0.mk ham
  clear hm hc ham
  go_enter Try.func42, Try.ntmps42
  go_wp2_with fail
  have HF0 : Aside0 (Fr [m] w w0) := ⟨Fr.of_none hg0⟩
  go_loopw [4] (fun _ wr => ∃ left : Int → Bool, Aside0 (RangeAt wr m w.heap.size (keepL ps left low) left) ∧ Aside0 (Fr [m] w wr)) (fun _ wr => rangeC wr m w.heap.size)
  case atStart => exact ⟨fun _ => true, ⟨by rw [keep_start]; exact hrg0⟩, HF0⟩
  case round =>
    obtain ⟨left, HR, HF⟩ := hrel
    rcases HR.out.next (P := Try.prog) 0 with ⟨hall, hnx0⟩ | ⟨p, w2, hp, hlp, hnx0, hrg2, hg2, hs2, hen0⟩
    · have hnx : (Instr.next (.pointer (some ⟨w.heap.size, 0, none⟩)) false 0).run Try.prog wr = .ok (.tuple #[.bool false]) wr := hnx0
      have HAL := Aside0.mk hall
      clear hnx0 hall
      go_wp2_with fail
      go_end0
      refine ⟨rfl, ?_, HF.out⟩
      rw [← keep_end HAL.out]
      exact HR.out.map
    · have hnx : (Instr.next (.pointer (some ⟨w.heap.size, 0, none⟩)) false 0).run Try.prog wr = .ok (.tuple #[.bool true, key p.1, ptr p.2]) w2 := hnx0
      have hen : (Instr.entry (.pointer (some ⟨w.heap.size, 0, none⟩))).run Try.prog w2 = .ok (.tuple #[key p.1, ptr p.2]) w2 := hen0
      have HX := Aside0.mk (And.intro hp hlp)
      have HG2 := Aside0.mk hg2
      have HR2 := Aside0.mk hrg2
      have hF2 : Aside0 (Fr [m] w w2) := ⟨HF.out.trans (Fr.of_grown hg2) (by simp)⟩
      have hcb := cb_any a low p.1 (ptr p.2) w2 ((World.cell?_of_block (w := w) (a := a) (hF2.out.block a.block (World.block_lt_of_cell? w _ HC.out) (by simpa using HA.out))).trans HC.out)
      obtain ⟨w3, hdr0, hrg3, hg3, hs3⟩ := hrg2.drop (P := Try.prog) Try.underlying30 Try.underlying57 hp 0
      have hdr : (Builtin.delete_ #[57, 30] 0 #[.map (some m), .int .u64 p.1]).run Try.prog w2 = .ok (.tuple #[]) w3 := hdr0
      clear hnx0 hen0 hdr0 hp hlp hg2 hrg2 hs2 hs3
      by_cases hle : p.1 ≤ low
      · have b1 : decide (p.1 ≤ low) = true := dt hle
        rw [b1] at hcb
        have HL := Aside0.mk hle
        have HR3 := Aside0.mk hrg3
        have HF3 : Aside0 (Fr [m] w w3) := ⟨hF2.out.trans (Fr.of_grown hg3) (by simp)⟩
        clear hle hrg3 hg3
        go_wp2_with fail
        refine hcb.mono ?_
        rintro e w4 ⟨rfl, rfl⟩
        go_wp2_with fail
        go_roundw
        case rel => exact ⟨_, ⟨by rw [← keep_drop _ _ _ _ HL.out]; exact HR3.out⟩, HF3⟩
        case measure =>
          rw [HR3.out.left, HR.out.left, left_drop]
          exact left_less HX.out.1 HX.out.2
      · have b1 : decide (p.1 ≤ low) = false := df hle
        rw [b1] at hcb
        have HL := Aside0.mk hle
        clear hle hrg3 hg3
        go_wp2_with fail
        refine hcb.mono ?_
        rintro e w4 ⟨rfl, rfl⟩
        go_wp2_with fail
        go_roundw
        case rel => exact ⟨_, ⟨by rw [← keep_stay _ _ _ _ (Int.not_le.2 HL.out)]; exact HR2.out⟩, hF2⟩
        case measure =>
          rw [HR2.out.left, HR.out.left]
          exact left_less HX.out.1 HX.out.2
theorem Fr.cell {F : List Nat} {w w' : World} (hF : Fr F w w') {p : Addr} {v : Value} (h : w.cell? p = some v) (hn : p.block ∉ F) : w'.cell? p = some v :=
  (World.cell?_of_block (w := w) (a := p) (hF.block p.block (World.block_lt_of_cell? w _ h) hn)).trans h
/-- What stays of a log above a mark. -/
def dropE (es : List Ent) (low : Int) : List Ent := es.filter fun e => !decide (e.q ≤ low)
theorem drop_pairs (es : List Ent) (low : Int) : pairs (dropE es low) = (pairs es).filter fun p => !decide (p.1 ≤ low) := by
  unfold pairs dropE
  rw [List.filter_map]
  rfl
theorem drop_foot (l m : Nat) (es : List Ent) (low : Int) : (foot l m (dropE es low)).Sublist (foot l m es) := by
  unfold foot dropE
  refine List.Sublist.cons_cons _ (List.Sublist.cons_cons _ ?_)
  induction es with
  | nil => exact List.Sublist.refl _
  | cons e es ih =>
    rw [List.filter_cons]
    split
    · rw [List.flatMap_cons, List.flatMap_cons]
      exact (List.Sublist.refl _).append ih
    · rw [List.flatMap_cons]
      exact ih.trans (List.sublist_append_right _ _)
section
variable {w : World} {l m : Nat} {f low view : Int} {es : List Ent} {n : Int}
theorem LogAt.lm (h : LogAt w l m f low view es) : l ≠ m := by
  have := h.nodup
  unfold foot at this
  rw [List.nodup_cons] at this
  exact fun e => this.1 (by rw [e]; simp)
set_option maxHeartbeats 2000000 in
theorem Advance_nil : Calls Try.prog 25 #[.pointer none, .int .u64 n] w fun r w' => r = .returned (.int .i64 17) ∧ Below w.heap.size w w' := by
  go_enter Try.func25, Try.ntmps25
  go_wp2_with fail
  go_ret
  exact ⟨rfl, below_alloc (Below.refl _ _) _⟩
set_option maxHeartbeats 4000000 in
theorem Advance_bad (h : LogAt w l m f low view es) (hb : n < low ∨ n > 4611686018427387895) : Calls Try.prog 25 #[ptr l, .int .u64 n] w fun r w' => r = .returned (.int .i64 13) ∧ Below w.heap.size w w' := by
  have HL := Aside0.mk h
  have hc := (h.keep (below_alloc (Below.refl _ _) (.cells #[.int .u64 n] 30))).cells.2.1
  clear h
  by_cases h1 : n < low
  · have b1 : decide (n < low) = true := dt h1
    go_enter Try.func25, Try.ntmps25
    go_wp2_with fail
    go_quiet (fail)
    go_wp2_with fail
    go_ret
    exact ⟨rfl, pw_below_drewN (below_alloc (Below.refl _ _) _) _⟩
  · have b1 : decide (n < low) = false := df h1
    have b2 : decide (n > 4611686018427387895) = true := dt (by omega)
    go_enter Try.func25, Try.ntmps25
    go_wp2_with fail
    go_quiet (fail)
    go_wp2_with fail
    go_ret
    exact ⟨rfl, pw_below_drewN (below_alloc (Below.refl _ _) _) _⟩
theorem LogAt.marks {w' : World} (h : LogAt w l m f low view es) (hF : Fr [l] w w') (low' view' : Int) (hl : w'.heap[l]? = some (.cells #[.int .i64 f, .int .u64 low', .int .u64 view', .map (some m)] 59 (0, 0))) : LogAt w' l m f low' view' es := by
  have hm : ∀ x ∈ [l], Mut w x := fun x hx => by rw [List.mem_singleton.1 hx]; exact h.mut l (by simp [foot])
  have hn : ∀ e ∈ es, ∀ b ∈ blks e, b ∉ [l] := fun e he b hb hin => by
    have := h.nodup
    unfold foot at this
    rw [List.nodup_cons] at this
    rw [List.mem_singleton.1 hin] at hb
    exact this.1 (List.mem_cons_of_mem _ (List.mem_flatMap.2 ⟨e, he, hb⟩))
  exact ⟨hl, h.map.move (hF.block m (h.lt (by simp [foot])) (by simpa using fun e => h.lm e.symm)), fun e he => (h.slots e he).fr hF hm (hn e he), h.nodup⟩
theorem LogAt.drop {w' : World} (h : LogAt w l m f low view es) (hF : Fr [m] w w') (n : Int) (hm : MapAt w' m ((pairs es).filter fun p => !decide (p.1 ≤ n))) : LogAt w' l m f low view (dropE es n) := by
  have hmm : ∀ x ∈ [m], Mut w x := fun x hx => by rw [List.mem_singleton.1 hx]; exact h.mut m (by simp [foot])
  refine ⟨(hF.block l (h.lt (by simp [foot])) (by simpa using h.lm)).trans h.log, by rw [drop_pairs]; exact hm, fun e he => ?_, (drop_foot l m es n).nodup h.nodup⟩
  have he' := (List.mem_filter.1 he).1
  refine (h.slots e he').fr hF hmm (fun b hb hin => ?_)
  have := h.nodup
  unfold foot at this
  rw [List.nodup_cons, List.nodup_cons] at this
  rw [List.mem_singleton.1 hin] at hb
  exact this.2.1 (List.mem_flatMap.2 ⟨e, he', hb⟩)
set_option maxHeartbeats 4000000 in
theorem Advance_ok (h : LogAt w l m f low view es) (h1 : ¬ n < low) (h2 : ¬ n > 4611686018427387895) : Calls Try.prog 25 #[ptr l, .int .u64 n] w fun r w' => r = .returned (.int .i64 0) ∧ LogAt w' l m f n view (dropE es n) ∧ Fr (foot l m es) w w' := by
  have HL := Aside0.mk h
  have hb : Below w.heap.size w (w.alloc (.cells #[.int .u64 n] 30)) := below_alloc (Below.refl _ _) _
  have hB : (w.alloc (.cells #[.int .u64 n] 30)).heap[w.heap.size]? = some (.cells #[.int .u64 n] 30 (0, 0)) := heap_alloc_new w _
  have hcc := (h.keep hb).cells
  have hc := hcc.2.1
  have b1 : decide (n < low) = false := df h1
  have b2 : decide (n > 4611686018427387895) = false := df h2
  have HBo := Aside0.mk hB
  have HB := Aside0.mk hb
  clear h hb hB h1 h2 hcc
  go_enter Try.func25, Try.ntmps25
  go_wp2_with fail
  go_quiet (fail)
  have HL1 : Aside0 (LogAt ((w.alloc (.cells #[.int .u64 n] 30)).drewN nq) l m f low view es) := ⟨HL.out.keep (pw_below_drewN HB.out _)⟩
  have HX1 : Aside0 (((w.alloc (.cells #[.int .u64 n] 30)).drewN nq).heap[w.heap.size]? = some (.cells #[.int .u64 n] 30 (0, 0))) := ⟨HBo.out⟩
  have HF1 : Aside0 (Fr (foot l m es) w ((w.alloc (.cells #[.int .u64 n] 30)).drewN nq)) := ⟨Fr.of_below (pw_below_drewN HB.out _)⟩
  generalize (w.alloc (.cells #[.int .u64 n] 30)).drewN nq = w1 at HL1 HX1 HF1 ⊢
  clear hc
  obtain ⟨c0, c1, c2, c3, cf⟩ := HL1.out.cells
  have z1 := cf 1
  have x0 : w1.cell? ⟨w.heap.size, 0, none⟩ = some (.int .u64 n) := (blk_cell HX1.out 0).trans rfl
  have hlw : ¬ (w.heap.size = l) := by have := HL.out.lt (b := l) (by simp [foot]); omega
  have hlw' : ¬ (l = w.heap.size) := by omega
  go_wp2_with fail
  have HF2 : Aside0 (Fr [l] w1 (w1.setCell ⟨l, 1, none⟩ (.int .u64 n))) := ⟨Fr.set ⟨l, 1, none⟩ (by simp) _⟩
  have HL2 : Aside0 (LogAt (w1.setCell ⟨l, 1, none⟩ (.int .u64 n)) l m f n view es) := ⟨HL1.out.marks HF2.out n view (blk_setCell HL1.out.log 1 _)⟩
  have HX2 : Aside0 ((w1.setCell ⟨l, 1, none⟩ (.int .u64 n)).heap[w.heap.size]? = some (.cells #[.int .u64 n] 30 (0, 0))) := ⟨(HF2.out.block _ (blk_lt HX1.out) (by simpa using hlw)).trans HX1.out⟩
  have hD := DeleteFunc_any m (pairs es) ⟨w.heap.size, 0, none⟩ n _ HL2.out.map ((blk_cell HX2.out 0).trans rfl)
  refine hD.mono ?_
  rintro r w3 ⟨rfl, hm3, hF3⟩
  have HL3 : Aside0 (LogAt w3 l m f n view (dropE es n)) := ⟨HL2.out.drop hF3 n hm3⟩
  have HF3 : Aside0 (Fr (foot l m es) w w3) := ⟨(HF1.out.trans HF2.out (by simp [foot])).trans hF3 (by simp [foot])⟩
  clear hD hm3 hF3 c0 c1 c2 c3 cf z1 x0
  go_wp2_with fail
  go_ret
  exact ⟨rfl, HL3.out, HF3.out⟩
end
end Go.Proofs.Ytfjfggnbkopocaa
