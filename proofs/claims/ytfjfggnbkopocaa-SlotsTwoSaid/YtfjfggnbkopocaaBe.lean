/- Slots: a new view. -/
import Derived.Test.YtfjfggnbkopocaaBd
/- Enter. -/
set_option linter.unusedVariables false
set_option linter.unusedSimpArgs false
namespace Go.Proofs.Ytfjfggnbkopocaa
open Go.RowKit Go.Proofs.YtfjfggnbkopocaaW.PrintWords Go.Maps
attribute [local go_sem] ptr key

def enterL (L : List (Int × SlotM)) (left : Int → Bool) : List (Int × SlotM) := L.map fun p => if left p.1 then p else (p.1, freshS p.2.cert)
theorem enter_start (L : List (Int × SlotM)) : enterL L (fun _ => true) = L := by
  unfold enterL
  simp
theorem enter_step (L : List (Int × SlotM)) (left : Int → Bool) (q : Int) (hl : left q = true) : modQ (enterL L left) q (fun s => freshS s.cert) = enterL L (fun x => left x && x != q) := by
  unfold modQ enterL
  rw [List.map_map]
  refine List.map_congr_left (fun p _ => ?_)
  simp only [Function.comp]
  by_cases h : p.1 = q
  · have h1 : left p.1 = true := by rw [h]; exact hl
    rw [if_pos h1, if_pos h]
    simp [h]
  · have h1 : (p.1 != q) = true := bne_iff_ne.2 h
    simp only [h1, Bool.and_true]
    cases left p.1
    · simp [h]
    · simp [h]
theorem enter_end (L : List (Int × SlotM)) (left : Int → Bool) (h : ∀ p ∈ L, left p.1 = false) : enterL L left = enterL L (fun _ => false) := by
  unfold enterL
  refine List.map_congr_left (fun p hp => ?_)
  rw [h p hp]
theorem leftN_fst (l : List (Int × Nat)) (left : Int → Bool) : leftN l left = ((l.map (·.1)).filter left).length := by
  unfold leftN
  rw [List.filter_map, List.length_map]
  rfl
theorem pairs_put {a b : List Ent} {e n : Ent} (hn : ((a ++ e :: b).map (·.q)).Nodup) (hq : n.q = e.q) : pairs (a ++ n :: b) = putAt (pairs (a ++ e :: b)) e.q n.sb := by
  rw [List.map_append, List.map_cons, List.nodup_append] at hn
  obtain ⟨_, h2, h3⟩ := hn
  rw [List.nodup_cons] at h2
  have ha : ∀ x ∈ a, x.q ≠ e.q := fun x hx e0 => h3 x.q (List.mem_map.2 ⟨x, hx, rfl⟩) e.q (List.mem_cons_self) e0
  have hb : ∀ x ∈ b, x.q ≠ e.q := fun x hx e0 => h2.1 (List.mem_map.2 ⟨x, hx, e0⟩)
  have key : ∀ (c : List Ent), (∀ x ∈ c, x.q ≠ e.q) → putAt (pairs c) e.q n.sb = pairs c := by
    intro c hc
    unfold putAt pairs
    rw [List.map_map]
    refine List.map_congr_left (fun x hx => ?_)
    simp [hc x hx]
  have e1 : ∀ (x : Ent), pairs (a ++ x :: b) = pairs a ++ (x.q, x.sb) :: pairs b := fun x => by simp [pairs]
  have e2 : putAt (pairs a ++ (e.q, e.sb) :: pairs b) e.q n.sb = putAt (pairs a) e.q n.sb ++ (e.q, n.sb) :: putAt (pairs b) e.q n.sb := by simp [putAt]
  rw [e1, e1, e2, key a ha, key b hb, hq]
section
variable {w w' : World} {l m : Nat} {f low view : Int} {es : List Ent} {n : Int}
theorem LogAt.put {a b : List Ent} {e s : Ent} (h : LogAt w l m f low view (a ++ e :: b)) (hF : Fr [m] w w') (hm : MapAt w' m (putAt (pairs (a ++ e :: b)) e.q s.sb)) (hq : s.q = e.q) (hs : SlotAt w' f s) (hnew : ∀ x ∈ blks s, x ∉ foot l m (a ++ e :: b)) (hnd : (blks s).Nodup) : LogAt w' l m f low view (a ++ s :: b) := by
  have hmm : ∀ x ∈ [m], Mut w x := fun x hx => by rw [List.mem_singleton.1 hx]; exact h.mut m (by simp [foot])
  have hnd0 := h.nodup
  have hne : ∀ x ∈ a ++ e :: b, ∀ k ∈ blks x, k ∉ [m] := fun x hx k hk hin => by
    have := hnd0
    unfold foot at this
    rw [List.nodup_cons, List.nodup_cons] at this
    rw [List.mem_singleton.1 hin] at hk
    exact this.2.1 (List.mem_flatMap.2 ⟨x, hx, hk⟩)
  refine ⟨(hF.block l (h.lt (by simp [foot])) (by simpa using h.lm)).trans h.log, by rw [pairs_put (nodup_q h) hq]; exact hm, fun x hx => ?_, ?_⟩
  · rcases List.mem_append.1 hx with hx | hx
    · exact (h.slots x (List.mem_append_left _ hx)).fr hF hmm (hne x (List.mem_append_left _ hx))
    · rcases List.mem_cons.1 hx with rfl | hx
      · exact hs
      · exact (h.slots x (by simp [hx])).fr hF hmm (hne x (by simp [hx]))
  · unfold foot at hnd0 hnew ⊢
    rw [List.flatMap_append, List.flatMap_cons] at hnd0 hnew ⊢
    rw [List.nodup_cons, List.nodup_cons, List.nodup_append, List.nodup_append] at hnd0
    obtain ⟨h1, h2, h3, ⟨h4, h5, h6⟩, h7⟩ := hnd0
    have hf : ∀ x ∈ blks s, x ≠ l ∧ x ≠ m ∧ x ∉ List.flatMap blks a ∧ x ∉ List.flatMap blks b := fun x hx => by
      have := hnew x hx
      simp only [List.mem_cons, List.mem_append, not_or] at this
      exact ⟨this.1, this.2.1, this.2.2.1, this.2.2.2.2⟩
    rw [List.nodup_cons, List.nodup_cons, List.nodup_append, List.nodup_append]
    refine ⟨?_, ?_, h3, ⟨hnd, h5, fun x hx y hy e0 => (hf x hx).2.2.2 (e0 ▸ hy)⟩, fun x hx y hy e0 => ?_⟩
    · simp only [List.mem_cons, List.mem_append, not_or] at h1 ⊢
      exact ⟨h1.1, h1.2.1, fun hin => (hf l hin).1 rfl, h1.2.2.2⟩
    · simp only [List.mem_append, not_or] at h2 ⊢
      exact ⟨h2.1, fun hin => (hf m hin).2.1 rfl, h2.2.2⟩
    · rcases List.mem_append.1 hy with hy | hy
      · exact (hf y hy).2.2.1 (e0 ▸ hx)
      · exact h7 x hx y (List.mem_append_right _ hy) e0
theorem LogAt.noIter (h : LogAt w l m f low view es) {x : Nat} (hx : x ∈ foot l m es) {a : Option Nat} {s c : Nat} {sn : Array Nat} : w.heap[x]? ≠ some (.mapIter a s sn c) := by
  intro e0
  rcases List.mem_cons.1 hx with rfl | hx
  · rw [h.log] at e0; cases e0
  · rcases List.mem_cons.1 hx with rfl | hx
    · obtain ⟨es', clock, hm, _⟩ := h.map
      rw [hm] at e0; cases e0
    · obtain ⟨e, he, hb⟩ := List.mem_flatMap.1 hx
      obtain ⟨vp, vs, vc, hb0, _, _, _, h1, h2⟩ := h.slots e he
      simp only [blks, List.mem_cons, List.not_mem_nil, or_false] at hb
      rcases hb with rfl | rfl | rfl
      · rw [hb0] at e0; cases e0
      · obtain ⟨cs, h3, _⟩ := h1
        rw [h3] at e0; cases e0
      · obtain ⟨cs, h3, _⟩ := h2
        rw [h3] at e0; cases e0
set_option maxHeartbeats 2000000 in
theorem Enter_nil : Calls Try.prog 24 #[.pointer none, .int .u64 n] w fun r w' => r = .returned (.int .i64 17) ∧ w' = w := by
  go_enter Try.func24, Try.ntmps24
  go_wp2_with fail
  go_ret
  exact ⟨rfl, rfl⟩
def enterK (view n : Int) : Int := if n > 4611686018427387903 then 14 else if n ≤ view then 12 else 0
set_option maxHeartbeats 4000000 in
theorem Enter_bad (h : LogAt w l m f low view es) (hb : enterK view n ≠ 0) : Calls Try.prog 24 #[ptr l, .int .u64 n] w fun r w' => r = .returned (.int .i64 (enterK view n)) ∧ w' = w := by
  have hc := h.cells.2.2.1
  clear h
  unfold enterK at hb ⊢
  by_cases h1 : n > 4611686018427387903
  · rw [if_pos h1]
    have b1 : decide (n > 4611686018427387903) = true := dt h1
    go_enter Try.func24, Try.ntmps24
    go_wp2_with fail
    go_ret
    exact ⟨rfl, rfl⟩
  · rw [if_neg h1] at hb ⊢
    have b1 : decide (n > 4611686018427387903) = false := df h1
    by_cases h2 : n ≤ view
    · rw [if_pos h2]
      have b2 : decide (n ≤ view) = true := dt h2
      go_enter Try.func24, Try.ntmps24
      go_wp2_with fail
      go_ret
      exact ⟨rfl, rfl⟩
    · rw [if_neg h2] at hb
      exact absurd rfl hb
set_option maxHeartbeats 4000000 in
set_option maxRecDepth 100000 in
theorem Enter_ok (h : LogAt w l m f low view es) (h1 : 1 ≤ f) (h4 : f ≤ 4) (hb : enterK view n = 0) : Calls Try.prog 24 #[ptr l, .int .u64 n] w fun r w' => r = .returned (.int .i64 0) ∧ ∃ es', LogAt w' l m f low n es' ∧ absL es' = enterL (absL es) (fun _ => false) ∧ (∀ x ∈ foot l m es', x ∈ foot l m es ∨ w.heap.size ≤ x) ∧ Fr (foot l m es) w w' := by
  have HL := Aside0.mk h
  have HF := Aside0.mk (And.intro h1 h4)
  obtain ⟨c0, c1, c2, c3, cf⟩ := h.cells
  have z2 := cf 2
  have b1 : decide (n > 4611686018427387903) = false := df (fun h5 => by unfold enterK at hb; rw [if_pos h5] at hb; cases hb)
  have b2 : decide (n ≤ view) = false := df (fun h5 => by
    unfold enterK at hb
    split at hb
    · cases hb
    · first | cases hb | (rw [if_pos h5] at hb; cases hb))
  have HFs : Aside0 (Fr [l] w (w.setCell ⟨l, 2, none⟩ (.int .u64 n))) := ⟨Fr.set ⟨l, 2, none⟩ (by simp) _⟩
  have HL1 : Aside0 (LogAt (w.setCell ⟨l, 2, none⟩ (.int .u64 n)) l m f low n es) := ⟨HL.out.marks HFs.out low n (blk_setCell HL.out.log 2 _)⟩
  clear h h1 h4 hb cf
  obtain ⟨w0, hrun, hrg0, hg0, hs0⟩ := HL1.out.map.range (P := Try.prog) Try.underlying57
  have hsz : (w.setCell ⟨l, 2, none⟩ (.int .u64 n)).heap.size = w.heap.size := by simp [World.setCell]
  rw [hsz] at hrun hrg0
  have HR0 := Aside0.mk hrg0
  have HG0 := Aside0.mk hg0
  clear hrg0 hg0 hs0 hsz
  go_enter Try.func24, Try.ntmps24
  go_wp2_with fail
  have HL2 : Aside0 (LogAt w0 l m f low n es) := ⟨HL1.out.fr (Fr.of_none (F := []) HG0.out) (by simp) (by simp)⟩
  have HF2 : Aside0 (Fr (foot l m es) w w0) := ⟨(HFs.out.mono (G := foot l m es) (by simp [foot])).trans (Fr.of_none (F := []) HG0.out) (by simp)⟩
  clear hrun c0 c1 c2 c3 z2 b1 b2 HL1 HFs HG0
  unfold ptr
  go_loopw [5, 6] (fun _ _ wr => ∃ (es' : List Ent) (left : Int → Bool), Aside0 (LogAt wr l m f low n es') ∧ Aside0 (RangeAt wr m w.heap.size (pairs es') left) ∧ Aside0 (absL es' = enterL (absL es) left) ∧ Aside0 (∀ x ∈ foot l m es', x ∈ foot l m es ∨ w.heap.size ≤ x) ∧ Aside0 (Fr (foot l m es) w wr)) (fun _ _ wr => rangeC wr m w.heap.size)
  case atStart => exact ⟨es, fun _ => true, HL2, HR0, ⟨by rw [enter_start]⟩, ⟨fun x hx => .inl hx⟩, HF2⟩
  case round =>
    obtain ⟨es', left, HLr, HR, HA, HFo, HFr⟩ := hrel
    rcases HR.out.next (P := Try.prog) 0 with ⟨hall, hnx0⟩ | ⟨p, w2, hp, hlp, hnx0, hrg2, hg2, hs2, hen0⟩
    · have hnx : (Instr.next (.pointer (some ⟨w.heap.size, 0, none⟩)) false 0).run Try.prog wr = .ok (.tuple #[.bool false]) wr := hnx0
      have HAL := Aside0.mk hall
      clear hnx0 hall
      go_wp2_with fail
      go_ret
      refine ⟨rfl, es', HLr.out, ?_, HFo.out, HFr.out⟩
      rw [HA.out]
      refine enter_end _ _ (fun p hp => ?_)
      have h5 : p.1 ∈ (absL es').map (·.1) := by
        rw [HA.out]
        unfold enterL
        rw [List.map_map]
        refine List.mem_map.2 ⟨p, hp, ?_⟩
        simp only [Function.comp]
        split <;> rfl
      obtain ⟨x, hx, h6⟩ := List.mem_map.1 h5
      obtain ⟨e, he, rfl⟩ := List.mem_map.1 hx
      have := HAL.out (e.q, e.sb) (List.mem_map.2 ⟨e, he, rfl⟩)
      rw [← h6]
      exact this
    · have hnx : (Instr.next (.pointer (some ⟨w.heap.size, 0, none⟩)) false 0).run Try.prog wr = .ok (.tuple #[.bool true, key p.1, ptr p.2]) w2 := hnx0
      have hen : (Instr.entry (.pointer (some ⟨w.heap.size, 0, none⟩))).run Try.prog w2 = .ok (.tuple #[key p.1, ptr p.2]) w2 := hen0
      obtain ⟨r, hr⟩ : ∃ r, w.heap.size = r := ⟨_, rfl⟩
      rw [hr] at hnx hen hrg2 hg2
      obtain ⟨e, he, hep⟩ := List.mem_map.1 hp
      obtain ⟨a, b, rfl⟩ := List.append_of_mem he
      have hiter : ∃ a s sn c, wr.heap[r]? = some (.mapIter a s sn c) := by
        obtain ⟨_, _, since, seen, c0, _, _, _, _, h5, _⟩ := HR.out
        rw [hr] at h5
        exact ⟨_, _, _, _, h5⟩
      have HLw : Aside0 (LogAt w2 l m f low n (a ++ e :: b)) := ⟨HLr.out.fr (Fr.of_grown hg2) (fun x hx => by
        rw [List.mem_singleton.1 hx]
        obtain ⟨a', s', sn', c', h5⟩ := hiter
        exact .inr (.inr ⟨a', s', sn', c', h5⟩)) (fun x hx hin => by
        obtain ⟨a', s', sn', c', h5⟩ := hiter
        rw [List.mem_singleton.1 hin] at hx
        exact HLr.out.noIter hx h5)⟩
      have HFw : Aside0 (Fr (foot l m es) w w2) := ⟨HFr.out.trans (Fr.of_grown hg2) (by simp; right; omega)⟩
      have HR2 := Aside0.mk hrg2
      have HX := Aside0.mk (And.intro hp hlp)
      have HEP := Aside0.mk hep
      obtain ⟨c0, c1, c2, c3, _⟩ := HLw.out.cells
      obtain ⟨vp, vs, vc, _, _, _, _, s4, _, _, _, hct, _⟩ := (HLw.out.slots e (by simp)).cells
      obtain ⟨pc, hpc⟩ := hct.ptr
      subst hpc
      obtain ⟨q, sb⟩ := p
      simp only [Prod.mk.injEq] at hep
      obtain ⟨e1, e2⟩ := hep
      subst e1 e2
      have HCT := Aside0.mk hct
      have HRr := Aside0.mk hr
      have hsb : Aside0 (w2.cell? ⟨e.sb, 4, none⟩ = some (.pointer pc)) := ⟨s4⟩
      have hc0 := Aside0.mk c0
      have hc3 := Aside0.mk c3
      have HLM : Aside0 (l ∉ [m] ∧ e.sb ∉ [m]) := ⟨by simpa using HLw.out.lm, by simpa using ((nodup_apart HLw.out.nodup).1 e.sb (by simp [blks])).2⟩
      rw [hr]
      clear hnx0 hen0 hp hlp hg2 hrg2 hs2 he hiter hct c1 c2 hr c0
      go_wp2_with fail
      go_region_held3 (fun w' => w'.cell? ⟨l, 3, none⟩ = some (.map (some m)) ∧ w'.cell? ⟨e.sb, 4, none⟩ = some (.pointer pc))
        (first | exact ⟨Fr.cell (Fr.of_grown HG4.out) (fr_ret HB3.out hc3.out) HLM.out.1, Fr.cell (Fr.of_grown HG4.out) (fr_ret HB3.out hsb.out) HLM.out.2⟩ | exact ⟨hc3.out, hsb.out⟩ | exact ⟨fr_ret HB3.out hc3.out, fr_ret HB3.out hsb.out⟩ | go_keep)
        (first
          | (go_at_call 41; refine (fresh_any (w := w2.drew) (es := a ++ e :: b) (m := m) (low := low) (view := n) HF.out.1 HF.out.2 (fr_ret (below_drew (Below.refl _ _)) hc0.out) pc e.s.cert (HCT.out.fr (Fr.of_below (F := []) (below_drew (Below.refl _ _))) (by simp)) e.q).mono ?_; rintro rr w3 ⟨s, rfl, hsq, hss, hs, hnew, hnd, hb, _⟩; have HB3 : Aside0 (Below w2.heap.size w2 w3) := ⟨(below_drew (Below.refl w2.heap.size w2)).trans hb⟩; have HS3 : Aside0 (s.q = e.q ∧ s.s = freshS e.s.cert ∧ SlotAt w3 f s ∧ (∀ x ∈ blks s, w2.heap.size ≤ x) ∧ (blks s).Nodup) := ⟨⟨hsq, hss, hs, hnew, hnd⟩⟩; obtain ⟨w4, hrun0, hrg4, hg4, hs4⟩ := (HR2.out.move (HB3.out.block m HR2.out.map.lt) (HB3.out.block r HR2.out.lt)).put (P := Try.prog) Try.underlying30 Try.underlying57 HX.out.1 s.sb; have hup : (Instr.mapUpdate 57 (.map (some m)) (.int .u64 e.q) (.pointer (some ⟨s.sb, 0, none⟩))).run Try.prog w3 = .ok () w4 := hrun0; have HR4 := Aside0.mk hrg4; have HG4 := Aside0.mk hg4; clear hsq hss hs hnew hnd hb hrun0 hrg4 hg4 hs4))
      have HLf : Aside0 (LogAt w3 l m f low n (a ++ e :: b)) := ⟨HLw.out.keep HB3.out⟩
      have HF4 : Aside0 (Fr [m] w3 w4) := ⟨Fr.of_grown HG4.out⟩
      have HL4 : Aside0 (LogAt w4 l m f low n (a ++ s :: b)) := ⟨HLf.out.put HF4.out HR4.out.map HS3.out.1 (HS3.out.2.2.1.fr HF4.out (fun x hx => by rw [List.mem_singleton.1 hx]; exact HLf.out.mut m (by simp [foot])) (fun x hx hin => by
        have h5 := HS3.out.2.2.2.1 x hx
        have h6 := HLw.out.lt (b := m) (by simp [foot])
        rw [List.mem_singleton.1 hin] at h5
        omega)) (fun x hx hin => by
        have h5 := HS3.out.2.2.2.1 x hx
        have h6 := HLw.out.lt hin
        omega) HS3.out.2.2.2.2⟩
      have hnq := nodup_q HLw.out
      have HP4 : Aside0 (pairs (a ++ s :: b) = putAt (pairs (a ++ e :: b)) e.q s.sb) := ⟨pairs_put hnq HS3.out.1⟩
      have HA4 : Aside0 (absL (a ++ s :: b) = enterL (absL es) (fun x => left x && x != e.q)) := ⟨by
        rw [modQ_abs (g := fun t => freshS t.cert) hnq rfl HS3.out.1 HS3.out.2.1, HA.out]
        exact enter_step _ _ _ HX.out.2⟩
      clear hnq
      go_roundw
      case rel =>
        refine ⟨_, _, _, _, _, _, _, _, _, _, _, _, _, _, _, _, _, _, ?_, rfl⟩
        refine ⟨a ++ s :: b, _, HL4, ⟨by rw [HP4.out]; exact HR4.out⟩, HA4, ⟨fun x hx => ?_⟩, ⟨(HFw.out.trans (Fr.of_below (F := []) HB3.out) (by simp)).trans HF4.out (by simp [foot])⟩⟩
        unfold foot at hx
        rw [List.flatMap_append, List.flatMap_cons] at hx
        simp only [List.mem_cons, List.mem_append] at hx
        have h0 := HFo.out x
        rw [HRr.out] at h0
        unfold foot at h0
        rw [List.flatMap_append, List.flatMap_cons] at h0
        simp only [List.mem_cons, List.mem_append] at h0
        unfold foot
        simp only [List.mem_cons]
        rcases hx with hx | hx | hx | hx | hx
        · exact h0 (.inl hx)
        · exact h0 (.inr (.inl hx))
        · exact h0 (.inr (.inr (.inl hx)))
        · right
          have := HS3.out.2.2.2.1 x hx
          have := HFw.out.size
          have := HRr.out
          omega
        · exact h0 (.inr (.inr (.inr (.inr hx))))
      case measure =>
        have e1 := HR.out.left
        rw [HRr.out] at e1
        rw [HR4.out.left, e1, leftN_fst, putAt_fst, ← leftN_fst]
        exact left_less HX.out.1 HX.out.2
end
end Go.Proofs.Ytfjfggnbkopocaa
