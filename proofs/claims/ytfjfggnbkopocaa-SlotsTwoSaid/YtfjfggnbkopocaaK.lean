/- Slots: the proof of votes for a word. -/
import Derived.Test.YtfjfggnbkopocaaH
import Derived.Carry
/- Proof. -/
set_option linter.unusedVariables false
set_option linter.unusedSimpArgs false
namespace Go.Proofs.Ytfjfggnbkopocaa
open Go.RowKit Go.Proofs.YtfjfggnbkopocaaW.PrintWords
attribute [local go_sem] ptr

theorem rowS_block {w : World} {v : Value} {L : List Sig} (h : kS.R 46 w 0 tr v L) (h0 : 0 < L.length) : ∃ g c, v = .slice (some ⟨g, 0, none⟩) L.length c ∧ L.length ≤ c := by
  obtain ⟨_, inner, ho, hr⟩ := h
  rcases ho.2 with ⟨_, h1⟩ | ⟨g, cap, cur, hv, _, _, h3, _⟩
  · omega
  · exact ⟨g, cap, hv, h3⟩
/-- Short texts. -/
def okS (x : Sig) : Prop := x.b.length ≤ 1000000 ∧ x.tag.length ≤ 1000000
def okV (V : Votes) : Prop := ∀ i v, V i = some v → okS v.sig
theorem hitsTo_ok {V : Votes} (h : okV V) (s : ByteArray) : ∀ n, ∀ x ∈ hitsTo V s n, okS x
  | 0 => by simp [hitsTo]
  | n + 1 => by
    intro x hx
    rcases List.mem_append.1 hx with hx | hx
    · exact hitsTo_ok h s n x hx
    · unfold hit at hx
      split at hx
      · rename_i v hv
        split at hx
        · rw [List.mem_singleton.1 hx]
          exact h n v hv
        · cases hx
      · cases hx
set_option maxHeartbeats 4000000 in
set_option maxRecDepth 100000 in
theorem Proof_ok (b : Nat) (f : Int) (V : Votes) (A : Option Addr) (c : Nat) (bs : List Int) (n : Nat) (w : World) (hV : VotesAt w b f V) (hw : kB.C w A bs.length bs) (hk : okV V) (hn : 1 ≤ n) (hle : n ≤ (hits V (strOfNums bs)).length) :
    Calls Try.prog 50 #[ptr b, .slice A bs.length c, .int .i64 (n : Int)] w fun e w' => ∃ v, e = .returned v ∧ kS.R 46 w' 0 tr v ((hits V (strOfNums bs)).take n) ∧ From w.heap.size v ∧ Below w.heap.size w w' := by
  have h0 := all_any b f V A c bs w hV hw
  have HL := Aside0.mk (hitsTo_len V (strOfNums bs) 13)
  have HK := Aside0.mk (hitsTo_ok hk (strOfNums bs) 13)
  have HN := Aside0.mk hn
  have HE := Aside0.mk hle
  have e1 : decide ((n : Int) < 1) = false := df (by omega)
  have e2 : ¬ ((hits V (strOfNums bs)).length < n) := by omega
  clear hV hw hk hn hle
  go_enter Try.func50, Try.ntmps50
  go_wp2_with fail
  refine h0.mono ?_
  rintro e w1 ⟨v, rfl, hr, hf, hb⟩
  obtain ⟨g, c1, rfl, hc1⟩ := rowS_block hr (by have := HN.out; have := HE.out; omega)
  have HR := Aside0.mk (rowS_take hr HE.out)
  have HF := Aside0.mk (hf g rfl)
  have HB := Aside0.mk hb
  have HC := Aside0.mk hc1
  have e3 : n ≤ c1 := by have := HE.out; omega
  have HT : Aside0 (((hits V (strOfNums bs)).take n).length = n) := ⟨by rw [List.length_take]; have := HE.out; omega⟩
  clear hr hf hb h0 hc1
  go_wp2_with fail
  go_loopw [26] (fun v26 w' => ∃ i : Nat, i ≤ n ∧ v26 = .int .i64 i ∧ Aside0 (kS.R 46 w' 0 tr (.slice (some ⟨g, 0, none⟩) n c1) ((hits V (strOfNums bs)).take n)) ∧ Aside0 (Below w.heap.size w w')) (fun v26 _ => n - (intOf v26).toNat)
  case atStart => exact ⟨0, by omega, rfl, HR, HB⟩
  case round =>
    obtain ⟨i, hi, rfl, HO, HW⟩ := hrel
    by_cases hlt : i < n
    · obtain ⟨x, hx⟩ : ∃ x, ((hits V (strOfNums bs)).take n)[i]? = some x := ⟨_, List.getElem?_eq_getElem (by rw [HT.out]; exact hlt)⟩
      have HX := Aside0.mk hx
      have HKx : Aside0 (okS x) := ⟨HK.out x (List.mem_of_mem_take (List.mem_of_getElem? hx))⟩
      obtain ⟨v1, v2, c0, c1', c2', k1, k2, fz, hnl⟩ := rowS_at HO.out hx
      obtain ⟨A1, m1, q1, l1, r1⟩ := Kd.R_reads k1
      obtain ⟨A2, m2, q2, l2, r2⟩ := Kd.R_reads k2
      subst q1 q2
      have R1 := Aside0.mk r1
      have R2 := Aside0.mk r2
      have h3 : (i : Int) < n := by omega
      have z1 := fz (i * 3 + 1)
      have z2 := fz (i * 3 + 2)
      clear hx k1 k2 r1 r2 fz l1 l2 hnl
      go_wp2_with fail
      have HX3 : Aside0 ((wr.alloc (.cells #[.int .u64 x.from_, .slice A1 x.b.length m1, .slice A2 x.tag.length m2] 46)).heap[wr.heap.size]? = some (.cells #[.int .u64 x.from_, .slice A1 x.b.length m1, .slice A2 x.tag.length m2] 46 (0, 0))) := ⟨heap_alloc_new wr _⟩
      have HB3 : Aside0 (Below wr.heap.size wr (wr.alloc (.cells #[.int .u64 x.from_, .slice A1 x.b.length m1, .slice A2 x.tag.length m2] 46))) := ⟨below_alloc (Below.refl _ _) _⟩
      have HGl : Aside0 (g < wr.heap.size) := ⟨World.block_lt_of_cell? wr _ c0⟩
      have HS3 : Aside0 (wr.heap.size < (wr.alloc (.cells #[.int .u64 x.from_, .slice A1 x.b.length m1, .slice A2 x.tag.length m2] 46)).heap.size) := ⟨by simp⟩
      generalize wr.alloc (.cells #[.int .u64 x.from_, .slice A1 x.b.length m1, .slice A2 x.tag.length m2] 46) = w3 at HX3 HB3 HS3 ⊢
      have HGS : Aside0 (g < wr.heap.size) := HGl
      obtain ⟨gs, hgs⟩ : ∃ gs, wr.heap.size = gs := ⟨_, rfl⟩
      have HW3 : Aside0 (Below w.heap.size w w3) := ⟨HW.out.trans (HB3.out.mono HW.out.size)⟩
      have HR1' : Aside0 (kB.C w3 A1 x.b.length x.b) := ⟨Kd.C_below R1.out HB3.out⟩
      have HR2' : Aside0 (kB.C w3 A2 x.tag.length x.tag) := ⟨Kd.C_below R2.out HB3.out⟩
      have HO3 : Aside0 (kS.R 46 w3 0 tr (.slice (some ⟨g, 0, none⟩) n c1) ((hits V (strOfNums bs)).take n)) := ⟨Kd.R_below HO.out HB3.out⟩
      rw [hgs] at HX3 HGS HS3 ⊢
      have hne : gs ≠ g := by have := HGS.out; omega
      have hne' : g ≠ gs := by omega
      have k1 : w3.cell? ⟨gs, 1, none⟩ = some (.slice A1 x.b.length m1) := (blk_cell HX3.out 1).trans rfl
      have k2 : w3.cell? ⟨gs, 2, none⟩ = some (.slice A2 x.tag.length m2) := (blk_cell HX3.out 2).trans rfl
      clear hgs c0 c1' c2' z1 z2 R1 R2 HB3 HO HW HGl
      go_region_held3 (fun w' => w'.cell? ⟨gs, 1, none⟩ = some (.slice A1 x.b.length m1) ∧ w'.cell? ⟨gs, 2, none⟩ = some (.slice A2 x.tag.length m2))
        (first | go_keep | exact keepG HY1.out (by repeat (first | exact Below.refl _ _ | refine below_drew ?_ | refine pw_below_drewN ?_ _ | refine below_alloc ?_ _)))
        (first
          | (go_at_call_of 31 (Value.slice A1 x.b.length m1); refine (clone_any A1 m1 x.b _ (Kd.C_below HR1'.out (by repeat (first | exact Below.refl _ _ | refine below_drew ?_ | refine pw_below_drewN ?_ _ | refine below_alloc ?_ _))) HKx.out.1).mono ?_; rintro e W1 ⟨v1, rfl, hr, hb⟩; have HB1 := Aside0.mk (bl_to (Below.refl w3.heap.size w3) (Nat.le_refl _) (by repeat (first | exact Below.refl _ _ | refine below_drew ?_ | refine pw_below_drewN ?_ _ | refine below_alloc ?_ _)) hb); have HY1 := Aside0.mk (blk_below HX3.out HB1.out); have HN1 := Aside0.mk (Kd.R_lower hr (Nat.zero_le _)); clear hr hb; obtain ⟨B1, p1, q1⟩ := Kd.R_slice HN1.out; subst q1)
          | (go_at_call_of 31 (Value.slice A2 x.tag.length m2); refine (clone_any A2 m2 x.tag _ (Kd.C_below HR2'.out (bl_to HB1.out (Nat.le_refl _) (by repeat (first | exact Below.refl _ _ | refine below_drew ?_ | refine pw_below_drewN ?_ _ | refine below_alloc ?_ _)) (Below.refl _ _))) HKx.out.2).mono ?_; rintro e W2 ⟨v2, rfl, hr, hb⟩; have HB2 := Aside0.mk (bl_to (Below.refl W1.heap.size W1) (Nat.le_refl _) (by repeat (first | exact Below.refl _ _ | refine below_drew ?_ | refine pw_below_drewN ?_ _ | refine below_alloc ?_ _)) hb); have HY2 := Aside0.mk (blk_below HY1.out HB2.out); have HN2 := Aside0.mk (Kd.R_below HN1.out HB2.out); have HN3 := Aside0.mk (Kd.R_lower hr (Nat.zero_le _)); have HO4 := Aside0.mk (Kd.R_below HO3.out (HB1.out.trans (HB2.out.mono HB1.out.size))); obtain ⟨x1, x2, y0, y1, y2, _, _, fz, hnl⟩ := rowS_at HO4.out HX.out; have z1 := fz (i * 3 + 1); have z2 := fz (i * 3 + 2); obtain ⟨g1, g2⟩ := keepG HY2.out (Below.refl _ _); clear hr hb fz hnl; obtain ⟨B2, p2, q2⟩ := Kd.R_slice HN3.out; subst q2))
      have hi13 : (i : Int) < 13 := by
        have a1 := HE.out
        have a2 := HL.out
        unfold hits at a1
        omega
      have HO5 := Aside0.mk (rowS_set HO4.out HX.out HN2.out HN3.out)
      have HW5 : Aside0 (Below w.heap.size w W2) := ⟨HW3.out.trans ((HB1.out.trans (HB2.out.mono HB1.out.size)).mono HW3.out.size)⟩
      have HW6 : Aside0 (Below w.heap.size w ((W2.setCell ⟨g, i * 3 + 1, none⟩ (.slice B1 x.b.length p1)).setCell ⟨g, i * 3 + 2, none⟩ (.slice B2 x.tag.length p2))) := ⟨(HW5.out.setCell HF.out _).setCell HF.out _⟩
      go_wp2_with fail
      go_roundw
      case rel => exact ⟨i + 1, by omega, by go_num, HO5, HW6⟩
      case measure => simp [intOf]; omega
    · have h3 : ¬ ((i : Int) < n) := by omega
      clear hlt hi e1 e2 e3
      go_wp2_with fail
      go_ret
      exact ⟨_, rfl, HO.out, (fun k hk => by have h : g = k := by simpa [Value.ownBlock] using hk
                                             rw [← h]; exact HF.out), HW.out⟩
end Go.Proofs.Ytfjfggnbkopocaa

/- Slots: a new log, a fresh slot. -/
/- New logs and slots. -/
set_option linter.unusedVariables false
set_option linter.unusedSimpArgs false
namespace Go.Proofs.Ytfjfggnbkopocaa
open Go.RowKit Go.Proofs.YtfjfggnbkopocaaW.PrintWords
attribute [local go_sem] ptr

theorem N_bad {f : Int} (h : ¬ (1 ≤ f ∧ f ≤ 4)) (w : World) : Calls Try.prog 26 #[.int .i64 f] w fun e w' => e = .returned (.int .i64 0) ∧ Drawn0 w w' := by
  refine PSlotsTwo.quorum_N.calls f 0 w ?_
  unfold PSlotsTwo.quorum_N.f PSlotsTwo.quorum_times.f PSlotsTwo.quorum_can.f
  by_cases h1 : f ≥ 1
  · rw [if_pos h1, df (fun h4 => h ⟨h1, h4⟩)]
    rfl
  · rw [if_neg h1]
    rfl
set_option maxHeartbeats 1000000 in
theorem New_bad {f : Int} (h : ¬ (1 ≤ f ∧ f ≤ 4)) (w : World) : Calls Try.prog 10 #[.int .i64 f] w fun e w' => e = .returned (.tuple #[.pointer none, .int .i64 1]) ∧ Below w.heap.size w w' := by
  have HF := Aside0.mk h
  clear h
  go_enter Try.func10, Try.ntmps10
  go_wp2_with fail
  refine (N_bad HF.out _).mono ?_
  rintro e w' ⟨rfl, n, rfl⟩
  go_wp2_with fail
  go_ret2
  exact ⟨rfl, pw_below_drewN (Below.refl _ _) n⟩
set_option maxHeartbeats 1000000 in
theorem New_ok {f : Int} (h1 : 1 ≤ f) (h4 : f ≤ 4) (w : World) : Calls Try.prog 10 #[.int .i64 f] w fun e w' => e = .returned (.tuple #[ptr (w.heap.size + 1), .int .i64 0]) ∧ LogAt w' (w.heap.size + 1) w.heap.size f 0 0 [] ∧ Below w.heap.size w w' := by
  have HF := Aside0.mk (And.intro h1 h4)
  have e1 : (3 * f + 1 == 0) = false := beq_eq_false_iff_ne.2 (by omega)
  clear h1 h4
  go_enter Try.func10, Try.ntmps10
  go_wp2_with fail
  refine (N_any HF.out.1 HF.out.2 _).mono ?_
  rintro e w' ⟨rfl, n, rfl⟩
  have hmm := fun w => run_makeMap (P := Try.prog) 57 w
  go_wp2_with fail
  go_ret2
  have hb : Below w.heap.size w (w.drewN n) := pw_below_drewN (Below.refl _ _) n
  have hs : (w.drewN n).heap.size = w.heap.size := rfl
  refine ⟨rfl, ⟨?_, ?_, by simp, ?_⟩, (hb.alloc (Nat.le_refl _) _).alloc (by simp) _⟩
  · have h := heap_alloc_new ((w.drewN n).alloc (.map #[] 0)) (.cells #[.int .i64 f, .int .u64 0, .int .u64 0, .map (some w.heap.size)] 59)
    rwa [World.size_alloc] at h
  · exact (MapAt.made (w.drewN n)).move (Below.heap_alloc _ _ _ (by simp))
  · simp [foot]
theorem LogAt.cells {w : World} {l m : Nat} {f low view : Int} {es : List Ent} (h : LogAt w l m f low view es) :
    w.cell? ⟨l, 0, none⟩ = some (.int .i64 f) ∧ w.cell? ⟨l, 1, none⟩ = some (.int .u64 low) ∧ w.cell? ⟨l, 2, none⟩ = some (.int .u64 view) ∧ w.cell? ⟨l, 3, none⟩ = some (.map (some m)) ∧ ∀ j, w.frozen? ⟨l, j, none⟩ = false :=
  ⟨(blk_cell h.log 0).trans rfl, (blk_cell h.log 1).trans rfl, (blk_cell h.log 2).trans rfl, (blk_cell h.log 3).trans rfl, blk_frozen h.log⟩
theorem SlotAt.cells {w : World} {f : Int} {e : Ent} (h : SlotAt w f e) : ∃ vp vs vc, w.cell? ⟨e.sb, 0, none⟩ = some vp ∧ w.cell? ⟨e.sb, 1, none⟩ = some vs ∧ w.cell? ⟨e.sb, 2, none⟩ = some (ptr e.pb) ∧ w.cell? ⟨e.sb, 3, none⟩ = some (ptr e.cb) ∧ w.cell? ⟨e.sb, 4, none⟩ = some vc ∧ (∀ j, w.frozen? ⟨e.sb, j, none⟩ = false) ∧
    PreAt w vp e.s.pre ∧ kB.R 5 w 0 tr vs e.s.sum ∧ CertAt w vc e.s.cert ∧ VotesAt w e.pb f e.s.prep ∧ VotesAt w e.cb f e.s.comm ∧ w.heap[e.sb]? = some (.cells #[vp, vs, ptr e.pb, ptr e.cb, vc] 67 (0, 0)) := by
  obtain ⟨vp, vs, vc, hb, h1, h2, h3, h4, h5⟩ := h
  exact ⟨vp, vs, vc, (blk_cell hb 0).trans rfl, (blk_cell hb 1).trans rfl, (blk_cell hb 2).trans rfl, (blk_cell hb 3).trans rfl, (blk_cell hb 4).trans rfl, blk_frozen hb, h1, h2, h3, h4, h5, hb⟩
theorem zero60 (w : World) : (zeroValue 60).run Try.prog w = .ok (.pointer none) w := by
  have h : (Try.prog.info? 60).map (·.zero) = some (some (.pointer none)) := by kernel_rfl
  cases hq : Try.prog.info? 60 with
  | none => rw [hq] at h; cases h
  | some i =>
    rw [hq] at h
    have hz : i.zero = some (.pointer none) := by simpa using h
    simp [zeroValue, typeInfo, hq, hz]
section
variable {w : World} {l m : Nat} {f low view : Int} {es : List Ent} {q : Int}
theorem lookup_any (h : LogAt w l m f low view es) (hq : okQ q) : (Instr.lookup 57 (.map (some m)) (.int .u64 q) false).run Try.prog w = .ok (ptrO (getP (pairs es) q)) w :=
  h.map.lookup Try.underlying30 Try.underlying57 (zero60 w) hq
theorem getP_ent {s : Nat} (h : getP (pairs es) q = some s) : ∃ a e b, es = a ++ e :: b ∧ e.q = q ∧ e.sb = s := by
  have h1 := getP_mem h
  obtain ⟨e, he, h2⟩ := List.mem_map.1 h1
  simp only [Prod.mk.injEq] at h2
  obtain ⟨a, b, rfl⟩ := List.append_of_mem he
  exact ⟨a, e, b, rfl, h2.1, h2.2⟩
theorem Low_any (h : LogAt w l m f low view es) : Calls Try.prog 16 #[ptr l] w fun e w' => e = .returned (.int .u64 low) ∧ w' = w := by
  obtain ⟨_, c1, _⟩ := h.cells
  clear h
  go_enter Try.func16, Try.ntmps16
  go_wp2_with fail
  go_ret
  exact ⟨rfl, rfl⟩
theorem View_any (h : LogAt w l m f low view es) : Calls Try.prog 19 #[ptr l] w fun e w' => e = .returned (.int .u64 view) ∧ w' = w := by
  obtain ⟨_, _, c1, _⟩ := h.cells
  clear h
  go_enter Try.func19, Try.ntmps19
  go_wp2_with fail
  go_ret
  exact ⟨rfl, rfl⟩
theorem Low_nil : Calls Try.prog 16 #[.pointer none] w fun e w' => e = .returned (.int .u64 0) ∧ w' = w := by
  go_enter Try.func16, Try.ntmps16
  go_wp2_with fail
  go_ret
  exact ⟨rfl, rfl⟩
theorem View_nil : Calls Try.prog 19 #[.pointer none] w fun e w' => e = .returned (.int .u64 0) ∧ w' = w := by
  go_enter Try.func19, Try.ntmps19
  go_wp2_with fail
  go_ret
  exact ⟨rfl, rfl⟩
theorem find_any (h : LogAt w l m f low view es) (hq : okQ q) : Calls Try.prog 27 #[ptr l, .int .u64 q] w fun e w' => e = .returned (ptrO (getP (pairs es) q)) ∧ w' = w := by
  obtain ⟨_, _, _, c3, _⟩ := h.cells
  have hl := lookup_any h hq
  clear h
  go_enter Try.func27, Try.ntmps27
  go_wp2_with fail
  go_ret
  exact ⟨rfl, rfl⟩
theorem find_nil : Calls Try.prog 27 #[.pointer none, .int .u64 q] w fun e w' => e = .returned (.pointer none) ∧ w' = w := by
  go_enter Try.func27, Try.ntmps27
  go_wp2_with fail
  go_ret
  exact ⟨rfl, rfl⟩
end
/-- A slot with nothing but a certificate. -/
def freshS (c : Option CertM) : SlotM := ⟨none, [], fun _ => none, fun _ => none, c⟩
theorem CertAt.ptr {w : World} {v : Value} {c : Option CertM} (h : CertAt w v c) : ∃ pc, v = .pointer pc := by
  cases c with
  | none => exact ⟨_, h⟩
  | some c =>
    obtain ⟨b, _, _, hv, _⟩ := h
    exact ⟨_, hv⟩
theorem PreAt.ptr {w : World} {v : Value} {c : Option Sig} (h : PreAt w v c) : ∃ pc, v = .pointer pc := by
  cases c with
  | none => exact ⟨_, h⟩
  | some c =>
    obtain ⟨b, _, hv, _⟩ := h
    exact ⟨_, hv⟩
set_option maxHeartbeats 1000000 in
theorem fresh_any {w : World} {l m : Nat} {f low view : Int} {es : List Ent} (h1 : 1 ≤ f) (h4 : f ≤ 4) (hl : w.cell? ⟨l, 0, none⟩ = some (.int .i64 f)) (pc : Option Addr) (c : Option CertM) (hc : CertAt w (.pointer pc) c) (q : Int) :
    Calls Try.prog 41 #[ptr l, .pointer pc] w fun e w' => ∃ n : Ent, e = .returned (ptr n.sb) ∧ n.q = q ∧ n.s = freshS c ∧ SlotAt w' f n ∧ (∀ x ∈ blks n, w.heap.size ≤ x) ∧ (blks n).Nodup ∧ Below w.heap.size w w' ∧ w'.heap[n.sb]? = some (.cells #[.pointer none, .slice none 0 0, ptr n.pb, ptr n.cb, .pointer pc] 67 (0, 0)) := by
  have HF := Aside0.mk (And.intro h1 h4)
  have HC := Aside0.mk hc
  have HL := Aside0.mk hl
  have hlt := World.block_lt_of_cell? w _ hl
  clear h1 h4 hc
  go_enter Try.func41, Try.ntmps41
  go_wp2_with fail
  obtain ⟨g, hg⟩ : ∃ g, w.heap.size = g := ⟨_, rfl⟩
  have HG := Aside0.mk hg
  have HX : Aside0 ((w.alloc (.cells #[.pointer none, .slice none 0 0, .pointer none, .pointer none, .pointer pc] 67)).heap[g]? = some (.cells #[.pointer none, .slice none 0 0, .pointer none, .pointer none, .pointer pc] 67 (0, 0))) := ⟨by rw [← hg]; exact heap_alloc_new w _⟩
  have HB : Aside0 (Below w.heap.size w (w.alloc (.cells #[.pointer none, .slice none 0 0, .pointer none, .pointer none, .pointer pc] 67))) := ⟨below_alloc (Below.refl _ _) _⟩
  have HS : Aside0 (g < (w.alloc (.cells #[.pointer none, .slice none 0 0, .pointer none, .pointer none, .pointer pc] 67)).heap.size) := ⟨blk_lt HX.out⟩
  rw [hg]
  generalize w.alloc (.cells #[.pointer none, .slice none 0 0, .pointer none, .pointer none, .pointer pc] 67) = w1 at HX HB HS ⊢
  clear hg hl
  refine (qNew_any HF.out.1 HF.out.2 _).mono ?_
  rintro e w2 ⟨rfl, hv, hb⟩
  obtain ⟨g1, hg1⟩ : ∃ g1, w1.heap.size = g1 := ⟨_, rfl⟩
  have HG1 := Aside0.mk hg1
  have HB2 : Aside0 (Below w.heap.size w w2) := ⟨HB.out.trans (hb.mono HB.out.size)⟩
  have HX2 : Aside0 (w2.heap[g]? = some (.cells #[.pointer none, .slice none 0 0, .pointer none, .pointer none, .pointer pc] 67 (0, 0))) := ⟨blk_below HX.out hb⟩
  rw [hg1] at hv ⊢
  have HV := Aside0.mk hv
  have hl2 := (HB2.out.cell (p := ⟨l, 0, none⟩) hlt).trans HL.out
  have z2 := blk_frozen HX2.out 2
  have y2 : w2.cell? ⟨g, 2, none⟩ = some (.pointer none) := (blk_cell HX2.out 2).trans rfl
  have hgl : ¬ (g = l) := by have := HG.out; omega
  have hgl' : ¬ (l = g) := by omega
  clear hv hb hg1
  go_wp2_with fail
  have HX3 : Aside0 ((w2.setCell ⟨g, 2, none⟩ (.pointer (some ⟨g1, 0, none⟩))).heap[g]? = some (.cells #[.pointer none, .slice none 0 0, .pointer (some ⟨g1, 0, none⟩), .pointer none, .pointer pc] 67 (0, 0))) := ⟨blk_setCell HX2.out 2 _⟩
  have HB3 : Aside0 (Below w.heap.size w (w2.setCell ⟨g, 2, none⟩ (.pointer (some ⟨g1, 0, none⟩)))) := ⟨HB2.out.setCell (by have := HG.out; simp; omega) _⟩
  have HV3 : Aside0 (VotesAt (w2.setCell ⟨g, 2, none⟩ (.pointer (some ⟨g1, 0, none⟩))) g1 f (fun _ => none)) := ⟨HV.out.fr (F := [g]) (Fr.set ⟨g, 2, none⟩ (by simp) _) (fun x hx => by rw [List.mem_singleton.1 hx]; exact .inl ⟨_, 67, _, HX2.out, .inr (.inl rfl)⟩) (by have := HS.out; have := HG1.out; simp; omega)⟩
  generalize w2.setCell ⟨g, 2, none⟩ (.pointer (some ⟨g1, 0, none⟩)) = w3 at HX3 HB3 HV3 ⊢
  clear y2 z2 hl2
  refine (qNew_any HF.out.1 HF.out.2 _).mono ?_
  rintro e w4 ⟨rfl, hv, hb⟩
  obtain ⟨g2, hg2⟩ : ∃ g2, w3.heap.size = g2 := ⟨_, rfl⟩
  have HG2 : Aside0 (g1 < g2) := ⟨by rw [← hg2]; exact HV3.out.mut.lt⟩
  have HB4 : Aside0 (Below w.heap.size w w4) := ⟨HB3.out.trans (hb.mono HB3.out.size)⟩
  have HX4 : Aside0 (w4.heap[g]? = some (.cells #[.pointer none, .slice none 0 0, .pointer (some ⟨g1, 0, none⟩), .pointer none, .pointer pc] 67 (0, 0))) := ⟨blk_below HX3.out hb⟩
  have HV4 : Aside0 (VotesAt w4 g1 f (fun _ => none)) := ⟨HV3.out.fr (Fr.of_below (F := []) hb) (by simp) (by simp)⟩
  rw [hg2] at hv ⊢
  have HV5 := Aside0.mk hv
  have z3 := blk_frozen HX4.out 3
  have y3 : w4.cell? ⟨g, 3, none⟩ = some (.pointer none) := (blk_cell HX4.out 3).trans rfl
  clear hv hb hg2
  go_wp2_with fail
  go_ret
  have a1 := HG.out
  have a2 := HG1.out
  have a3 := HG2.out
  have a4 := HS.out
  have hF : Fr [g] w4 (w4.setCell ⟨g, 3, none⟩ (.pointer (some ⟨g2, 0, none⟩))) := Fr.set ⟨g, 3, none⟩ (by simp) _
  have hM : ∀ x ∈ [g], Mut w4 x := fun x hx => by rw [List.mem_singleton.1 hx]; exact .inl ⟨_, 67, _, HX4.out, .inr (.inl rfl)⟩
  have hBe : Below w.heap.size w (w4.setCell ⟨g, 3, none⟩ (.pointer (some ⟨g2, 0, none⟩))) := HB4.out.setCell (by simp; omega) _
  refine ⟨⟨q, g, g1, g2, freshS c⟩, rfl, rfl, rfl, ⟨_, _, _, blk_setCell HX4.out 3 _, rfl, Kd.R_nil _ _ _ _ _, ?_, HV4.out.fr hF hM (by simp; omega), HV5.out.fr hF hM (by simp; omega)⟩, ?_, ?_, hBe, blk_setCell HX4.out 3 _⟩
  · exact HC.out.fr (Fr.of_below (F := []) hBe) (by simp)
  · intro x hx
    simp only [blks, List.mem_cons, List.not_mem_nil, or_false] at hx
    have := HB.out.size
    omega
  · simp [blks]
    omega
end Go.Proofs.Ytfjfggnbkopocaa

/- Slots: is a slot prepared? -/
/- prepared. -/
set_option linter.unusedVariables false
set_option linter.unusedSimpArgs false
namespace Go.Proofs.Ytfjfggnbkopocaa
open Go.RowKit Go.Proofs.YtfjfggnbkopocaaW.PrintWords
attribute [local go_sem] ptr

/-- Is a slot prepared? -/
def prepB (f : Int) (s : SlotM) : Bool := s.pre.isSome && decide (2 * f ≤ ((hits s.prep (strOfNums s.sum)).length : Int))
set_option maxHeartbeats 2000000 in
theorem prepared_nil {w : World} {l : Nat} : Calls Try.prog 28 #[ptr l, .pointer none] w fun e w' => e = .returned (.bool false) ∧ Below w.heap.size w w' := by
  go_enter Try.func28, Try.ntmps28
  go_wp2_with fail
  go_quiet (fail)
  go_wp2_with fail
  go_ret
  exact ⟨rfl, pw_below_drewN (Below.refl _ _) _⟩
set_option maxHeartbeats 2000000 in
set_option maxRecDepth 100000 in
theorem prepared_any {w : World} {l : Nat} {f : Int} (h1 : 1 ≤ f) (h4 : f ≤ 4) (hl : w.cell? ⟨l, 0, none⟩ = some (.int .i64 f)) {e : Ent} (he : SlotAt w f e) :
    Calls Try.prog 28 #[ptr l, ptr e.sb] w fun r w' => r = .returned (.bool (prepB f e.s)) ∧ Below w.heap.size w w' := by
  obtain ⟨vp, vs, vc, c0, c1, c2, c3, c4, _, hp, hs, hc, hv, _, hb⟩ := he.cells
  cases hpre : e.s.pre with
  | none =>
    rw [hpre] at hp
    have hp0 : vp = .pointer none := hp
    subst hp0
    have HR : Aside0 (prepB f e.s = false) := ⟨by simp [prepB, hpre]⟩
    rw [HR.out]
    clear he hp hs hc hv hb hpre
    go_enter Try.func28, Try.ntmps28
    go_wp2_with fail
    go_quiet (fail)
    go_wp2_with fail
    go_ret
    exact ⟨rfl, pw_below_drewN (Below.refl _ _) _⟩
  | some g =>
    rw [hpre] at hp
    obtain ⟨pb, cs, rfl, hpb, _⟩ := hp
    obtain ⟨A, m, rfl, hlm, hC⟩ := Kd.R_reads hs
    have HB := Aside0.mk hb
    have HV := Aside0.mk hv
    have HC := Aside0.mk hC
    have HF := Aside0.mk (And.intro h1 h4)
    have HR : Aside0 (prepB f e.s = decide (2 * f ≤ ((hits e.s.prep (strOfNums e.s.sum)).length : Int))) := ⟨by simp [prepB, hpre]⟩
    have e1 : IntKind.i64.wrap (2 * f) = 2 * f := IntWalk.i64_in _ (by omega)
    rw [HR.out]
    have hlt := World.block_lt_of_cell? w _ hl
    have hlt2 := World.block_lt_of_cell? w _ c0
    clear he hs hc hv hb hpre hpb h1 h4 hlm hC c3 c4
    go_enter Try.func28, Try.ntmps28
    go_wp2_with fail
    go_region_held3 (fun w' => w'.cell? ⟨l, 0, none⟩ = some (.int .i64 f) ∧ w'.cell? ⟨e.sb, 0, none⟩ = some (ptr pb) ∧ w'.cell? ⟨e.sb, 1, none⟩ = some (.slice A e.s.sum.length m) ∧ w'.cell? ⟨e.sb, 2, none⟩ = some (ptr e.pb))
      (go_keep)
      (first
        | (go_at_call 29; refine (Count_any e.pb f e.s.prep A m e.s.sum _ (HV.out.fr (Fr.of_below (F := []) (by repeat (first | exact Below.refl _ _ | refine below_drew ?_ | refine pw_below_drewN ?_ _ | refine below_alloc ?_ _))) (by simp) (by simp)) (Kd.C_below HC.out (by repeat (first | exact Below.refl _ _ | refine below_drew ?_ | refine pw_below_drewN ?_ _ | refine below_alloc ?_ _)))).mono ?_; rintro r W1 ⟨rfl, hb⟩; have HB1 := Aside0.mk (bl_to (Below.refl w.heap.size w) (Nat.le_refl _) (by repeat (first | exact Below.refl _ _ | refine below_drew ?_ | refine pw_below_drewN ?_ _ | refine below_alloc ?_ _)) hb); clear hb; have d0 := (HB1.out.cell (p := ⟨l, 0, none⟩) hlt).trans hl; have d1 := (HB1.out.cell (p := ⟨e.sb, 0, none⟩) hlt2).trans c0; have d2 := (HB1.out.cell (p := ⟨e.sb, 1, none⟩) hlt2).trans c1; have d3 := (HB1.out.cell (p := ⟨e.sb, 2, none⟩) hlt2).trans c2))
    go_wp2_with fail
    go_ret
    exact ⟨rfl, HB1.out⟩
end Go.Proofs.Ytfjfggnbkopocaa
