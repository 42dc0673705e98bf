/- Slots: a vote is added. -/
import Derived.Test.YtfjfggnbkopocaaE
import Derived.BigRegion
import Derived.OrdersHeld
import Derived.Deep.RegionHeld3
/- Votes. -/
set_option linter.unusedVariables false
set_option linter.unusedSimpArgs false
namespace Go.Proofs.Ytfjfggnbkopocaa
open Go.RowKit Go.Proofs.YtfjfggnbkopocaaW.PrintWords
attribute [local go_sem] ptr

set_option maxHeartbeats 1000000 in
theorem Count_any (b : Nat) (f : Int) (V : Votes) (A : Option Addr) (c : Nat) (bs : List Int) (w : World) (hV : VotesAt w b f V) (hw : kB.C w A bs.length bs) :
    Calls Try.prog 29 #[ptr b, .slice A bs.length c] w fun e w' => e = .returned (.int .i64 ((hits V (strOfNums bs)).length : Nat)) ∧ Below w.heap.size w w' := by
  have h0 := all_any b f V A c bs w hV hw
  have HL := Aside0.mk (hitsTo_len V (strOfNums bs) 13)
  clear hV hw
  go_enter Try.func29, Try.ntmps29
  go_wp2_with fail
  refine h0.mono ?_
  rintro e w1 ⟨v, rfl, hr, hf, hb⟩
  have HB := Aside0.mk hb
  obtain ⟨A1, c1, rfl⟩ := Kd.R_slice hr
  clear hr hf hb h0
  go_wp2_with fail
  go_ret
  exact ⟨rfl, HB.out⟩

theorem quiet_drawn {P : Program} {f : FuncId} {args : Array Value} {w : World} {a n : Nat} {v : Value}
    (h : Calls P f args (w.drewN (a + n)) fun e w' => e = .returned v ∧ Drawn0 (w.drewN (a + n)) w') :
    Calls P f args (w.drewN (a + n)) fun e w'' => e = .returned v ∧ ∃ m, w'' = w.drewN (a + m) :=
  h.mono fun _ _ ⟨he, m, hm⟩ => ⟨he, n + m, by rw [hm, World.drewN_drewN, Nat.add_assoc]⟩
theorem quiet1 {P : Program} {f : FuncId} {args : Array Value} {w : World} {n : Nat} {v : Value}
    (h : Calls P f args (w.drewN n) fun e w' => e = .returned v ∧ Drawn0 (w.drewN n) w') :
    Calls P f args (w.drewN n) fun e w'' => e = .returned v ∧ ∃ m, w'' = w.drewN m :=
  h.mono fun _ _ ⟨he, m, hm⟩ => ⟨he, n + m, by rw [hm, World.drewN_drewN]⟩
theorem bl_to {B : Nat} {a X W w2 : World} (h : Below B a X) (hB : B ≤ a.heap.size) (hw : Below X.heap.size X W) (hb : Below W.heap.size W w2) : Below B a w2 := h.trans ((hw.trans (hb.mono hw.size)).mono (Nat.le_trans hB h.size))
theorem blk_setCell {w : World} {g t : Nat} {fz : Nat × Nat} {cs : Array Value} (h : w.heap[g]? = some (.cells cs t fz)) (j : Nat) (u : Value) : (w.setCell ⟨g, j, none⟩ u).heap[g]? = some (.cells (cs.setIfInBounds j u) t fz) := by
  simp [World.setCell, Array.getElem?_modify, h]
theorem fr_set {b : Nat} {w W : World} (h : Fr [b] w W) (j : Nat) (u : Value) : Fr [b] w (W.setCell ⟨b, j, none⟩ u) := h.trans (Fr.set (F := [b]) ⟨b, j, none⟩ (by simp) u) (by simp)
theorem fr_drew {F : List Nat} {w W : World} (h : Fr F w W) : Fr F w W.drew := ⟨h.os, h.tape, h.output, h.size, h.block⟩
/-- A text in a box of its own, its rows made by this call. -/
structure Boxed (w0 wx : World) (B g : Nat) (x : Sig) : Prop where
  box : ∃ v1 v2, wx.heap[g]? = some (.cells #[.int .u64 x.from_, v1, v2] 46 (0, 0)) ∧ kB.R 5 wx 0 tr v1 x.b ∧ kB.R 5 wx 0 tr v2 x.tag
  below : Below B w0 wx
theorem keepG {w w1 : World} {g : Nat} {a0 a1 a2 : Value} (h : w.heap[g]? = some (.cells #[a0, a1, a2] 46 (0, 0))) (hb : Below w.heap.size w w1) : w1.cell? ⟨g, 1, none⟩ = some a1 ∧ w1.cell? ⟨g, 2, none⟩ = some a2 := by
  have h1 := blk_below h hb
  exact ⟨(blk_cell h1 1).trans rfl, (blk_cell h1 2).trans rfl⟩
/-- One more vote. -/
def addV (V : Votes) (k : Nat) (x : Vote) : Votes := fun i => if i = k then some x else V i
theorem addV_at {w w' : World} {b : Nat} {f : Int} {V : Votes} {cs : Array Value} (hsz : cs.size = 66) (hc0 : cs[0]? = some (.int .i64 f))
    (hrs : ∀ i, i < 13 → cs[1 + i]? = some (.bool (V i).isSome) ∧ ∀ v, V i = some v → (∃ c0 c1 c2, cs[14 + i * 3]? = some c0 ∧ cs[14 + i * 3 + 1]? = some c1 ∧ cs[14 + i * 3 + 2]? = some c2 ∧ kS.M w 0 tr v.sig [c0, c1, c2]) ∧ cs[53 + i]? = some (.string v.word))
    (hF : Fr [b] w w') (hm : Mut w b) {k : Nat} (hk : k < 13) {x : Sig} {d1 d2 : Value} {s : ByteArray} (hM : kS.M w' 0 tr x [.int .u64 x.from_, d1, d2])
    (hb : w'.heap[b]? = some (.cells (((((cs.setIfInBounds (1 + k) (.bool true)).setIfInBounds (14 + k * 3) (.int .u64 x.from_)).setIfInBounds (14 + k * 3 + 1) d1).setIfInBounds (14 + k * 3 + 2) d2).setIfInBounds (53 + k) (.string s)) 93 (0, 0))) :
    VotesAt w' b f (addV V k ⟨x, s⟩) := by
  refine ⟨_, hb, by simp [hsz], ?_, fun i hi => ⟨?_, fun v hv => ?_⟩⟩
  · simp only [Array.getElem?_setIfInBounds]
    rw [if_neg (by omega), if_neg (by omega), if_neg (by omega), if_neg (by omega), if_neg (by omega), hc0]
  · simp only [Array.getElem?_setIfInBounds, Array.size_setIfInBounds, hsz]
    rw [if_neg (by omega), if_neg (by omega), if_neg (by omega), if_neg (by omega)]
    unfold addV
    by_cases hik : i = k
    · subst hik
      rw [if_pos rfl, if_pos (by omega), if_pos rfl]
      rfl
    · rw [if_neg (by omega), if_neg hik, (hrs i hi).1]
  · unfold addV at hv
    by_cases hik : i = k
    · subst hik
      rw [if_pos rfl] at hv
      obtain rfl := Option.some.inj hv
      refine ⟨⟨_, _, _, ?_, ?_, ?_, hM⟩, ?_⟩
      · simp only [Array.getElem?_setIfInBounds, Array.size_setIfInBounds, hsz]
        rw [if_neg (by omega), if_neg (by omega), if_neg (by omega), if_pos True.intro, if_pos (by omega)]
      · simp only [Array.getElem?_setIfInBounds, Array.size_setIfInBounds, hsz]
        rw [if_neg (by omega), if_neg (by omega), if_pos True.intro, if_pos (by omega)]
      · simp only [Array.getElem?_setIfInBounds, Array.size_setIfInBounds, hsz]
        rw [if_neg (by omega), if_pos True.intro, if_pos (by omega)]
      · simp only [Array.getElem?_setIfInBounds, Array.size_setIfInBounds, hsz]
        rw [if_pos True.intro, if_pos (by omega)]
    · rw [if_neg hik] at hv
      obtain ⟨⟨c0, c1, c2, e0, e1, e2, hM0⟩, hw⟩ := (hrs i hi).2 v hv
      refine ⟨⟨c0, c1, c2, ?_, ?_, ?_, M_fr hM0 hF (fun x hx => by rw [List.mem_singleton.1 hx]; exact hm) kS_typesM⟩, ?_⟩
      · simp only [Array.getElem?_setIfInBounds, Array.size_setIfInBounds, hsz]
        rw [if_neg (by omega), if_neg (by omega), if_neg (by omega), if_neg (by omega), if_neg (by omega), e0]
      · simp only [Array.getElem?_setIfInBounds, Array.size_setIfInBounds, hsz]
        rw [if_neg (by omega), if_neg (by omega), if_neg (by omega), if_neg (by omega), if_neg (by omega), e1]
      · simp only [Array.getElem?_setIfInBounds, Array.size_setIfInBounds, hsz]
        rw [if_neg (by omega), if_neg (by omega), if_neg (by omega), if_neg (by omega), if_neg (by omega), e2]
      · simp only [Array.getElem?_setIfInBounds, Array.size_setIfInBounds, hsz]
        rw [if_neg (by omega), if_neg (by omega), if_neg (by omega), if_neg (by omega), if_neg (by omega), hw]
theorem fr_sets {b : Nat} {w : World} (j0 j1 j2 j3 j4 : Nat) (u0 u1 u2 u3 u4 : Value) : Fr [b] w (((((w.setCell ⟨b, j0, none⟩ u0).setCell ⟨b, j1, none⟩ u1).setCell ⟨b, j2, none⟩ u2).setCell ⟨b, j3, none⟩ u3).setCell ⟨b, j4, none⟩ u4).drew :=
  fr_drew (fr_set (fr_set (fr_set (fr_set (fr_set (Fr.refl _ _) _ _) _ _) _ _) _ _) _ _)
set_option maxHeartbeats 4000000 in
set_option maxRecDepth 100000 in
theorem Add_ok {f : Int} (h1 : 1 ≤ f) (h4 : f ≤ 4) (b : Nat) (V : Votes) (x : Sig) (A1 A2 A : Option Addr) (c1 c2 c : Nat) (bs : List Int) (w : World) (hV : VotesAt w b f V)
    (r1 : kB.C w A1 x.b.length x.b) (r2 : kB.C w A2 x.tag.length x.tag) (l1 : x.b.length ≤ 1000000) (l2 : x.tag.length ≤ 1000000) (hw : ∀ w', Fr [b] w w' → kB.C w' A bs.length bs)
    (k : Nat) (hk : x.from_ = (k : Int) + 1) (hk2 : (k : Int) < 3 * f + 1) (hn : V k = none) :
    Calls Try.prog 40 #[ptr b, .agg #[.int .u64 x.from_, .slice A1 x.b.length c1, .slice A2 x.tag.length c2], .slice A bs.length c] w fun e w' => e = .returned (.int .i64 0) ∧ VotesAt w' b f (addV V k ⟨x, strOfNums bs⟩) ∧ Fr [b] w w' := by
  have HV := Aside0.mk hV
  have HW := Aside0.mk hw
  have R1 := Aside0.mk r1
  have R2 := Aside0.mk r2
  have HF := Aside0.mk (And.intro h1 h4)
  have e0 : (x.from_ == 0) = false := beq_eq_false_iff_ne.2 (by omega)
  have HK := Aside0.mk hk
  have HK2 := Aside0.mk hk2
  have HN := Aside0.mk hn
  have L1 := Aside0.mk l1
  have L2 := Aside0.mk l2
  have hf : w.cell? ⟨b, 0, none⟩ = some (.int .i64 f) := by
    obtain ⟨cs, hb, _, hc, _⟩ := hV
    rw [blk_cell hb, hc]
  have e1 : IntKind.u64.wrap (3 * f + 1) = 3 * f + 1 := u64 (by omega)
  have e2 : decide (x.from_ > 3 * f + 1) = false := df (by omega)
  have hblt := hV.mut.lt
  clear hV hw r1 r2 h1 h4 hk hk2 hn l1 l2
  go_enter Try.func40, Try.ntmps40
  go_wp2_with fail
  obtain ⟨g, hg⟩ : ∃ g, w.heap.size = g := ⟨_, rfl⟩
  have HG := Aside0.mk hg
  have HX : Aside0 ((w.alloc (.cells #[.int .u64 x.from_, .slice A1 x.b.length c1, .slice A2 x.tag.length c2] 46)).heap[g]? = some (.cells #[.int .u64 x.from_, .slice A1 x.b.length c1, .slice A2 x.tag.length c2] 46 (0, 0))) := ⟨by rw [← hg]; exact heap_alloc_new w _⟩
  have HB : Aside0 (Below w.heap.size w (w.alloc (.cells #[.int .u64 x.from_, .slice A1 x.b.length c1, .slice A2 x.tag.length c2] 46))) := ⟨below_alloc (Below.refl _ _) _⟩
  have hf1 := (HB.out.cell (p := ⟨b, 0, none⟩) hblt).trans hf
  rw [hg]
  generalize w.alloc (.cells #[.int .u64 x.from_, .slice A1 x.b.length c1, .slice A2 x.tag.length c2] 46) = w1 at HX HB hf1 ⊢
  have g0 : w1.cell? ⟨g, 0, none⟩ = some (.int .u64 x.from_) := (blk_cell HX.out 0).trans rfl
  have g1 : w1.cell? ⟨g, 1, none⟩ = some (.slice A1 x.b.length c1) := (blk_cell HX.out 1).trans rfl
  have g2 : w1.cell? ⟨g, 2, none⟩ = some (.slice A2 x.tag.length c2) := (blk_cell HX.out 2).trans rfl
  clear hf hg
  go_quiet ((go_at_call 26; exact quiet1 (N_any HF.out.1 HF.out.2 _)))
  generalize nq = n1
  have hk13 : k < 13 := by
    have := HK2.out
    have := HF.out
    omega
  have e3 : IntKind.u64.wrap (x.from_ - 1) = (k : Int) := by
    rw [HK.out, show ((k : Int) + 1 - 1) = k by omega]
    exact u64 (by omega)
  have HV1 : Aside0 (VotesAt w1 b f V) := ⟨HV.out.fr (Fr.of_below (F := []) HB.out) (by simp) (by simp)⟩
  have hvo : w1.cell? ⟨b, 1 + k, none⟩ = some (.bool false) := by
    obtain ⟨cs, hb, _, _, hr⟩ := HV1.out
    rw [blk_cell hb, (hr k hk13).1, HN.out]
    rfl
  have b1 : (k : Int) < 13 := by omega
  go_wp2_with fail
  go_quiet (fail)
  go_wp2_with fail
  have HX2 : Aside0 (((w1.drewN n1).drewN nq).heap[g]? = some (.cells #[.int .u64 x.from_, .slice A1 x.b.length c1, .slice A2 x.tag.length c2] 46 (0, 0))) := ⟨HX.out⟩
  have HB2 : Aside0 (Below w.heap.size w ((w1.drewN n1).drewN nq)) := ⟨pw_below_drewN (pw_below_drewN HB.out n1) nq⟩
  have k1 : ((w1.drewN n1).drewN nq).cell? ⟨g, 1, none⟩ = some (.slice A1 x.b.length c1) := g1
  have k2 : ((w1.drewN n1).drewN nq).cell? ⟨g, 2, none⟩ = some (.slice A2 x.tag.length c2) := g2
  clear g0 g1 g2 hf1 hvo
  generalize (w1.drewN n1).drewN nq = w2 at HX2 HB2 k1 k2 ⊢
  clear HX HB HV1
  go_cut [36] (fun v36 wx => Aside0 (Boxed w wx w.heap.size g x))
  case first =>
    go_region_with
      (first
        | (go_at_call_of 31 (Value.slice A1 x.b.length c1); refine (clone_any A1 c1 x.b _ (Kd.C_below R1.out (bl_to HB2.out (Nat.le_refl _) (by repeat (first | exact Below.refl _ _ | refine below_drew ?_ | refine pw_below_drewN ?_ _ | refine below_alloc ?_ _)) (Below.refl _ _))) L1.out).mono ?_; rintro e W1 ⟨v1, rfl, hr, hb⟩; have HB3 := Aside0.mk (bl_to HB2.out (Nat.le_refl _) (by repeat (first | exact Below.refl _ _ | refine below_drew ?_ | refine pw_below_drewN ?_ _ | refine below_alloc ?_ _)) hb); have HY1 := Aside0.mk (blk_below HX2.out (bl_to (Below.refl w2.heap.size w2) (Nat.le_refl _) (by repeat (first | exact Below.refl _ _ | refine below_drew ?_ | refine pw_below_drewN ?_ _ | refine below_alloc ?_ _)) hb)); have HR1 := Aside0.mk (Kd.R_lower hr (Nat.zero_le _)); obtain ⟨y1, y2⟩ := keepG HY1.out (Below.refl _ _); clear hr hb; obtain ⟨B1, m1, q1⟩ := Kd.R_slice HR1.out; subst q1)
        | (go_at_call_of 31 (Value.slice A2 x.tag.length c2); refine (clone_any A2 c2 x.tag _ (Kd.C_below R2.out (bl_to HB3.out (Nat.le_refl _) (by repeat (first | exact Below.refl _ _ | refine below_drew ?_ | refine pw_below_drewN ?_ _ | refine below_alloc ?_ _)) (Below.refl _ _))) L2.out).mono ?_; rintro e W2 ⟨v2, rfl, hr, hb⟩; have HB4 := Aside0.mk (bl_to HB3.out (Nat.le_refl _) (by repeat (first | exact Below.refl _ _ | refine below_drew ?_ | refine pw_below_drewN ?_ _ | refine below_alloc ?_ _)) hb); have HY2 := Aside0.mk (blk_below HY1.out (bl_to (Below.refl W1.heap.size W1) (Nat.le_refl _) (by repeat (first | exact Below.refl _ _ | refine below_drew ?_ | refine pw_below_drewN ?_ _ | refine below_alloc ?_ _)) hb)); have HR3 := Aside0.mk (Kd.R_below HR1.out (bl_to (Below.refl W1.heap.size W1) (Nat.le_refl _) (by repeat (first | exact Below.refl _ _ | refine below_drew ?_ | refine pw_below_drewN ?_ _ | refine below_alloc ?_ _)) hb)); have HR2 := Aside0.mk (Kd.R_lower hr (Nat.zero_le _)); obtain ⟨z1, z2⟩ := keepG HY2.out (Below.refl _ _); have z3 := blk_frozen HY2.out 1; have z4 := blk_frozen HY2.out 2; clear hr hb; obtain ⟨B2, m2, q2⟩ := Kd.R_slice HR2.out; subst q2))
    all_goals (
      go_wp2_with fail
      go_meet
      have q1 := blk_setCell HY2.out 1 (.slice B1 x.b.length m1)
      have q2 := blk_setCell q1 2 (.slice B2 x.tag.length m2)
      exact ⟨⟨⟨_, _, q2, Kd.R_set (Kd.R_set HR3.out HY2.out (by decide) 1 _) q1 (by decide) 2 _, Kd.R_set (Kd.R_set HR2.out HY2.out (by decide) 1 _) q1 (by decide) 2 _⟩, (HB4.out.setCell (by have := HG.out; simp; omega) _).setCell (by have := HG.out; simp; omega) _⟩⟩)
  case rest =>
    obtain ⟨v1, v2, HX3, HQ1, HQ2⟩ := hcut.out.box
    have HB5 := Aside0.mk hcut.out.below
    have HX5 := Aside0.mk HX3
    have HM5 : Aside0 (kS.M wc 0 tr x [.int .u64 x.from_, v1, v2]) := ⟨kS_mkM HQ1 HQ2⟩
    obtain ⟨D1, m1, q1⟩ := Kd.R_slice HQ1
    obtain ⟨D2, m2, q2⟩ := Kd.R_slice HQ2
    subst q1 q2
    clear HX3 HQ1 HQ2 hcut k1 k2 HX2 HB2
    have HF5 : Aside0 (Fr [b] w wc) := ⟨Fr.mono (F := []) (Fr.of_below HB5.out) (by simp)⟩
    have c0 : wc.cell? ⟨g, 0, none⟩ = some (.int .u64 x.from_) := (blk_cell HX5.out 0).trans rfl
    have c1' : wc.cell? ⟨g, 1, none⟩ = some (.slice D1 x.b.length m1) := (blk_cell HX5.out 1).trans rfl
    have c2' : wc.cell? ⟨g, 2, none⟩ = some (.slice D2 x.tag.length m2) := (blk_cell HX5.out 2).trans rfl
    have HCV : Aside0 (∀ W, Fr [b] w W → (convert 31 9 (.slice A bs.length c)).run Try.prog W = .ok (.string (strOfNums bs)) W) := ⟨fun W hW => Kd.C_string Try.underlying31 Try.underlying5 Try.underlying9 (HW.out _ hW)⟩
    have HV5 : Aside0 (VotesAt wc b f V) := ⟨HV.out.fr (Fr.of_below (F := []) HB5.out) (by simp) (by simp)⟩
    obtain ⟨cs, hcs, hsz, hc0, hrest⟩ := HV5.out
    have hcell : ∀ j, j < 66 → ∃ u, wc.cell? ⟨b, j, none⟩ = some u := fun j hj => ⟨cs[j]'(by omega), by rw [blk_cell hcs, Array.getElem?_eq_getElem]⟩
    obtain ⟨u0, d0⟩ := hcell (1 + k) (by omega)
    obtain ⟨u1, d1⟩ := hcell (14 + k * 3) (by omega)
    obtain ⟨u2, d2⟩ := hcell (14 + k * 3 + 1) (by omega)
    obtain ⟨u3, d3⟩ := hcell (14 + k * 3 + 2) (by omega)
    obtain ⟨u4', d4⟩ := hcell (53 + k) (by omega)
    have z0 := blk_frozen hcs (1 + k)
    have z1 := blk_frozen hcs (14 + k * 3)
    have z2 := blk_frozen hcs (14 + k * 3 + 1)
    have z3 := blk_frozen hcs (14 + k * 3 + 2)
    have z4 := blk_frozen hcs (53 + k)
    have HCS := Aside0.mk hcs
    have HSZ := Aside0.mk hsz
    have HC0 := Aside0.mk hc0
    have HRS := Aside0.mk hrest
    have hbg : b ≠ g := by have := HG.out; omega
    have hgb : g ≠ b := by omega
    clear hcs hsz hc0 hrest hcell
    go_wp2_with fail
    go_region_held3 (fun w' => w'.cell? ⟨g, 0, none⟩ = some (.int .u64 x.from_) ∧ w'.cell? ⟨g, 1, none⟩ = some (.slice D1 x.b.length m1) ∧ w'.cell? ⟨g, 2, none⟩ = some (.slice D2 x.tag.length m2) ∧ (convert 31 9 (.slice A bs.length c)).run Try.prog w' = .ok (.string (strOfNums bs)) w')
      ((refine ⟨?_, ?_, ?_, HCV.out _ ?_⟩; go_keep; go_keep; go_keep; repeat (first | exact HF5.out | refine fr_drew ?_ | refine fr_set ?_ _ _)))
      (fail)
    go_wp2_with fail
    go_ret
    have hmb : ∀ x ∈ [b], Mut wc x := fun x hx => by rw [List.mem_singleton.1 hx]; exact HV5.out.mut
    have hfs := fr_sets (b := b) (w := wc) (1 + k) (14 + k * 3) (14 + k * 3 + 1) (14 + k * 3 + 2) (53 + k) (.bool true) (.int .u64 x.from_) (.slice D1 x.b.length m1) (.slice D2 x.tag.length m2) (.string (strOfNums bs))
    refine ⟨rfl, addV_at HSZ.out HC0.out HRS.out hfs HV5.out.mut hk13 (M_fr HM5.out hfs hmb kS_typesM) ?_, HF5.out.trans hfs (by simp)⟩
    exact blk_setCell (blk_setCell (blk_setCell (blk_setCell (blk_setCell HCS.out _ _) _ _) _ _) _ _) _ _
end Go.Proofs.Ytfjfggnbkopocaa
