/- Slots: a slot is settled: a certificate. -/
import Derived.Test.YtfjfggnbkopocaaM
/- settle. -/
set_option linter.unusedVariables false
set_option linter.unusedSimpArgs false
namespace Go.Proofs.Ytfjfggnbkopocaa
open Go.RowKit Go.Proofs.YtfjfggnbkopocaaW.PrintWords
attribute [local go_sem] ptr

theorem Proof_z (b : Nat) (f : Int) (V : Votes) (A : Option Addr) (c : Nat) (bs : List Int) (n : Nat) (z : Int) (hz : z = (n : Int)) (w : World) (hV : VotesAt w b f V) (hw : kB.C w A bs.length bs) (hk : okV V) (hn : 1 ≤ n) (hle : n ≤ (hits V (strOfNums bs)).length) :
    Calls Try.prog 50 #[ptr b, .slice A bs.length c, .int .i64 z] w fun e w' => ∃ v, e = .returned v ∧ kS.R 46 w' 0 tr v ((hits V (strOfNums bs)).take n) ∧ From w.heap.size v ∧ Below w.heap.size w w' := by
  subst hz
  exact Proof_ok b f V A c bs n w hV hw hk hn hle
/-- The texts of a certificate. -/
def certTexts (f : Int) (s : SlotM) (g : Sig) : List Sig := [g] ++ (hits s.prep (strOfNums s.sum)).take (2 * f).toNat
theorem fr_ret {w w' : World} (h : Below w.heap.size w w') {p : Addr} {v : Value} (hc : w.cell? p = some v) : w'.cell? p = some v := (h.cell (World.block_lt_of_cell? w _ hc)).trans hc
/-- A row of one text. -/
theorem litS {X : World} {g : Sig} {u1 u2 : Value} (hM : kS.M X 0 tr g [.int .u64 g.from_, u1, u2]) : kS.R 46 (X.alloc (.cells #[.int .u64 g.from_, u1, u2] 46)) 0 tr (.slice (some ⟨X.heap.size, 0, none⟩) 1 1) [g] := by
  have hM2 : kS.M (X.alloc (.cells #[.int .u64 g.from_, u1, u2] 46)) 0 (fun k => tr k ∧ some k ≠ (Value.slice (some ⟨X.heap.size, 0, none⟩) 1 1).ownBlock) g [.int .u64 g.from_, u1, u2] :=
    kS.M_mono (fun k hk => ⟨trivial, fun e => by
      have e2 : some k = some X.heap.size := e
      injection e2 with e2
      exact absurd hk.2.2.1 (by omega)⟩) (Kd.M_below (kS.M_bound hM) (below_alloc (Below.refl _ _) _))
  have hr : Reps (kS.M (X.alloc (.cells #[.int .u64 g.from_, u1, u2] 46)) 0 (fun k => tr k ∧ some k ≠ (Value.slice (some ⟨X.heap.size, 0, none⟩) 1 1).ownBlock)) kS.sz [g] [.int .u64 g.from_, u1, u2] := by
    refine ⟨rfl, fun j p hj => ?_⟩
    match j, hj with
    | 0, hj =>
      obtain rfl := Option.some.inj hj
      exact hM2
  exact ⟨fun _ _ => trivial, OwnRow.lit X 0 hr (Nat.zero_le _) (by simp)⟩
theorem appS {W : World} {V : Value} {xs ys : List Sig} {A : Option Addr} {n c : Nat} (hV : kS.R 46 W 0 tr V xs) (hY : kS.R 46 W 0 tr (.slice A n c) ys) : ReadsRow (kS.M W 0 (fun k => True ∧ some k ≠ V.ownBlock)) kS.sz W A n ys := by
  obtain ⟨_, hO⟩ := hY
  obtain ⟨A', c', he, _, hrow⟩ := OwnRow.reads hO
  injection he with e1 e2 e3
  subst e1 e2 e3
  exact ReadsRow.imp_ hrow (Below.refl _ _) (fun p c hp => M_apart hV (kS.M_mono (fun _ _ => trivial) hp))
theorem from_blk {B b n c : Nat} (h : B ≤ b) : From B (.slice (some ⟨b, 0, none⟩) n c) := fun k hk => by
  have : b = k := by simpa [Value.ownBlock] using hk
  omega
theorem cell_after {W : World} {b j s i : Nat} {v : Value} (h : W.cell? ⟨b, j, none⟩ = some v) (hne : b ≠ s ∨ j ≠ i) (u : Value) (o : Obj) : ((W.setCell ⟨s, i, none⟩ u).alloc o).cell? ⟨b, j, none⟩ = some v := by
  have hlt : b < (W.setCell ⟨s, i, none⟩ u).heap.size := by
    have := World.block_lt_of_cell? W _ h
    simp [World.setCell]
    exact this
  refine ((below_alloc (Below.refl _ _) o).cell (p := ⟨b, j, none⟩) hlt).trans ?_
  rw [World.cell?_setCell_other _ _ _ _ (by
    intro e
    injection e with e1 e2
    omega)]
  exact h
set_option maxHeartbeats 4000000 in
set_option maxRecDepth 100000 in
theorem settle_yes {w : World} {l m : Nat} {f low view : Int} {a b : List Ent} {e : Ent} (h : LogAt w l m f low view (a ++ e :: b)) (h1 : 1 ≤ f) (h4 : f ≤ 4) (hok : okV e.s.prep) (hn : (prepB f e.s && !certB view e.s) = true) (g : Sig) (hg : e.s.pre = some g) :
    Calls Try.prog 39 #[ptr l, ptr e.sb] w fun r w' => r = .returned (.tuple #[]) ∧ LogAt w' l m f low view (a ++ { e with s := { e.s with cert := some ⟨view, e.s.sum, certTexts f e.s g⟩ } } :: b) ∧ Fr [e.sb] w w' := by
  obtain ⟨l0, l1, l2, l3, _⟩ := h.cells
  have hs := h.slots e (by simp)
  have HS := Aside0.mk hs
  have HL := Aside0.mk h
  obtain ⟨vp, vs, vc, c0, c1, c2, c3, c4, _, hp, hs1, hc, hv, hv2, hb⟩ := hs.cells
  have HPre := Aside0.mk hp
  have HV2 := Aside0.mk hv2
  have HF := Aside0.mk (And.intro h1 h4)
  rw [Bool.and_eq_true] at hn
  obtain ⟨hpB, hcB⟩ := hn
  have HP : ∀ i : Bl w, Calls Try.prog 28 #[.pointer (some ⟨l, 0, none⟩), .pointer (some ⟨e.sb, 0, none⟩)] i.1 fun r w' => r = .returned (.bool true) ∧ ∃ j : Bl w, w' = j.1 := fun i => by
    have h5 := prepared_any h1 h4 (bl_cell l0 i) (hs.fr (Fr.of_below (F := []) i.2) (by simp) (by simp))
    rw [hpB] at h5
    exact bl_call h5
  have HPB := Aside0.mk hpB
  have HOK := Aside0.mk hok
  rw [hg] at hp
  obtain ⟨gp, cs, hvp, hgp, hM⟩ := hp
  subst hvp
  obtain ⟨u1, u2, hcs, _, _⟩ := kS_openM hM
  have p0 : w.cell? ⟨gp, 0, none⟩ = some (.int .u64 g.from_) := by rw [blk_cell hgp, ← Array.getElem?_toList, hcs]; rfl
  have p1 : w.cell? ⟨gp, 1, none⟩ = some u1 := by rw [blk_cell hgp, ← Array.getElem?_toList, hcs]; rfl
  have p2 : w.cell? ⟨gp, 2, none⟩ = some u2 := by rw [blk_cell hgp, ← Array.getElem?_toList, hcs]; rfl
  rw [hcs] at hM
  have HM := Aside0.mk hM
  have HR1 := Aside0.mk hs1
  obtain ⟨A, n1, rfl, hln, hC⟩ := Kd.R_reads hs1
  have HC := Aside0.mk hC
  have HV := Aside0.mk hv
  have HB := Aside0.mk hb
  have HCE := Aside0.mk hc
  have HCB := Aside0.mk hcB
  have C0 := Aside0.mk c0
  have C1 := Aside0.mk c1
  have C2 := Aside0.mk c2
  have C4 := Aside0.mk c4
  have P0 := Aside0.mk p0
  have P1 := Aside0.mk p1
  have P2 := Aside0.mk p2
  have L0 := Aside0.mk l0
  have L2 := Aside0.mk l2
  have HPT := Aside0.mk hgp
  clear h hs hb hs1 hv hv2 h1 h4 hpB l0 l1 l2 l3 c0 c1 c2 c3 c4 p0 p1 p2 hgp hM hcs hC hln hok hg hc hcB
  go_enter Try.func39, Try.ntmps39
  go_wp2_with fail
  go_cut [28] (fun v28 wx => v28 = .bool false ∧ Aside0 (Below w.heap.size w wx))
  case first =>
    have hcB := HCB.out
    have hc := HCE.out
    unfold certB at hcB
    cases hce : e.s.cert with
    | none =>
      rw [hce] at hc
      have hv0 : vc = .pointer none := hc
      subst hv0
      have d4 := bl_cell C4.out
      clear hc hce hcB
      refine wp_region_bl (by kernel_rfl) (by kernel_rfl) ?_
      repeat (go_big_quiet_step (exact HP _))
      refine wpQuiet_nil ?_
      rintro _ ⟨⟨w1, hb1⟩, rfl⟩
      have HB1 := Aside0.mk hb1
      clear hb1
      go_wp2_with fail
      go_meet
      exact ⟨rfl, HB1⟩
    | some ce =>
      rw [hce] at hcB hc
      obtain ⟨gc, us, ut, rfl, hgc, _, _⟩ := hc
      have m0 : w.cell? ⟨gc, 0, none⟩ = some (.int .u64 ce.view) := (blk_cell hgc 0).trans rfl
      have d0 := bl_cell m0
      have d2 := bl_cell L2.out
      have d4 := bl_cell C4.out
      have hge : decide (ce.view ≥ view) = false := by simpa using hcB
      clear hcB hce hgc m0
      refine wp_region_bl (by kernel_rfl) (by kernel_rfl) ?_
      repeat (go_big_quiet_step (exact HP _))
      refine wpQuiet_nil ?_
      rintro _ ⟨⟨w1, hb1⟩, rfl⟩
      have HB1 := Aside0.mk hb1
      clear hb1
      go_wp2_with fail
      go_meet
      exact ⟨rfl, HB1⟩
  case rest =>
    obtain ⟨rfl, HB1⟩ := hcut
    have l0 := fr_ret HB1.out L0.out
    have l2 := fr_ret HB1.out L2.out
    have c0 := fr_ret HB1.out C0.out
    have c1 := fr_ret HB1.out C1.out
    have c2 := fr_ret HB1.out C2.out
    have p0 := fr_ret HB1.out P0.out
    have p1 := fr_ret HB1.out P1.out
    have p2 := fr_ret HB1.out P2.out
    have e1 : IntKind.i64.wrap (2 * f) = 2 * f := IntWalk.i64_in _ (by have := HF.out; omega)
    have HKS : Aside0 (∀ W, Below wc.heap.size wc W → W.cell? ⟨l, 0, none⟩ = some (.int .i64 f) ∧ W.cell? ⟨l, 2, none⟩ = some (.int .u64 view) ∧ W.cell? ⟨e.sb, 0, none⟩ = some (ptr gp) ∧ W.cell? ⟨e.sb, 1, none⟩ = some (.slice A e.s.sum.length n1) ∧ W.cell? ⟨e.sb, 2, none⟩ = some (ptr e.pb) ∧ W.cell? ⟨gp, 0, none⟩ = some (.int .u64 g.from_) ∧ W.cell? ⟨gp, 1, none⟩ = some u1 ∧ W.cell? ⟨gp, 2, none⟩ = some u2) := ⟨fun W hW => ⟨fr_ret hW l0, fr_ret hW l2, fr_ret hW c0, fr_ret hW c1, fr_ret hW c2, fr_ret hW p0, fr_ret hW p1, fr_ret hW p2⟩⟩
    have HKA : Aside0 (∀ W, Below wc.heap.size wc W → ∀ (u : Value) (o : Obj), ((W.setCell ⟨e.sb, 4, none⟩ u).alloc o).cell? ⟨l, 0, none⟩ = some (.int .i64 f) ∧ ((W.setCell ⟨e.sb, 4, none⟩ u).alloc o).cell? ⟨l, 2, none⟩ = some (.int .u64 view) ∧ ((W.setCell ⟨e.sb, 4, none⟩ u).alloc o).cell? ⟨e.sb, 0, none⟩ = some (ptr gp) ∧ ((W.setCell ⟨e.sb, 4, none⟩ u).alloc o).cell? ⟨e.sb, 1, none⟩ = some (.slice A e.s.sum.length n1) ∧ ((W.setCell ⟨e.sb, 4, none⟩ u).alloc o).cell? ⟨e.sb, 2, none⟩ = some (ptr e.pb) ∧ ((W.setCell ⟨e.sb, 4, none⟩ u).alloc o).cell? ⟨gp, 0, none⟩ = some (.int .u64 g.from_) ∧ ((W.setCell ⟨e.sb, 4, none⟩ u).alloc o).cell? ⟨gp, 1, none⟩ = some u1 ∧ ((W.setCell ⟨e.sb, 4, none⟩ u).alloc o).cell? ⟨gp, 2, none⟩ = some u2) := ⟨fun W hW u o => by
      obtain ⟨s1, s2, s3, s4, s5, s6, s7, s8⟩ := HKS.out W hW
      exact ⟨cell_after s1 (.inr (by omega)) u o, cell_after s2 (.inr (by omega)) u o, cell_after s3 (.inr (by omega)) u o, cell_after s4 (.inr (by omega)) u o, cell_after s5 (.inr (by omega)) u o, cell_after s6 (.inr (by omega)) u o, cell_after s7 (.inr (by omega)) u o, cell_after s8 (.inr (by omega)) u o⟩⟩
    have HVc : Aside0 (VotesAt wc e.pb f e.s.prep) := ⟨HV.out.fr (Fr.of_below (F := []) HB1.out) (by simp) (by simp)⟩
    have HCc : Aside0 (kB.C wc A e.s.sum.length e.s.sum) := ⟨Kd.C_below HC.out HB1.out⟩
    have HFz : Aside0 (2 * f = ((2 * f).toNat : Int) ∧ 1 ≤ (2 * f).toNat ∧ (2 * f).toNat ≤ (hits e.s.prep (strOfNums e.s.sum)).length) := ⟨by
      have a1 := HF.out
      have a2 := HPB.out
      unfold prepB at a2
      rw [Bool.and_eq_true, decide_eq_true_eq] at a2
      omega⟩
    have HMc : Aside0 (kS.M wc 0 tr g [.int .u64 g.from_, u1, u2]) := ⟨Kd.M_below HM.out HB1.out⟩
    obtain ⟨T, hT⟩ : ∃ T, (hits e.s.prep (strOfNums e.s.sum)).take (2 * f).toNat = T := ⟨_, rfl⟩
    have HT := Aside0.mk hT
    have HLn : Aside0 ((1 + T.length) * 56 ≤ 140737488355328) := ⟨by
      have a1 := hitsTo_len e.s.prep (strOfNums e.s.sum) 13
      rw [← hT, List.length_take]
      unfold hits
      omega⟩
    have HPr : Aside0 (∀ W, Below wc.heap.size wc W → Calls Try.prog 50 #[.pointer (some ⟨e.pb, 0, none⟩), .slice A e.s.sum.length n1, .int .i64 (2 * f)] W fun r w' => ∃ v, r = .returned v ∧ kS.R 46 w' 0 tr v T ∧ From W.heap.size v ∧ Below W.heap.size W w') := ⟨fun W hW => by
      rw [← hT]
      exact Proof_z e.pb f e.s.prep A n1 e.s.sum (2 * f).toNat (2 * f) HFz.out.1 W (HVc.out.fr (Fr.of_below (F := []) hW) (by simp) (by simp)) (Kd.C_below HCc.out hW) HOK.out HFz.out.2.1 HFz.out.2.2⟩
    clear hT
    have n1' : l ≠ e.sb := by
      have := (nodup_apart HL.out.nodup).1 e.sb (by simp [blks])
      omega
    have n2' : gp ≠ e.sb := by
      intro e0
      have h5 := (HS.out.mut e.sb (by simp [blks]))
      have h6 := HPT.out
      rw [e0] at h6
      exact h5.not h6 (by decide) (by decide) (by decide)
    have n3' : e.sb ≠ l := fun h => n1' h.symm
    have n4' : e.sb ≠ gp := fun h => n2' h.symm
    have hfz : wc.frozen? ⟨e.sb, 4, none⟩ = false := blk_frozen (blk_below HB.out HB1.out) 4
    have c4 := fr_ret HB1.out C4.out
    go_wp2_with fail
    go_region_held3 (fun w' => w'.cell? ⟨l, 0, none⟩ = some (.int .i64 f) ∧ w'.cell? ⟨l, 2, none⟩ = some (.int .u64 view) ∧ w'.cell? ⟨e.sb, 0, none⟩ = some (ptr gp) ∧ w'.cell? ⟨e.sb, 1, none⟩ = some (.slice A e.s.sum.length n1) ∧ w'.cell? ⟨e.sb, 2, none⟩ = some (ptr e.pb) ∧ w'.cell? ⟨gp, 0, none⟩ = some (.int .u64 g.from_) ∧ w'.cell? ⟨gp, 1, none⟩ = some u1 ∧ w'.cell? ⟨gp, 2, none⟩ = some u2)
      (first | exact HKS.out _ HB3.out | exact HKA.out _ HB3.out _ _ | exact HKS.out _ (HB3.out.alloc HB3.out.size _) | exact HKS.out _ HB2.out | exact HKS.out _ (HB2.out.alloc HB2.out.size _) | exact HKS.out _ (Below.refl _ _) | exact HKS.out _ (below_drew (Below.refl _ _)) | exact HKS.out _ (below_alloc (Below.refl _ _) _) | exact HKS.out _ (below_drew (below_alloc (Below.refl _ _) _)) | exact HKS.out _ (below_alloc (below_drew (Below.refl _ _)) _) | go_keep)
      (first
        | (go_at_call 50; refine (HPr.out _ (by (repeat (first | exact Below.refl _ _ | refine below_drew ?_ | refine pw_below_drewN ?_ _ | refine below_alloc ?_ _)); done)).mono ?_; rintro r W1 ⟨v, rfl, hr, hf, hb⟩; have HB2 := Aside0.mk (bl_to (Below.refl wc.heap.size wc) (Nat.le_refl _) (by (repeat (first | exact Below.refl _ _ | refine below_drew ?_ | refine pw_below_drewN ?_ _ | refine below_alloc ?_ _)); done) hb); have HR2 := Aside0.mk hr; obtain ⟨A3, n3, q3⟩ := Kd.R_slice hr; subst q3; (first | (have HBX := Aside0.mk (bl_to (Below.refl (wc.alloc (.cells #[.int .u64 g.from_, u1, u2] 46)).heap.size (wc.alloc (.cells #[.int .u64 g.from_, u1, u2] 46))) (Nat.le_refl _) (below_drew (Below.refl _ _)) hb)) | (have HBX := Aside0.mk hb)); clear hr hf hb; have d4 := fr_ret HB2.out c4; have dz := (HB2.out.frozen (p := ⟨e.sb, 4, none⟩) (World.block_lt_of_cell? wc _ c4)).trans hfz)
        | (refine Kd.R_append_rows_step kS (w0 := w) 0 (by rfl) (.tmp 44) (.tmp 58) 44 46 zS 56 rfl Try.underlying44 info46 rfl (by decide) (by omega) (.slice (some ⟨wc.heap.size, 0, none⟩) 1 1) [g] T A3 _ n3 tr (fun k => True ∧ some k ≠ (Value.slice (some ⟨wc.heap.size, 0, none⟩) 1 1).ownBlock) rfl rfl (Kd.R_below (litS HMc.out) HBX.out) (appS (Kd.R_below (litS HMc.out) HBX.out) HR2.out) (fun x cs h => h) (fun k hk => hk) (fun _ _ => trivial) ((HB1.out.trans (HB2.out.mono HB1.out.size)).mono (Nat.zero_le _)) (Nat.zero_le _) HLn.out ?_; intro v2 w2 ho _ hgr hat; have HO2 := Aside0.mk ho; have HB3 := Aside0.mk (below_grown HB2.out hgr HB2.out.size (from_blk (Nat.le_refl _))); obtain ⟨A4, n4, q4⟩ := Kd.R_slice ho; subst q4; clear ho hgr hat; have e4 := fr_ret HB3.out c4; have ez := (HB3.out.frozen (p := ⟨e.sb, 4, none⟩) (World.block_lt_of_cell? wc _ c4)).trans hfz; have elt := (show e.sb < w2.heap.size from Nat.lt_of_lt_of_le (World.block_lt_of_cell? wc _ c4) HB3.out.size))
        | (refine Kd.R_append_rows_step kS (w0 := w) 0 (by rfl) (.tmp 44) (.tmp 58) 44 46 zS 56 rfl Try.underlying44 info46 rfl (by decide) (by omega) (.slice (some ⟨W1.heap.size, 0, none⟩) 1 1) [g] T A3 _ n3 tr (fun k => True ∧ some k ≠ (Value.slice (some ⟨W1.heap.size, 0, none⟩) 1 1).ownBlock) rfl rfl (litS (Kd.M_below HMc.out HB2.out)) (appS (litS (Kd.M_below HMc.out HB2.out)) (Kd.R_alloc HR2.out _)) (fun x cs h => h) (fun k hk => hk) (fun _ _ => trivial) ((below_alloc (HB1.out.trans (HB2.out.mono HB1.out.size)) _).mono (Nat.zero_le _)) (Nat.zero_le _) HLn.out ?_; intro v2 w2 ho _ hgr hat; have HO2 := Aside0.mk ho; have HB3 := Aside0.mk (below_grown (HB2.out.alloc HB2.out.size _) hgr (by have := HB2.out.size; simp; omega) (from_blk HB2.out.size)); obtain ⟨A4, n4, q4⟩ := Kd.R_slice ho; subst q4; clear ho hgr hat; have e4 := fr_ret HB3.out c4; have ez := (HB3.out.frozen (p := ⟨e.sb, 4, none⟩) (World.block_lt_of_cell? wc _ c4)).trans hfz; have elt := (show e.sb < w2.heap.size from Nat.lt_of_lt_of_le (World.block_lt_of_cell? wc _ c4) HB3.out.size))
        | fail)
    all_goals (
      go_wp2_with fail
      go_end0
      have b1 : Below w.heap.size w w2 := HB1.out.trans (HB3.out.mono HB1.out.size)
      have q1 : w2.heap[e.sb]? = some (.cells #[ptr gp, .slice A e.s.sum.length n1, ptr e.pb, ptr e.cb, vc] 67 (0, 0)) := blk_below HB.out b1
      have f1 : Fr [e.sb] w w2 := Fr.of_below b1
      have f2 : Fr [e.sb] w2 (w2.setCell ⟨e.sb, 4, none⟩ (.pointer (some ⟨w2.heap.size, 0, none⟩))) := Fr.set ⟨e.sb, 4, none⟩ (by simp) _
      have f3 : Fr [e.sb] w2 ((w2.setCell ⟨e.sb, 4, none⟩ (.pointer (some ⟨w2.heap.size, 0, none⟩))).alloc (.cells #[.int .u64 view, .slice A e.s.sum.length n1, .slice A4 (T.length + 1) n4] 76)) := f2.trans (Fr.alloc (F := []) _ _) (by simp)
      have hm2 : ∀ x ∈ [e.sb], Mut w2 x := fun x hx => by rw [List.mem_singleton.1 hx]; exact .inl ⟨_, 67, _, q1, .inr (.inl rfl)⟩
      have f4 := f1.trans f3 (by simp)
      have hm : ∀ x ∈ [e.sb], Mut w x := fun x hx => by rw [List.mem_singleton.1 hx]; exact HS.out.mut e.sb (by simp [blks])
      have hnd := (nodup_apart HL.out.nodup).2.2.2
      have hd1 : e.pb ≠ e.sb := by simp [blks] at hnd; omega
      have hd2 : e.cb ≠ e.sb := by simp [blks] at hnd; omega
      have hz : (w2.setCell ⟨e.sb, 4, none⟩ (.pointer (some ⟨w2.heap.size, 0, none⟩))).heap.size = w2.heap.size := by simp [World.setCell]
      have q2 := heap_alloc_new (w2.setCell ⟨e.sb, 4, none⟩ (.pointer (some ⟨w2.heap.size, 0, none⟩))) (.cells #[.int .u64 view, .slice A e.s.sum.length n1, .slice A4 (T.length + 1) n4] 76)
      rw [hz] at q2
      have q3 := blk_alloc (blk_setCell q1 4 (.pointer (some ⟨w2.heap.size, 0, none⟩))) (.cells #[.int .u64 view, .slice A e.s.sum.length n1, .slice A4 (T.length + 1) n4] 76)
      refine ⟨rfl, HL.out.set (F := [e.sb]) (e' := { e with s := { e.s with cert := some ⟨view, e.s.sum, certTexts f e.s g⟩ } }) f4 (by simp [blks]) rfl rfl rfl rfl ?_, f4⟩
      refine ⟨_, _, _, q3, HPre.out.fr f4 hm, R_fr HR1.out f4 hm kB_types, ⟨_, _, _, rfl, q2, R_fr HR1.out f4 hm kB_types, ?_⟩, HV.out.fr f4 hm (by simpa using hd1), HV2.out.fr f4 hm (by simpa using hd2)⟩
      unfold certTexts
      rw [HT.out]
      exact R_fr HO2.out f3 hm2 kS_types)
end Go.Proofs.Ytfjfggnbkopocaa
