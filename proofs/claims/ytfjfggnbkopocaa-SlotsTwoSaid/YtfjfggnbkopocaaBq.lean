/- Slots: the law of one sum: what has been met. -/
import Derived.Test.YtfjfggnbkopocaaBn
/- Met. -/
set_option linter.unusedVariables false
set_option linter.unusedSimpArgs false
namespace Go.Proofs.Ytfjfggnbkopocaa
open Go.RowKit Go.Proofs.YtfjfggnbkopocaaW.PrintWords PSlotsTwo

/-- A word that was met. -/
structure Met where
  v : Int
  q : Int
  sum : List Int
def kMet : Kd Met := Kd.iso (Kd.pair (Kd.int .u64) (Kd.pair (Kd.int .u64) (Kd.slice 5 (Kd.int .u8)))) (fun x : Met => (x.v, x.q, x.sum))
theorem kMet_open {w : World} {x : Met} {cs : List Value} (h : kMet.K w x cs) : ∃ A c, cs = [.int .u64 x.v, .int .u64 x.q, .slice A x.sum.length c] ∧ x.sum.length ≤ c ∧ kB.C w A x.sum.length x.sum := by
  obtain ⟨_, _, rfl, rfl, ⟨_, _, rfl, rfl, ⟨A3, c3, rfl, l3, g3⟩⟩⟩ := h
  exact ⟨A3, c3, rfl, l3, g3⟩
theorem kMet_mkM {w : World} {base : Nat} {ok : Nat → Prop} {x : Met} {v : Value} (h : kB.R 5 w base ok v x.sum) : kMet.M w base ok x [.int .u64 x.v, .int .u64 x.q, v] :=
  ⟨[.int .u64 x.v], [.int .u64 x.q, v], rfl, rfl, ⟨[.int .u64 x.q], [v], rfl, rfl, ⟨v, rfl, h⟩⟩⟩
theorem kMet_types : ∀ q ∈ 52 :: kMet.E, q ≠ 59 ∧ q ≠ 67 ∧ q ≠ 93 := by decide
theorem info52 : (Try.prog.info? 52).map (fun i => (i.zero, i.size, i.bytes)) = some (some (.agg #[.int .u64 0, .int .u64 0, .slice none 0 0]), 3, 40) := by kernel_rfl
theorem R_apart52 {w : World} {v vo : Value} {L : List Int} {out : List Met} (h : kB.R 5 w 0 tr v L) (ho : kMet.R 52 w 0 tr vo out) : kB.R 5 w 0 (fun k => some k ≠ vo.ownBlock) v L := by
  obtain ⟨inner, hown⟩ := Kd.R_own ho
  refine Kd.R_mono (Kd.R_bound h) ?_
  rintro k ⟨_, _, _, q, hq, cells, hc⟩ e
  rcases hown.2 with ⟨h0, _⟩ | ⟨g, cap, cur, hv, _, hg, _⟩
  · rw [h0] at e
    cases e
  · rw [hv] at e
    have e1 : k = g := by simpa [Value.ownBlock] using e
    subst e1
    rw [hg] at hc
    injection hc with hc
    injection hc with _ hc
    subst hc
    revert hq
    decide
theorem met_at {w : World} {A : Option Addr} {c : Nat} {l : List Met} (h : kMet.R 52 w 0 tr (.slice A l.length c) l) (j : Nat) (hj : j < l.length) : ∃ ad A3 c3, A = some ad ∧
    w.cell? (ad.add (j * 3)) = some (.int .u64 l[j].v) ∧ w.cell? ⟨(ad.add (j * 3)).block, (ad.add (j * 3)).off + 1, none⟩ = some (.int .u64 l[j].q) ∧ w.cell? ⟨(ad.add (j * 3)).block, (ad.add (j * 3)).off + 2, none⟩ = some (.slice A3 l[j].sum.length c3) ∧
    l[j].sum.length ≤ c3 ∧ kB.C w A3 l[j].sum.length l[j].sum := by
  have hC := (Kd.R_reads' h).2.2
  obtain ⟨ad, cs, e, _, hK, hc0⟩ := Kd.C_get hC ⟨0, 0, []⟩ (j : Int) (by omega) (by omega)
  have e1 : l.getD (j : Int).toNat ⟨0, 0, []⟩ = l[j] := by
    rw [Int.toNat_natCast, List.getD_eq_getElem?_getD, List.getElem?_eq_getElem hj]
    rfl
  rw [e1] at hK
  rw [Int.toNat_natCast] at hc0
  have hc : ∀ t u, cs[t]? = some u → w.cell? (ad.add (j * 3 + t)) = some u := hc0
  obtain ⟨A3, c3, rfl, l3, g3⟩ := kMet_open hK
  exact ⟨ad, A3, c3, e, hc 0 _ rfl, by rw [← add_field _ _ 1 (by omega)]; exact hc 1 _ rfl, by rw [← add_field _ _ 2 (by omega)]; exact hc 2 _ rfl, l3, g3⟩
/-- Each word that was met is gone, or its certificate stays, or one of a greater view is there. -/
def metOk (l : List Met) (M : LM) : Prop := ∀ x ∈ l, x.q ≤ M.low ∨ ∃ c, bestV M x.q = some c ∧ (x.v < c.view ∨ (x.v = c.view ∧ x.sum = c.sum))
theorem metOk_step {f : Int} {M : LM} {o : OpM} {l : List Met} (h : metOk l M) : metOk l (stepM f M o).2 := by
  intro x hx
  by_cases hq : x.q ≤ (stepM f M o).2.low
  · exact .inl hq
  · right
    rcases h x hx with h1 | ⟨c, h1, h2⟩
    · have := (marks_step (f := f) (M := M) (o := o)).1
      omega
    · obtain ⟨c', h3, h4⟩ := best_step (f := f) (o := o) h1 (by omega)
      refine ⟨c', h3, ?_⟩
      rcases h4 with rfl | h4
      · exact h2
      · left
        rcases h2 with h2 | ⟨h2, _⟩ <;> omega
theorem metOk_push {M : LM} {l : List Met} {q : Int} {c : CertM} (h : metOk l M) (hb : bestV M q = some c) : metOk (l ++ [⟨c.view, q, c.sum⟩]) M := by
  intro x hx
  rcases List.mem_append.1 hx with hx | hx
  · exact h x hx
  · rw [List.mem_singleton.1 hx]
    exact .inr ⟨c, hb, .inr ⟨rfl, rfl⟩⟩
theorem metOk_same {f : Int} {M : LM} {l : List Met} {q : Int} {c : CertM} (hI : Inv f M) (h : metOk l M) (hb : bestV M q = some c) {x : Met} (hx : x ∈ l) (hv : x.v = c.view) (hq : x.q = q) : x.sum = c.sum := by
  rcases h x hx with h1 | ⟨c', h1, h2⟩
  · have := (best_view hI hb).2.2
    omega
  · rw [hq, hb] at h1
    obtain rfl := Option.some.inj h1
    rcases h2 with h2 | ⟨_, h2⟩
    · omega
    · exact h2
/-- A block that is no row of bytes or texts, and no certificate. -/
def Soft (w : World) (b : Nat) : Prop := ∀ cs t fz, w.heap[b]? = some (.cells cs t fz) → t ≠ 5 ∧ t ≠ 46 ∧ t ≠ 76
section
variable {w w' : World} {F : List Nat}
theorem R_soft {α : Type} {d : Kd α} {e base : Nat} {ok : Nat → Prop} {v : Value} {xs : List α} (h : d.R e w base ok v xs) (hF : Fr F w w') (hm : ∀ b ∈ F, Soft w b) (ht : ∀ q ∈ e :: d.E, q = 5 ∨ q = 46 ∨ q = 76) : d.R e w' base ok v xs :=
  Kd.R_mono (Kd.R_move (Kd.R_bound h) (fun k hk => by
    obtain ⟨_, _, hlt, q, hq, cells, hc⟩ := hk
    refine hF.block k hlt (fun hin => ?_)
    have h1 := hm k hin _ _ _ hc
    rcases ht q hq with e | e | e
    · exact h1.1 e
    · exact h1.2.1 e
    · exact h1.2.2 e)) (fun _ hk => hk.1)
theorem M_soft {α : Type} {d : Kd α} {base : Nat} {ok : Nat → Prop} {x : α} {cs : List Value} (h : d.M w base ok x cs) (hF : Fr F w w') (hm : ∀ b ∈ F, Soft w b) (ht : ∀ q ∈ d.E, q = 5 ∨ q = 46 ∨ q = 76) : d.M w' base ok x cs :=
  d.M_mono (fun _ hk => hk.1) (d.M_move (fun k hk => by
    obtain ⟨_, _, hlt, q, hq, cells, hc⟩ := hk
    refine hF.block k hlt (fun hin => ?_)
    have h1 := hm k hin _ _ _ hc
    rcases ht q hq with e | e | e
    · exact h1.1 e
    · exact h1.2.1 e
    · exact h1.2.2 e) (d.M_bound h))
theorem kB_soft : ∀ q ∈ 5 :: kB.E, q = 5 ∨ q = 46 ∨ q = 76 := by decide
theorem kS_soft : ∀ q ∈ 46 :: kS.E, q = 5 ∨ q = 46 ∨ q = 76 := by decide
theorem kS_softM : ∀ q ∈ kS.E, q = 5 ∨ q = 46 ∨ q = 76 := by decide
theorem Fr.still {b t : Nat} {cs : Array Value} {fz : Nat × Nat} (hF : Fr F w w') (hm : ∀ b ∈ F, Soft w b) (hb : w.heap[b]? = some (.cells cs t fz)) (ht : t = 5 ∨ t = 46 ∨ t = 76) : w'.heap[b]? = some (.cells cs t fz) :=
  (hF.block b (Array.getElem?_eq_some_iff.1 hb).1 (fun hin => by
    have h1 := hm b hin _ _ _ hb
    rcases ht with e | e | e
    · exact h1.1 e
    · exact h1.2.1 e
    · exact h1.2.2 e)).trans hb
theorem PreAt.soft {v : Value} {g : Option Sig} (h : PreAt w v g) (hF : Fr F w w') (hm : ∀ b ∈ F, Soft w b) : PreAt w' v g := by
  cases g with
  | none => exact h
  | some g =>
    obtain ⟨b, cs, hv, hb, hM⟩ := h
    exact ⟨b, cs, hv, hF.still hm hb (by decide), M_soft hM hF hm kS_softM⟩
theorem CertAt.soft {v : Value} {c : Option CertM} (h : CertAt w v c) (hF : Fr F w w') (hm : ∀ b ∈ F, Soft w b) : CertAt w' v c := by
  cases c with
  | none => exact h
  | some c =>
    obtain ⟨b, vs, vt, hv, hb, h1, h2⟩ := h
    exact ⟨b, vs, vt, hv, hF.still hm hb (by decide), R_soft h1 hF hm kB_soft, R_soft h2 hF hm kS_soft⟩
theorem VotesAt.soft {b : Nat} {f : Int} {V : Votes} (h : VotesAt w b f V) (hF : Fr F w w') (hm : ∀ b ∈ F, Soft w b) (hn : b ∉ F) : VotesAt w' b f V := by
  have hlt := h.mut.lt
  obtain ⟨cs, hb, hs, h0, hr⟩ := h
  refine ⟨cs, (hF.block b hlt hn).trans hb, hs, h0, fun i hi => ⟨(hr i hi).1, fun v hv => ?_⟩⟩
  obtain ⟨⟨c0, c1, c2, e0, e1, e2, hM⟩, hw⟩ := (hr i hi).2 v hv
  exact ⟨⟨c0, c1, c2, e0, e1, e2, M_soft hM hF hm kS_softM⟩, hw⟩
theorem SlotAt.soft {f : Int} {e : Ent} (h : SlotAt w f e) (hF : Fr F w w') (hm : ∀ b ∈ F, Soft w b) (hn : ∀ b ∈ blks e, b ∉ F) : SlotAt w' f e := by
  have hlt := (h.mut e.sb (by simp [blks])).lt
  obtain ⟨vp, vs, vc, hb, h0, h1, h2, h3, h4⟩ := h
  exact ⟨vp, vs, vc, (hF.block _ hlt (hn _ (by simp [blks]))).trans hb, h0.soft hF hm, R_soft h1 hF hm kB_soft, h2.soft hF hm, h3.soft hF hm (hn _ (by simp [blks])), h4.soft hF hm (hn _ (by simp [blks]))⟩
theorem LogAt.soft {l m : Nat} {f low view : Int} {es : List Ent} (h : LogAt w l m f low view es) (hF : Fr F w w') (hm : ∀ b ∈ F, Soft w b) (hn : ∀ b ∈ foot l m es, b ∉ F) : LogAt w' l m f low view es :=
  ⟨(hF.block l (h.lt (List.mem_cons_self)) (hn l (List.mem_cons_self))).trans h.log, h.map.move (hF.block m (h.lt (by simp [foot])) (hn m (by simp [foot]))),
    fun e he => (h.slots e he).soft hF hm (fun b hb => hn b (foot_ent he hb)), h.nodup⟩
/-- A log stays while a row of its owner's changes. -/
theorem St.soft {w0 : World} {l m : Nat} {f : Int} {M : LM} (h : St w0 w l m f M) (hF : Fr F w w') (hm : ∀ b ∈ F, Soft w b) (hB : ∀ b ∈ F, w0.heap.size ≤ b) (hn : ∀ b ∈ F, ¬ Mut w b) : St w0 w' l m f M := by
  obtain ⟨es, h1, h2, h3⟩ := h.log
  exact ⟨h.below.trans (hF.below h.below.size hB), es, h1.soft hF hm (fun b hb hin => hn b hin (h1.mut b hb)), h2, h3⟩
end
/-- A row of type 52 that is appended to. -/
theorem St.append {α : Type} {d : Kd α} {w0 w w' : World} {l m e : Nat} {f : Int} {M : LM} {v : Value} {xs : List α} (h : St w0 w l m f M) (hr : d.R e w 0 tr v xs) (hf : From w0.heap.size v) (hg : w.grownBy w' v.ownBlock) (he : e ≠ 5 ∧ e ≠ 46 ∧ e ≠ 76 ∧ e ≠ 59 ∧ e ≠ 67 ∧ e ≠ 93) : St w0 w' l m f M := by
  obtain ⟨inner, hown⟩ := Kd.R_own hr
  rcases hown.2 with ⟨h0, _⟩ | ⟨g, cap, cur, hv, _, hgb, _⟩
  · subst h0
    exact h.soft (F := []) (Fr.of_none hg) (by simp) (by simp) (by simp)
  · subst hv
    refine h.soft (F := [g]) (Fr.of_grown hg) (fun b hb cs t fz hc => ?_) (fun b hb => hf b (by rw [List.mem_singleton.1 hb]; rfl)) (fun b hb hm => ?_)
    · rw [List.mem_singleton.1 hb, hgb] at hc
      injection hc with hc
      injection hc with _ hc
      rw [← hc]
      exact ⟨he.1, he.2.1, he.2.2.1⟩
    · rw [List.mem_singleton.1 hb] at hm
      exact hm.not hgb he.2.2.2.1 he.2.2.2.2.1 he.2.2.2.2.2
end Go.Proofs.Ytfjfggnbkopocaa
