/- Slots: the slot of a number, there or made. -/
import Derived.Test.YtfjfggnbkopocaaN
/- slot. -/
set_option linter.unusedVariables false
set_option linter.unusedSimpArgs false
namespace Go.Proofs.Ytfjfggnbkopocaa
open Go.RowKit Go.Proofs.YtfjfggnbkopocaaW.PrintWords
attribute [local go_sem] ptr

/-- What a log has, without its blocks. -/
def absL (es : List Ent) : List (Int × SlotM) := es.map fun e => (e.q, e.s)
/-- A slot of a number is there. -/
def hasQ (L : List (Int × SlotM)) (q : Int) : Bool := L.any fun p => p.1 == q
def atQ (L : List (Int × SlotM)) (q : Int) : List (Int × SlotM) := if hasQ L q then L else L ++ [(q, freshS none)]
def modQ (L : List (Int × SlotM)) (q : Int) (g : SlotM → SlotM) : List (Int × SlotM) := L.map fun p => if p.1 = q then (p.1, g p.2) else p
def getQ (L : List (Int × SlotM)) (q : Int) : Option SlotM := (L.find? fun p => p.1 == q).map (·.2)
theorem hasQ_abs {es : List Ent} {q : Int} : hasQ (absL es) q = (getP (pairs es) q).isSome := by
  unfold hasQ absL getP pairs
  induction es with
  | nil => rfl
  | cons e es ih =>
    simp only [List.map_cons, List.any_cons, List.find?_cons]
    cases h : e.q == q
    · simpa using ih
    · simp
theorem nodup_q {w : World} {l m : Nat} {f low view : Int} {es : List Ent} (h : LogAt w l m f low view es) : (es.map (·.q)).Nodup := by
  have := h.map.nodup
  unfold pairs at this
  rw [List.map_map] at this
  exact this
theorem modQ_abs {a b : List Ent} {e e' : Ent} {q : Int} {g : SlotM → SlotM} (hn : ((a ++ e :: b).map (·.q)).Nodup) (hq : e.q = q) (hq' : e'.q = q) (hs : e'.s = g e.s) : absL (a ++ e' :: b) = modQ (absL (a ++ e :: b)) q g := by
  rw [List.map_append, List.map_cons, List.nodup_append] at hn
  obtain ⟨_, h2, h3⟩ := hn
  rw [List.nodup_cons] at h2
  have ha : ∀ x ∈ a, x.q ≠ q := fun x hx e0 => h3 x.q (List.mem_map.2 ⟨x, hx, rfl⟩) e.q (List.mem_cons_self) (by rw [e0, hq])
  have hb : ∀ x ∈ b, x.q ≠ q := fun x hx e0 => h2.1 (List.mem_map.2 ⟨x, hx, by rw [e0, hq]⟩)
  have key : ∀ (c : List Ent), (∀ x ∈ c, x.q ≠ q) → (absL c).map (fun p => if p.1 = q then (p.1, g p.2) else p) = absL c := by
    intro c hc
    unfold absL
    rw [List.map_map]
    refine List.map_congr_left (fun x hx => ?_)
    simp [hc x hx]
  unfold modQ
  have e1 : ∀ (x : Ent), absL (a ++ x :: b) = absL a ++ (x.q, x.s) :: absL b := fun x => by simp [absL]
  rw [e1, e1, List.map_append, List.map_cons, key a ha, key b hb]
  simp [hq, hq', hs]
theorem getQ_abs {a b : List Ent} {e : Ent} {q : Int} (hn : ((a ++ e :: b).map (·.q)).Nodup) (hq : e.q = q) : getQ (absL (a ++ e :: b)) q = some e.s := by
  rw [List.map_append, List.map_cons, List.nodup_append] at hn
  obtain ⟨_, h2, h3⟩ := hn
  have ha : ∀ x ∈ a, x.q ≠ q := fun x hx e0 => h3 x.q (List.mem_map.2 ⟨x, hx, rfl⟩) e.q (List.mem_cons_self) (by rw [e0, hq])
  unfold getQ absL
  rw [List.map_append, List.find?_append, List.find?_eq_none.2 (fun p hp => by
    obtain ⟨x, hx, rfl⟩ := List.mem_map.1 hp
    simpa using ha x hx)]
  simp [hq]
theorem getQ_none {es : List Ent} {q : Int} (h : getP (pairs es) q = none) : getQ (absL es) q = none := by
  have h1 := getP_not h
  unfold getQ absL
  rw [List.find?_eq_none.2 (fun p hp => by
    obtain ⟨x, hx, rfl⟩ := List.mem_map.1 hp
    have := h1 (x.q, x.sb) (List.mem_map.2 ⟨x, hx, rfl⟩)
    simpa using this)]
  rfl
section
variable {w : World} {l m : Nat} {f low view : Int} {es : List Ent} {fr q : Int}
/-- The slot of a number, there or made. -/
theorem slot_ok (h : LogAt w l m f low view es) (h1 : 1 ≤ f) (h4 : f ≤ 4) (hlow : 0 ≤ low) (hf0 : 0 ≤ fr) (hq0 : 0 ≤ q) (hq1 : q < 18446744073709551616) (hk : askedK f low fr q = 0) :
    Calls Try.prog 36 #[ptr l, .int .u64 fr, .int .u64 q] w fun r w' => ∃ (a : List Ent) (e : Ent) (b : List Ent), r = .returned (.tuple #[ptr e.sb, .int .i64 0]) ∧ e.q = q ∧ absL (a ++ e :: b) = atQ (absL es) q ∧ LogAt w' l m f low view (a ++ e :: b) ∧ Fr [m] w w' ∧ ∀ x ∈ foot l m (a ++ e :: b), x ∈ foot l m es ∨ w.heap.size ≤ x := by
  cases hg : getP (pairs es) q with
  | none =>
    refine (slot_new h h1 h4 hlow hf0 hq0 hq1 hk hg).mono ?_
    rintro r w' ⟨n, hr, hnq, hns, hL, hF, hnew, _⟩
    refine ⟨es, n, [], hr, hnq, ?_, hL, hF, ?_⟩
    · unfold atQ
      rw [hasQ_abs, hg]
      simp [absL, hnq, hns]
    · intro x hx
      have e1 : foot l m (es ++ [n]) = foot l m es ++ blks n := by
        unfold foot
        rw [List.flatMap_append]
        simp
      rw [e1] at hx
      rcases List.mem_append.1 hx with hx | hx
      · exact .inl hx
      · exact .inr (hnew x hx)
  | some s =>
    obtain ⟨a, e, b, rfl, hq, hs⟩ := getP_ent hg
    refine (slot_old h h1 h4 hlow hf0 hq0 hq1 hk hq).mono ?_
    rintro r w' ⟨hr, hb⟩
    refine ⟨a, e, b, hr, hq, ?_, h.keep hb, Fr.of_below hb, fun x hx => .inl hx⟩
    unfold atQ
    rw [hasQ_abs, hg]
    rfl
theorem votes_none {w w' : World} {b : Nat} {f : Int} {F : List Nat} (h : VotesAt w b f fun _ => none) (hF : Fr F w w') (hn : b ∉ F) : VotesAt w' b f fun _ => none := by
  have hlt := h.mut.lt
  obtain ⟨cs, hb, hs, h0, hr⟩ := h
  exact ⟨cs, (hF.block b hlt hn).trans hb, hs, h0, fun i hi => ⟨(hr i hi).1, fun v hv => by cases hv⟩⟩
/-- The slot of a number, there or made; the log stays while blocks change that are new since wb, and none of its own. -/
theorem slot_ok2 {wb : World} (h : LogAt wb l m f low view es) (hb : Below wb.heap.size wb w) (h1 : 1 ≤ f) (h4 : f ≤ 4) (hlow : 0 ≤ low) (hf0 : 0 ≤ fr) (hq0 : 0 ≤ q) (hq1 : q < 18446744073709551616) (hk : askedK f low fr q = 0) :
    Calls Try.prog 36 #[ptr l, .int .u64 fr, .int .u64 q] w fun r w' => ∃ (a : List Ent) (e : Ent) (b : List Ent), r = .returned (.tuple #[ptr e.sb, .int .i64 0]) ∧ e.q = q ∧ absL (a ++ e :: b) = atQ (absL es) q ∧ LogAt w' l m f low view (a ++ e :: b) ∧ Fr [m] w w' ∧ (∀ x ∈ foot l m (a ++ e :: b), x ∈ foot l m es ∨ w.heap.size ≤ x) ∧
      ∀ (G : List Nat) (w'' : World), Fr G w' w'' → (∀ x ∈ G, wb.heap.size ≤ x ∧ x ∉ foot l m (a ++ e :: b)) → LogAt w'' l m f low view (a ++ e :: b) := by
  have hw := h.keep hb
  cases hg : getP (pairs es) q with
  | none =>
    refine (slot_new hw h1 h4 hlow hf0 hq0 hq1 hk hg).mono ?_
    rintro r w' ⟨n, hr, hnq, hns, hL, hF, hnew, hraw⟩
    have e1 : foot l m (es ++ [n]) = foot l m es ++ blks n := by
      unfold foot
      rw [List.flatMap_append]
      simp
    refine ⟨es, n, [], hr, hnq, ?_, hL, hF, ?_, ?_⟩
    · unfold atQ
      rw [hasQ_abs, hg]
      simp [absL, hnq, hns]
    · intro x hx
      rw [e1] at hx
      rcases List.mem_append.1 hx with hx | hx
      · exact .inl hx
      · exact .inr (hnew x hx)
    · intro G w'' hG hx
      have hbm : Fr [m] wb w'' := ((Fr.of_below (F := [m]) hb).trans hF (by simp)).trans hG (fun x hin => .inr (hx x hin).1)
      have hnm : ∀ y ∈ blks n, y ∉ G := fun y hy hin => (hx y hin).2 (by rw [e1]; exact List.mem_append_right _ hy)
      have hm0 : m ∉ G := fun hin => (hx m hin).2 (by simp [foot])
      refine LogAt.push h hbm (hL.map.move (hG.block m (hL.lt (by simp [foot])) hm0) |> fun hmm => by simpa [pairs] using hmm) ?_ ?_ ?_
      · have hS := hL.slots n (by simp)
        obtain ⟨_, _, _, _, _, _, _, hv1, hv2⟩ := hS
        rw [hns] at hv1 hv2
        refine ⟨_, _, _, (hG.block n.sb (blk_lt hraw) (hnm _ (by simp [blks]))).trans hraw, ?_, ?_, ?_, ?_, ?_⟩
        · rw [hns]; rfl
        · rw [hns]; exact Kd.R_nil _ _ _ _ _
        · rw [hns]; rfl
        · rw [hns]; exact votes_none hv1 hG (hnm _ (by simp [blks]))
        · rw [hns]; exact votes_none hv2 hG (hnm _ (by simp [blks]))
      · intro x hxn hin
        have h5 := hnew x hxn
        have h6 := hw.lt hin
        omega
      · have := (nodup_apart (a := es) (b := []) hL.nodup).2.2.2
        exact this
  | some s =>
    obtain ⟨a, e, b, rfl, hq, hs⟩ := getP_ent hg
    refine (slot_old hw h1 h4 hlow hf0 hq0 hq1 hk hq).mono ?_
    rintro r w' ⟨hr, hb'⟩
    refine ⟨a, e, b, hr, hq, ?_, hw.keep hb', Fr.of_below hb', fun x hx => .inl hx, ?_⟩
    · unfold atQ
      rw [hasQ_abs, hg]
      rfl
    · intro G w'' hG hx
      refine h.keep ((Fr.of_below (F := []) (hb.trans (hb'.mono hb.size))).trans hG (fun x hin => .inr (hx x hin).1)).to_below
end
end Go.Proofs.Ytfjfggnbkopocaa

/- Slots: settle; Prepare. -/
/- Prepare. -/
set_option linter.unusedVariables false
set_option linter.unusedSimpArgs false
namespace Go.Proofs.Ytfjfggnbkopocaa
open Go.RowKit Go.Proofs.YtfjfggnbkopocaaW.PrintWords
attribute [local go_sem] ptr

/-- A slot that is prepared has a certificate. -/
def settleM (f view : Int) (s : SlotM) : SlotM := match s.pre with
  | some g => if (prepB f s && !certB view s) = true then { s with cert := some ⟨view, s.sum, certTexts f s g⟩ } else s
  | none => s
theorem settle_any {w : World} {l m : Nat} {f low view : Int} {a b : List Ent} {e : Ent} (h : LogAt w l m f low view (a ++ e :: b)) (h1 : 1 ≤ f) (h4 : f ≤ 4) (hok : okV e.s.prep) :
    Calls Try.prog 39 #[ptr l, ptr e.sb] w fun r w' => r = .returned (.tuple #[]) ∧ LogAt w' l m f low view (a ++ { e with s := settleM f view e.s } :: b) ∧ Fr [e.sb] w w' := by
  have no : (prepB f e.s && !certB view e.s) = false → settleM f view e.s = e.s → Calls Try.prog 39 #[ptr l, ptr e.sb] w fun r w' => r = .returned (.tuple #[]) ∧ LogAt w' l m f low view (a ++ { e with s := settleM f view e.s } :: b) ∧ Fr [e.sb] w w' := by
    intro hn hs
    refine (settle_no h h1 h4 hn).mono ?_
    rintro r w' ⟨hr, hb⟩
    rw [hs]
    exact ⟨hr, h.keep hb, Fr.of_below hb⟩
  cases hg : e.s.pre with
  | none => exact no (by simp [prepB, hg]) (by simp [settleM, hg])
  | some g =>
    cases hn : (prepB f e.s && !certB view e.s) with
    | false =>
      refine no hn ?_
      unfold settleM
      rw [hg]
      simp only [hn]
      rfl
    | true =>
      have hs : settleM f view e.s = { e.s with cert := some ⟨view, e.s.sum, certTexts f e.s g⟩ } := by
        unfold settleM
        simp only [hg, hn, if_true]
      rw [hs]
      exact settle_yes h h1 h4 hok hn g hg
/-- A vote of seat k for a word. -/
def voteM (V : Votes) (k : Nat) (x : Sig) (sum : List Int) : Votes := if (V k).isSome then V else addV V k ⟨x, strOfNums sum⟩
def prepareM (f view : Int) (k : Nat) (x : Sig) (sum : List Int) (s : SlotM) : SlotM := settleM f view { s with prep := voteM s.prep k x sum }
def commitM (k : Nat) (x : Sig) (sum : List Int) (s : SlotM) : SlotM := { s with comm := voteM s.comm k x sum }
def voteK (V : Votes) (k : Nat) : Int := if (V k).isSome then 18 else 0
/-- Bytes that can be read while only the blocks of F change. -/
def Read (F : List Nat) (w : World) (A : Option Addr) (l : List Int) : Prop := ∀ w', Fr F w w' → kB.C w' A l.length l
theorem Read.here {F : List Nat} {w : World} {A : Option Addr} {l : List Int} (h : Read F w A l) : kB.C w A l.length l := h w (Fr.refl _ _)
theorem Read.go {F G : List Nat} {w w1 : World} {A : Option Addr} {l : List Int} (h : Read F w A l) (hF : Fr F w w1) (hG : ∀ x ∈ G, x ∈ F ∨ w.heap.size ≤ x) : Read G w1 A l := fun w2 h2 => h w2 (hF.trans h2 hG)
/-- Votes.Add. -/
theorem Add_any {f : Int} (h1 : 1 ≤ f) (h4 : f ≤ 4) (b : Nat) (V : Votes) (x : Sig) (A1 A2 A : Option Addr) (c1 c2 c : Nat) (bs : List Int) (w : World) (hV : VotesAt w b f V)
    (r1 : kB.C w A1 x.b.length x.b) (r2 : kB.C w A2 x.tag.length x.tag) (hx : okS x) (hw : Read [b] w A bs) (k : Nat) (hk : x.from_ = (k : Int) + 1) (hk2 : (k : Int) < 3 * f + 1) :
    Calls Try.prog 40 #[ptr b, .agg #[.int .u64 x.from_, .slice A1 x.b.length c1, .slice A2 x.tag.length c2], .slice A bs.length c] w fun e w' => e = .returned (.int .i64 (voteK V k)) ∧ VotesAt w' b f (voteM V k x bs) ∧ Fr [b] w w' := by
  cases hn : V k with
  | none =>
    refine (Add_ok h1 h4 b V x A1 A2 A c1 c2 c bs w hV r1 r2 hx.1 hx.2 hw k hk hk2 hn).mono ?_
    rintro e w' ⟨he, hv, hF⟩
    refine ⟨?_, ?_, hF⟩
    · rw [he]; simp [voteK, hn]
    · unfold voteM
      rw [hn]
      exact hv
  | some v =>
    refine (Add_no h1 h4 b V x A1 A2 A c1 c2 c bs w hV k hk hk2 v hn).mono ?_
    rintro e w' ⟨he, hb⟩
    refine ⟨?_, ?_, Fr.of_below hb⟩
    · rw [he]; simp [voteK, hn]
    · unfold voteM
      rw [hn]
      exact hV.fr (Fr.of_below (F := []) hb) (by simp) (by simp)
end Go.Proofs.Ytfjfggnbkopocaa

/- Slots: Prepare. -/
/- Prepare. -/
set_option linter.unusedVariables false
set_option linter.unusedSimpArgs false
namespace Go.Proofs.Ytfjfggnbkopocaa
open Go.RowKit Go.Proofs.YtfjfggnbkopocaaW.PrintWords
attribute [local go_sem] ptr

/-- What an operation leaves. -/
structure Left (w w' : World) (l m : Nat) (f low view : Int) (es : List Ent) (low' view' : Int) (L' : List (Int × SlotM)) : Prop where
  log : ∃ es', LogAt w' l m f low' view' es' ∧ absL es' = L' ∧ ∀ x ∈ foot l m es', x ∈ foot l m es ∨ w.heap.size ≤ x
  fr : Fr (foot l m es) w w'
theorem foot_swap {l m : Nat} {a b : List Ent} {e e' : Ent} (h1 : e'.sb = e.sb) (h2 : e'.pb = e.pb) (h3 : e'.cb = e.cb) : foot l m (a ++ e' :: b) = foot l m (a ++ e :: b) := by
  unfold foot
  rw [List.flatMap_append, List.flatMap_append, List.flatMap_cons, List.flatMap_cons]
  simp [blks, h1, h2, h3]
theorem fr_cell {F : List Nat} {w w' : World} {b j : Nat} {v : Value} (hF : Fr F w w') (h : w.cell? ⟨b, j, none⟩ = some v) (hn : b ∉ F) : w'.cell? ⟨b, j, none⟩ = some v :=
  (World.cell?_of_block (w := w) (a := ⟨b, j, none⟩) (hF.block b (World.block_lt_of_cell? w _ h) hn)).trans h
theorem blk_mut {w : World} {f : Int} {e : Ent} (hs : SlotAt w f e) {F : List Nat} (h : ∀ x ∈ F, x ∈ blks e) : ∀ x ∈ F, Mut w x := fun x hx => hs.mut x (h x hx)
theorem SlotAt.prep {w w' : World} {f : Int} {e : Ent} {V : Votes} (hs : SlotAt w f e) (hF : Fr [e.pb] w w') (hV : VotesAt w' e.pb f V) (hn : (blks e).Nodup) : SlotAt w' f { e with s := { e.s with prep := V } } := by
  have hm := blk_mut hs (F := [e.pb]) (by simp [blks])
  have hlt := (hs.mut e.sb (by simp [blks])).lt
  simp [blks] at hn
  obtain ⟨vp, vs, vc, hb, h1, h2, h3, h4, h5⟩ := hs
  exact ⟨vp, vs, vc, (hF.block _ hlt (by simp; omega)).trans hb, h1.fr hF hm, R_fr h2 hF hm kB_types, h3.fr hF hm, hV, h5.fr hF hm (by simp; omega)⟩
theorem SlotAt.comm {w w' : World} {f : Int} {e : Ent} {V : Votes} (hs : SlotAt w f e) (hF : Fr [e.cb] w w') (hV : VotesAt w' e.cb f V) (hn : (blks e).Nodup) : SlotAt w' f { e with s := { e.s with comm := V } } := by
  have hm := blk_mut hs (F := [e.cb]) (by simp [blks])
  have hlt := (hs.mut e.sb (by simp [blks])).lt
  simp [blks] at hn
  obtain ⟨vp, vs, vc, hb, h1, h2, h3, h4, h5⟩ := hs
  exact ⟨vp, vs, vc, (hF.block _ hlt (by simp; omega)).trans hb, h1.fr hF hm, R_fr h2 hF hm kB_types, h3.fr hF hm, h4.fr hF hm (by simp; omega), hV⟩
theorem okV_vote {V : Votes} {k : Nat} {x : Sig} {sum : List Int} (h : okV V) (hx : okS x) : okV (voteM V k x sum) := by
  unfold voteM
  split
  · exact h
  · intro i v hv
    unfold addV at hv
    split at hv
    · obtain rfl := Option.some.inj hv
      exact hx
    · exact h i v hv
theorem okL_at {L : List (Int × SlotM)} {q : Int} (h : ∀ p ∈ L, okV p.2.prep) : ∀ p ∈ atQ L q, okV p.2.prep := by
  unfold atQ
  split
  · exact h
  · intro p hp
    rcases List.mem_append.1 hp with hp | hp
    · exact h p hp
    · rw [List.mem_singleton.1 hp]
      intro i v hv
      cases hv
set_option maxHeartbeats 4000000 in
set_option maxRecDepth 100000 in
theorem Prepare_ok {w : World} {l m : Nat} {f low view : Int} {es : List Ent} (h : LogAt w l m f low view es) (h1 : 1 ≤ f) (h4 : f ≤ 4) (hlow : 0 ≤ low) (hv0 : 0 ≤ view) (hok : ∀ p ∈ absL es, okV p.2.prep)
    (x : Sig) (q : Int) (sum : List Int) (A1 A2 A : Option Addr) (c1 c2 c : Nat) (hq0 : 0 ≤ q) (hq1 : q < 18446744073709551616) (hx : okS x)
    (r1 : Read (foot l m es) w A1 x.b) (r2 : Read (foot l m es) w A2 x.tag) (hr : Read (foot l m es) w A sum) (k : Nat) (hk : x.from_ = (k : Int) + 1) (ha : askedK f low x.from_ q = 0) (hp : x.from_ ≠ prim view f) :
    Calls Try.prog 22 #[ptr l, .agg #[.int .u64 x.from_, .slice A1 x.b.length c1, .slice A2 x.tag.length c2], .int .u64 q, .slice A sum.length c] w fun r w' => ∃ s, getQ (atQ (absL es) q) q = some s ∧ r = .returned (.int .i64 (voteK s.prep k)) ∧ Left w w' l m f low view es low view (modQ (atQ (absL es) q) q (prepareM f view k x sum)) := by
  have HL := Aside0.mk h
  have HF := Aside0.mk (And.intro h1 h4)
  have HLW := Aside0.mk hlow
  have HV0 := Aside0.mk hv0
  have HOK := Aside0.mk hok
  have HQ := Aside0.mk (And.intro hq0 hq1)
  have HX := Aside0.mk hx
  have R1 := Aside0.mk r1
  have R2 := Aside0.mk r2
  have RS := Aside0.mk hr
  have HK := Aside0.mk hk
  have HA := Aside0.mk ha
  have hpr : (x.from_ == prim view f) = false := beq_eq_false_iff_ne.2 hp
  clear h h1 h4 hlow hv0 hok hq0 hq1 hx r1 r2 hr hk ha hp
  go_enter Try.func22, Try.ntmps22
  go_wp2_with fail
  obtain ⟨g, hg⟩ : ∃ g, w.heap.size = g := ⟨_, rfl⟩
  have HG := Aside0.mk hg
  have HX0 : Aside0 ((w.alloc (.cells #[.int .u64 x.from_, .slice A1 x.b.length c1, .slice A2 x.tag.length c2] 46)).heap[g]? = some (.cells #[.int .u64 x.from_, .slice A1 x.b.length c1, .slice A2 x.tag.length c2] 46 (0, 0))) := ⟨by rw [← hg]; exact heap_alloc_new w _⟩
  have HB : Aside0 (Below w.heap.size w (w.alloc (.cells #[.int .u64 x.from_, .slice A1 x.b.length c1, .slice A2 x.tag.length c2] 46))) := ⟨below_alloc (Below.refl _ _) _⟩
  rw [hg]
  generalize w.alloc (.cells #[.int .u64 x.from_, .slice A1 x.b.length c1, .slice A2 x.tag.length c2] 46) = w1 at HX0 HB ⊢
  clear hg
  refine (slot_ok (HL.out.keep HB.out) HF.out.1 HF.out.2 HLW.out (by have := HK.out; omega) HQ.out.1 HQ.out.2 HA.out).mono ?_
  rintro r w2 ⟨a, e, b, rfl, heq, habs, hL2, hF2, hfo⟩
  have HE := Aside0.mk heq
  have HAB := Aside0.mk habs
  have HL2 := Aside0.mk hL2
  have HF2 := Aside0.mk hF2
  have HFO := Aside0.mk hfo
  have hne : g ≠ m := by
    have := HL.out.lt (b := m) (by simp [foot])
    have := HG.out
    omega
  have HX2 : Aside0 (w2.heap[g]? = some (.cells #[.int .u64 x.from_, .slice A1 x.b.length c1, .slice A2 x.tag.length c2] 46 (0, 0))) := ⟨(hF2.block g (blk_lt HX0.out) (by simpa using hne)).trans HX0.out⟩
  have g0 : w2.cell? ⟨g, 0, none⟩ = some (.int .u64 x.from_) := (blk_cell HX2.out 0).trans rfl
  obtain ⟨l0, l1, l2, l3, _⟩ := hL2.cells
  clear heq habs hL2 hF2 hfo hne l1 l3
  go_wp2_with fail
  go_quiet ((go_at_call 37; exact quiet1 (Primary_any HF.out.1 HF.out.2 HV0.out _)))
  have HL3 : Aside0 (LogAt (w2.drewN nq) l m f low view (a ++ e :: b)) := ⟨HL2.out.keep (pw_below_drewN (Below.refl _ _) nq)⟩
  have HX3 : Aside0 ((w2.drewN nq).heap[g]? = some (.cells #[.int .u64 x.from_, .slice A1 x.b.length c1, .slice A2 x.tag.length c2] 46 (0, 0))) := ⟨HX2.out⟩
  have HW3 : Aside0 (Fr (foot l m es) w (w2.drewN nq)) := ⟨((Fr.of_below (F := foot l m es) HB.out).trans (HF2.out.mono (G := foot l m es) (by simp [foot])) (fun x hx => .inl hx)).trans (Fr.of_below (F := []) (pw_below_drewN (Below.refl _ _) nq)) (by simp)⟩
  generalize w2.drewN nq = w3 at HL3 HX3 HW3 ⊢
  have HSm : Aside0 (∀ x ∈ foot l m (a ++ e :: b), x ∈ foot l m es ∨ w.heap.size ≤ x) := ⟨fun x hx => (HFO.out x hx).imp id (fun h => Nat.le_trans HB.out.size h)⟩
  have HES : Aside0 (SlotAt w3 f e) := ⟨HL3.out.slots e (by simp)⟩
  clear g0 l0 l2
  have g0 : w3.cell? ⟨g, 0, none⟩ = some (.int .u64 x.from_) := (blk_cell HX3.out 0).trans rfl
  have g1 : w3.cell? ⟨g, 1, none⟩ = some (.slice A1 x.b.length c1) := (blk_cell HX3.out 1).trans rfl
  have g2 : w3.cell? ⟨g, 2, none⟩ = some (.slice A2 x.tag.length c2) := (blk_cell HX3.out 2).trans rfl
  obtain ⟨vp, vs, vc, s0, s1, s2, s3, s4, _, _, _, _, hvp, _, _⟩ := HES.out.cells
  have HVP := Aside0.mk hvp
  have S2 := Aside0.mk s2
  clear s0 s1 s3 s4 hvp
  have hsm : ¬ (e.sb = e.pb) := by
    have := (nodup_apart HL3.out.nodup).2.2.2
    simp [blks] at this
    omega
  have hgp : ¬ (g = e.pb) := by
    intro e0
    have h5 := HVP.out.mut
    rw [← e0] at h5
    exact h5.not HX3.out (by decide) (by decide) (by decide)
  go_wp2_with fail
  go_region_held3 (fun w' => w'.cell? ⟨g, 0, none⟩ = some (.int .u64 x.from_) ∧ w'.cell? ⟨g, 1, none⟩ = some (.slice A1 x.b.length c1) ∧ w'.cell? ⟨g, 2, none⟩ = some (.slice A2 x.tag.length c2) ∧ w'.cell? ⟨e.sb, 2, none⟩ = some (ptr e.pb))
    (first | exact HK4.out | go_keep)
    (first
      | (go_at_call 40; refine (Add_any HF.out.1 HF.out.2 e.pb e.s.prep x A1 A2 A c1 c2 c sum w3.drew (HVP.out.fr (Fr.of_below (F := []) (below_drew (Below.refl _ _))) (by simp) (by simp)) (R1.out _ (fr_drew HW3.out)) (R2.out _ (fr_drew HW3.out)) HX.out (RS.out.go (fr_drew HW3.out) (fun y hy => HSm.out y (foot_ent (e := e) (by simp) (by simp [blks] at hy ⊢; omega)))) k HK.out (by have := asked_ok HA.out; have := HK.out; omega)).mono ?_; rintro r w4 ⟨rfl, hv4, hF4⟩; have HV4 := Aside0.mk hv4; have HF4 : Aside0 (Fr [e.pb] w3 w4) := ⟨(Fr.of_below (F := [e.pb]) (below_drew (Below.refl _ _))).trans hF4 (by simp)⟩; have HK4 : Aside0 (w4.cell? ⟨g, 0, none⟩ = some (.int .u64 x.from_) ∧ w4.cell? ⟨g, 1, none⟩ = some (.slice A1 x.b.length c1) ∧ w4.cell? ⟨g, 2, none⟩ = some (.slice A2 x.tag.length c2) ∧ w4.cell? ⟨e.sb, 2, none⟩ = some (ptr e.pb)) := ⟨fr_cell HF4.out g0 (by simpa using hgp), fr_cell HF4.out g1 (by simpa using hgp), fr_cell HF4.out g2 (by simpa using hgp), fr_cell HF4.out S2.out (by simpa using hsm)⟩; clear hv4 hF4))
  have HL4 : Aside0 (LogAt w4 l m f low view (a ++ { e with s := { e.s with prep := voteM e.s.prep k x sum } } :: b)) := ⟨HL3.out.set (F := [e.pb]) HF4.out (by simp [blks]) rfl rfl rfl rfl (HES.out.prep HF4.out HV4.out (nodup_apart HL3.out.nodup).2.2.2)⟩
  have HOe : Aside0 (okV (voteM e.s.prep k x sum)) := ⟨okV_vote (okL_at HOK.out (e.q, e.s) (by rw [← HAB.out]; exact List.mem_map.2 ⟨e, by simp, rfl⟩)) HX.out⟩
  clear g0 g1 g2 hsm hgp
  go_wp2_with fail
  refine (settle_any HL4.out HF.out.1 HF.out.2 HOe.out).mono ?_
  rintro r w5 ⟨rfl, hL5, hF5⟩
  have HL5 := Aside0.mk hL5
  have HF5 := Aside0.mk hF5
  clear hL5 hF5
  go_wp2_with fail
  go_ret
  have hn := nodup_q HL3.out
  have hin : ∀ y ∈ blks e, y ∈ foot l m es ∨ w.heap.size ≤ y := fun y hy => HSm.out y (foot_ent (e := e) (by simp) hy)
  refine ⟨e.s, ?_, rfl, ⟨⟨_, HL5.out, ?_, ?_⟩, ?_⟩⟩
  · rw [← HAB.out]
    exact getQ_abs hn HE.out
  · rw [← HAB.out]
    exact modQ_abs hn HE.out HE.out rfl
  · intro y hy
    have h9 := hy
    rw [foot_swap (e := e) (e' := { e with s := settleM f view { e.s with prep := voteM e.s.prep k x sum } }) rfl rfl rfl] at h9
    exact HSm.out y h9
  · refine (HW3.out.trans HF4.out ?_).trans HF5.out ?_
    · intro y hy
      exact hin y (by simp at hy; simp [blks, hy])
    · intro y hy
      exact hin y (by simp at hy; simp [blks, hy])
end Go.Proofs.Ytfjfggnbkopocaa
