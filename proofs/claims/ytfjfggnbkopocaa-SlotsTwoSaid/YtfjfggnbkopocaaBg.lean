/- Slots: what a log says of a number, by its model. -/
import Derived.Test.YtfjfggnbkopocaaAa
import Derived.Test.YtfjfggnbkopocaaBe
/- Readers. -/
set_option linter.unusedVariables false
set_option linter.unusedSimpArgs false
namespace Go.Proofs.Ytfjfggnbkopocaa
open Go.RowKit Go.Proofs.YtfjfggnbkopocaaW.PrintWords
attribute [local go_sem] ptr

section
variable {w : World} {q : Int}
set_option maxHeartbeats 2000000 in
theorem Sum_nil : Calls Try.prog 20 #[.pointer none, .int .u64 q] w fun r w' => r = .returned (.tuple #[.slice none 0 0, .bool false]) ∧ Below w.heap.size w w' := by
  have h0 := find_nil (w := w) (q := q)
  go_enter Try.func20, Try.ntmps20
  go_wp2_with fail
  refine h0.mono ?_
  rintro r w1 ⟨rfl, rfl⟩
  clear h0
  go_wp2_with fail
  go_ret2
  exact ⟨rfl, Below.refl _ _⟩
set_option maxHeartbeats 2000000 in
theorem Prepared_nil : Calls Try.prog 18 #[.pointer none, .int .u64 q] w fun r w' => r = .returned (.bool false) ∧ Below w.heap.size w w' := by
  have h0 := find_nil (w := w) (q := q)
  go_enter Try.func18, Try.ntmps18
  go_wp2_with fail
  refine h0.mono ?_
  rintro r w1 ⟨rfl, rfl⟩
  clear h0
  go_wp2_with fail
  go_ret
  exact ⟨rfl, Below.refl _ _⟩
set_option maxHeartbeats 2000000 in
theorem Best_nil : Calls Try.prog 15 #[.pointer none, .int .u64 q] w fun r w' => r = .returned (.tuple #[.int .u64 0, .slice none 0 0, .bool false]) ∧ Below w.heap.size w w' := by
  have h0 := find_nil (w := w) (q := q)
  go_enter Try.func15, Try.ntmps15
  go_wp2_with fail
  refine h0.mono ?_
  rintro r w1 ⟨rfl, rfl⟩
  clear h0
  go_wp2_with fail
  go_ret3
  exact ⟨rfl, Below.refl _ _⟩
set_option maxHeartbeats 2000000 in
theorem Committed_nil : Calls Try.prog 12 #[.pointer none, .int .u64 q] w fun r w' => r = .returned (.tuple #[.slice none 0 0, .bool false]) ∧ Below w.heap.size w w' := by
  have h0 := find_nil (w := w) (q := q)
  go_enter Try.func12, Try.ntmps12
  go_wp2_with fail
  refine h0.mono ?_
  rintro r w1 ⟨rfl, rfl⟩
  clear h0
  go_wp2_with fail
  refine wp_region_bl (by kernel_rfl) (by kernel_rfl) ?_
  repeat (go_big_quiet_step (fail))
  refine wpQuiet_nil ?_
  rintro w2 ⟨⟨w2', hb1⟩, rfl⟩
  have HB1 := Aside0.mk hb1
  clear hb1
  go_wp2_with fail
  go_ret2
  exact ⟨rfl, HB1.out⟩
end
/-- A row of bytes, or nil. -/
def OptAt (w : World) (v : Value) : Option (List Int) → Prop
  | none => v = .slice none 0 0
  | some s => kB.R 5 w 0 tr v s
/-- A log's model. -/
structure LM where
  low : Int
  view : Int
  L : List (Int × SlotM)
def sumV (M : LM) (q : Int) : Option (List Int) := (getQ M.L q).bind fun s => if s.pre.isSome then some s.sum else none
def preparedV (f : Int) (M : LM) (q : Int) : Bool := match getQ M.L q with
  | some s => prepB f s
  | none => false
def committedV (f : Int) (M : LM) (q : Int) : Option (List Int) := (getQ M.L q).bind fun s => if commB f s then some s.sum else none
def bestV (M : LM) (q : Int) : Option CertM := (getQ M.L q).bind (·.cert)
def okSlot (s : SlotM) : Prop := okV s.prep ∧ s.sum.length ≤ 100 ∧ (∀ g, s.pre = some g → okS g) ∧ ∀ c, s.cert = some c → c.sum.length ≤ 100 ∧ c.texts.length ≤ 100 ∧ ∀ x ∈ c.texts, okS x
structure okM (M : LM) : Prop where
  low : 0 ≤ M.low
  view : 0 ≤ M.view
  slot : ∀ p ∈ M.L, okSlot p.2
  win : ∀ p ∈ M.L, M.low < p.1 ∧ p.1 ≤ M.low + 8
  nodup : (M.L.map (·.1)).Nodup
/-- A log in memory, with its model; made since w0. -/
structure St (w0 w : World) (l m : Nat) (f : Int) (M : LM) : Prop where
  below : Below w0.heap.size w0 w
  log : ∃ es, LogAt w l m f M.low M.view es ∧ absL es = M.L ∧ ∀ x ∈ foot l m es, w0.heap.size ≤ x
theorem St.keep {w0 w w' : World} {l m : Nat} {f : Int} {M : LM} (h : St w0 w l m f M) (hb : Below w.heap.size w w') : St w0 w' l m f M := by
  obtain ⟨es, h1, h2, h3⟩ := h.log
  exact ⟨h.below.trans (hb.mono h.below.size), es, h1.keep hb, h2, h3⟩
section
variable {w0 w : World} {l m : Nat} {f : Int} {M : LM} {q : Int}
theorem okM.get (h : okM M) {s : SlotM} (hs : getQ M.L q = some s) : okSlot s := by
  unfold getQ at hs
  rw [Option.map_eq_some_iff] at hs
  obtain ⟨p, hp, rfl⟩ := hs
  exact h.slot p (List.mem_of_find?_eq_some hp)
theorem Sum_any (h : St w0 w l m f M) (hM : okM M) (hq : okQ q) : Calls Try.prog 20 #[ptr l, .int .u64 q] w fun r w' => ∃ v, r = .returned (.tuple #[v, .bool (sumV M q).isSome]) ∧ OptAt w' v (sumV M q) ∧ Below w.heap.size w w' := by
  obtain ⟨es, hL, ha, _⟩ := h.log
  unfold sumV
  rw [← ha]
  cases hg : getP (pairs es) q with
  | none =>
    rw [getQ_none hg]
    refine (Sum_none hL hq hg).mono ?_
    rintro r w' ⟨rfl, hb⟩
    exact ⟨_, rfl, rfl, hb⟩
  | some s =>
    obtain ⟨a, e, b, rfl, he, _⟩ := getP_ent hg
    have hs := getQ_abs (nodup_q hL) he
    have hok := hM.get (by rw [← ha]; exact hs)
    rw [hs]
    cases hp : e.s.pre with
    | none =>
      refine (Sum_nopre hL hq he hp).mono ?_
      rintro r w' ⟨rfl, hb⟩
      refine ⟨.slice none 0 0, ?_, ?_, hb⟩
      · simp [hp]
      · simp [hp, OptAt]
    | some g =>
      refine (Sum_yes hL hq he g hp (by have := hok.2.1; omega)).mono ?_
      rintro r w' ⟨v, rfl, hr, hb⟩
      refine ⟨v, ?_, ?_, hb⟩
      · simp [hp]
      · simp [hp, OptAt]
        exact Kd.R_lower hr (Nat.zero_le _)
theorem Prepared_any (h : St w0 w l m f M) (h1 : 1 ≤ f) (h4 : f ≤ 4) (hq : okQ q) : Calls Try.prog 18 #[ptr l, .int .u64 q] w fun r w' => r = .returned (.bool (preparedV f M q)) ∧ Below w.heap.size w w' := by
  obtain ⟨es, hL, ha, _⟩ := h.log
  unfold preparedV
  rw [← ha]
  cases hg : getP (pairs es) q with
  | none =>
    rw [getQ_none hg]
    exact Prepared_none hL hq hg
  | some s =>
    obtain ⟨a, e, b, rfl, he, _⟩ := getP_ent hg
    rw [getQ_abs (nodup_q hL) he]
    exact Prepared_some hL h1 h4 hq he
theorem Committed_any (h : St w0 w l m f M) (hM : okM M) (h1 : 1 ≤ f) (h4 : f ≤ 4) (hq : okQ q) : Calls Try.prog 12 #[ptr l, .int .u64 q] w fun r w' => ∃ v, r = .returned (.tuple #[v, .bool (committedV f M q).isSome]) ∧ OptAt w' v (committedV f M q) ∧ Below w.heap.size w w' := by
  obtain ⟨es, hL, ha, _⟩ := h.log
  unfold committedV
  rw [← ha]
  cases hg : getP (pairs es) q with
  | none =>
    rw [getQ_none hg]
    refine (Committed_none hL hq hg).mono ?_
    rintro r w' ⟨rfl, hb⟩
    exact ⟨_, rfl, rfl, hb⟩
  | some s =>
    obtain ⟨a, e, b, rfl, he, _⟩ := getP_ent hg
    have hs := getQ_abs (nodup_q hL) he
    have hok := hM.get (by rw [← ha]; exact hs)
    rw [hs]
    cases hp : prepB f e.s with
    | false =>
      refine (Committed_noprep hL h1 h4 hq he hp).mono ?_
      rintro r w' ⟨rfl, hb⟩
      have hc : commB f e.s = false := by unfold commB; rw [hp]; rfl
      refine ⟨.slice none 0 0, ?_, ?_, hb⟩
      · simp [hc]
      · simp [hc, OptAt]
    | true =>
      by_cases hf : ((hits e.s.comm (strOfNums e.s.sum)).length : Int) < 2 * f + 1
      · refine (Committed_few hL h1 h4 hq he hp hf).mono ?_
        rintro r w' ⟨rfl, hb⟩
        have hc : commB f e.s = false := by unfold commB; rw [hp, df (by omega)]; rfl
        refine ⟨.slice none 0 0, ?_, ?_, hb⟩
        · simp [hc]
        · simp [hc, OptAt]
      · refine (Committed_yes hL h1 h4 hq he hp hf (by have := hok.2.1; omega)).mono ?_
        rintro r w' ⟨v, rfl, hr, hb⟩
        have hc : commB f e.s = true := by unfold commB; rw [hp, dt (by omega)]; rfl
        refine ⟨v, ?_, ?_, hb⟩
        · simp [hc]
        · simp [hc, OptAt]
          exact Kd.R_lower hr (Nat.zero_le _)
def bestView : Option CertM → Int
  | none => 0
  | some c => c.view
theorem Best_any (h : St w0 w l m f M) (hM : okM M) (hq : okQ q) : Calls Try.prog 15 #[ptr l, .int .u64 q] w fun r w' => ∃ v, r = .returned (.tuple #[.int .u64 (bestView (bestV M q)), v, .bool (bestV M q).isSome]) ∧ OptAt w' v ((bestV M q).map (·.sum)) ∧ Below w.heap.size w w' := by
  obtain ⟨es, hL, ha, _⟩ := h.log
  unfold bestV
  rw [← ha]
  cases hg : getP (pairs es) q with
  | none =>
    rw [getQ_none hg]
    refine (Best_none hL hq hg).mono ?_
    rintro r w' ⟨rfl, hb⟩
    exact ⟨_, rfl, rfl, hb⟩
  | some s =>
    obtain ⟨a, e, b, rfl, he, _⟩ := getP_ent hg
    have hs := getQ_abs (nodup_q hL) he
    have hok := hM.get (by rw [← ha]; exact hs)
    rw [hs]
    cases hp : e.s.cert with
    | none =>
      refine (Best_nocert hL hq he hp).mono ?_
      rintro r w' ⟨rfl, hb⟩
      refine ⟨.slice none 0 0, ?_, ?_, hb⟩
      · simp [hp, bestView]
      · simp [hp, OptAt]
    | some c =>
      refine (Best_yes hL hq he c hp (by have := (hok.2.2.2 c hp).1; omega)).mono ?_
      rintro r w' ⟨v, rfl, hr, hb⟩
      refine ⟨v, ?_, ?_, hb⟩
      · simp [hp, bestView]
      · simp [hp, OptAt]
        exact Kd.R_lower hr (Nat.zero_le _)
end
end Go.Proofs.Ytfjfggnbkopocaa

/- Slots: the operations, by the model. -/
/- Operations. -/
set_option linter.unusedVariables false
set_option linter.unusedSimpArgs false
namespace Go.Proofs.Ytfjfggnbkopocaa
open Go.RowKit Go.Proofs.YtfjfggnbkopocaaW.PrintWords
attribute [local go_sem] ptr

structure OpM where
  kind : Int
  from_ : Int
  seq : Int
  sum : List Int
def sigO (o : OpM) : Sig := ⟨o.from_, [o.kind % 256], o.sum⟩
structure okO (o : OpM) : Prop where
  from0 : 0 ≤ o.from_
  seq0 : 0 ≤ o.seq
  seq1 : o.seq < 18446744073709551616
  sum : o.sum.length ≤ 100
def seat (x : Int) : Nat := (x - 1).toNat
def preR (f : Int) (M : LM) (x : Sig) (q : Int) (sum : List Int) : Int × LM :=
  if askedK f M.low x.from_ q ≠ 0 then (askedK f M.low x.from_ q, M) else
  if x.from_ ≠ prim M.view f then (18, { M with L := atQ M.L q }) else
  match getQ (atQ M.L q) q with
  | none => (0, M)
  | some s => (preK sum s, { M with L := modQ (atQ M.L q) q (preM f M.view x sum) })
def prepareR (f : Int) (M : LM) (x : Sig) (q : Int) (sum : List Int) : Int × LM :=
  if askedK f M.low x.from_ q ≠ 0 then (askedK f M.low x.from_ q, M) else
  if x.from_ = prim M.view f then (18, { M with L := atQ M.L q }) else
  match getQ (atQ M.L q) q with
  | none => (0, M)
  | some s => (voteK s.prep (seat x.from_), { M with L := modQ (atQ M.L q) q (prepareM f M.view (seat x.from_) x sum) })
def commitR (f : Int) (M : LM) (x : Sig) (q : Int) (sum : List Int) : Int × LM :=
  if askedK f M.low x.from_ q ≠ 0 then (askedK f M.low x.from_ q, M) else
  match getQ (atQ M.L q) q with
  | none => (0, M)
  | some s => (voteK s.comm (seat x.from_), { M with L := modQ (atQ M.L q) q (commitM (seat x.from_) x sum) })
def enterR (M : LM) (n : Int) : Int × LM :=
  if enterK M.view n ≠ 0 then (enterK M.view n, M) else (0, ⟨M.low, n, enterL M.L fun _ => false⟩)
def advR (M : LM) (n : Int) : Int × LM :=
  if n < M.low ∨ n > 4611686018427387895 then (13, M) else (0, ⟨n, M.view, M.L.filter fun p => !decide (p.1 ≤ n)⟩)
def stepM (f : Int) (M : LM) (o : OpM) : Int × LM :=
  if o.kind = 0 then preR f M (sigO o) o.seq o.sum
  else if o.kind = 1 then prepareR f M (sigO o) o.seq o.sum
  else if o.kind = 2 then commitR f M (sigO o) o.seq o.sum
  else if o.kind = 3 then enterR M o.seq
  else if o.kind = 4 then advR M o.seq
  else (0, M)
theorem getQ_at (L : List (Int × SlotM)) (q : Int) : ∃ s, getQ (atQ L q) q = some s := by
  unfold atQ
  split
  · rename_i h
    unfold hasQ at h
    unfold getQ
    cases hf : L.find? fun p => p.1 == q with
    | none =>
      rw [List.find?_eq_none] at hf
      obtain ⟨p, hp, h1⟩ := List.any_eq_true.1 h
      exact absurd h1 (hf p hp)
    | some p => exact ⟨_, rfl⟩
  · unfold getQ
    cases hf : (L ++ [(q, freshS none)]).find? fun p => p.1 == q with
    | none =>
      rw [List.find?_eq_none] at hf
      exact absurd (by simp) (hf (q, freshS none) (by simp))
    | some p => exact ⟨_, rfl⟩
/-- Only blocks that are written have changed, and new ones are there. -/
def Calm (w w' : World) : Prop := ∃ F, Fr F w w' ∧ ∀ b ∈ F, Mut w b
theorem Calm.of_below {w w' : World} (h : Below w.heap.size w w') : Calm w w' := ⟨[], Fr.of_below h, by simp⟩
theorem Calm.row {α : Type} {d : Kd α} {e : Nat} {w w' : World} {base : Nat} {ok : Nat → Prop} {v : Value} {xs : List α} (h : Calm w w') (hr : d.R e w base ok v xs) (ht : ∀ q ∈ e :: d.E, q ≠ 59 ∧ q ≠ 67 ∧ q ≠ 93) : d.R e w' base ok v xs := by
  obtain ⟨F, h1, h2⟩ := h
  exact R_fr hr h1 h2 ht
/-- What an operation leaves, by the model. -/
abbrev LeftM (w w' : World) (l m : Nat) (f : Int) (es : List Ent) (M M' : LM) : Prop := Left w w' l m f M.low M.view es M'.low M'.view M'.L
theorem LeftM.stay {w w' : World} {l m : Nat} {f : Int} {es : List Ent} {M : LM} (hL : LogAt w l m f M.low M.view es) (ha : absL es = M.L) (hb : Below w.heap.size w w') : LeftM w w' l m f es M M :=
  ⟨⟨es, hL.keep hb, ha, fun x hx => .inl hx⟩, Fr.of_below hb⟩
section
variable {w0 w : World} {l m : Nat} {f : Int} {M : LM} {q : Int} {x : Sig} {sum : List Int} {A1 A2 A : Option Addr} {c1 c2 c : Nat}
theorem St.of_left {w' : World} {es : List Ent} {low' view' : Int} {L' : List (Int × SlotM)} (hb : Below w0.heap.size w0 w) (hf : ∀ b ∈ foot l m es, w0.heap.size ≤ b) (h : Left w w' l m f M.low M.view es low' view' L') : St w0 w' l m f ⟨low', view', L'⟩ := by
  obtain ⟨⟨es', h1, h2, h3⟩, h4⟩ := h
  refine ⟨hb.trans (h4.below hb.size hf), es', h1, h2, fun b hb' => ?_⟩
  rcases h3 b hb' with h5 | h5
  · exact hf b h5
  · exact Nat.le_trans hb.size h5
/-- Bytes that can be read since w0, below it or in a block of no log. -/
structure Arg (w0 w : World) (l m : Nat) (A : Option Addr) (bs : List Int) : Prop where
  read : ∀ es f low view, LogAt w l m f low view es → (∀ b ∈ foot l m es, w0.heap.size ≤ b) → Read (foot l m es) w A bs
theorem Arg.old (hb : Below w0.heap.size w0 w) (hC : kB.C w0 A sum.length sum) : Arg w0 w l m A sum :=
  ⟨fun es f low view h hf w' hF => Kd.C_below hC (hb.trans (hF.below hb.size hf))⟩
theorem Arg.row {v : Value} (hv : v = .slice A sum.length c) (hr : kB.R 5 w 0 tr v sum) : Arg w0 w l m A sum :=
  ⟨fun es f low view h hf w' hF => by
    have h1 := R_fr hr hF h.mut kB_types
    rw [hv] at h1
    exact (Kd.R_reads' h1).2.2⟩
theorem hM_ok (hM : okM M) {es : List Ent} (ha : absL es = M.L) : ∀ p ∈ absL es, okV p.2.prep := fun p hp => (hM.slot p (by rw [← ha]; exact hp)).1
theorem seat_of (h0 : 0 ≤ x.from_) (h : askedK f M.low x.from_ q = 0) : x.from_ = (seat x.from_ : Int) + 1 := by
  have := asked_ok h
  unfold seat
  omega
theorem preR_any (es : List Ent) (hL : LogAt w l m f M.low M.view es) (ha : absL es = M.L) (hf : ∀ b ∈ foot l m es, w0.heap.size ≤ b) (hM : okM M) (h1 : 1 ≤ f) (h4 : f ≤ 4) (hx0 : 0 ≤ x.from_) (hx : okS x) (hq0 : 0 ≤ q) (hq1 : q < 18446744073709551616) (hsl : sum.length ≤ 100) (hlc : sum.length ≤ c)
    (a1 : Arg w0 w l m A1 x.b) (a2 : Arg w0 w l m A2 x.tag) (a3 : Arg w0 w l m A sum) :
    Calls Try.prog 21 #[ptr l, .agg #[.int .u64 x.from_, .slice A1 x.b.length c1, .slice A2 x.tag.length c2], .int .u64 q, .slice A sum.length c] w fun r w' => r = .returned (.int .i64 (preR f M x q sum).1) ∧ LeftM w w' l m f es M (preR f M x q sum).2 := by
  unfold preR
  by_cases hk : askedK f M.low x.from_ q = 0
  · rw [if_neg (by simpa using hk)]
    have hs := seat_of hx0 hk
    have r1 := a1.read es f _ _ hL hf
    have r2 := a2.read es f _ _ hL hf
    have r3 := a3.read es f _ _ hL hf
    by_cases hp : x.from_ = prim M.view f
    · rw [if_neg (by simpa using hp)]
      obtain ⟨s, hg⟩ := getQ_at M.L q
      rw [hg]
      rw [← ha] at hg ⊢
      cases hpre : s.pre with
      | none =>
        refine (Pre_first hL h1 h4 hM.low hM.view (hM_ok hM ha) x q sum A1 A2 A c1 c2 c hq0 hq1 hx r1 r2 r3 _ hs hk hp hlc s hg hpre (by omega)).mono ?_
        rintro r w' ⟨rfl, hl⟩
        exact ⟨rfl, hl⟩
      | some g =>
        refine (Pre_again hL h1 h4 hM.low hM.view (hM_ok hM ha) x q sum A1 A2 A c1 c2 c hq0 hq1 hx r1 r2 r3 _ hs hk hp hlc s hg g hpre).mono ?_
        rintro r w' ⟨rfl, hl⟩
        exact ⟨rfl, hl⟩
    · rw [if_pos (by simpa using hp)]
      rw [← ha]
      refine (Pre_other hL h1 h4 hM.low hM.view (hM_ok hM ha) x q sum A1 A2 A c1 c2 c hq0 hq1 hx r1 r2 r3 _ hs hk hp).mono ?_
      rintro r w' ⟨rfl, hl⟩
      exact ⟨rfl, hl⟩
  · rw [if_pos (by simpa using hk)]
    refine (Pre_bad hL h1 h4 hM.low x.from_ q _ _ _ hx0 hq0 hq1 hk).mono ?_
    rintro r w' ⟨rfl, hb⟩
    exact ⟨rfl, LeftM.stay hL ha hb⟩
theorem prepareR_any (es : List Ent) (hL : LogAt w l m f M.low M.view es) (ha : absL es = M.L) (hf : ∀ b ∈ foot l m es, w0.heap.size ≤ b) (hM : okM M) (h1 : 1 ≤ f) (h4 : f ≤ 4) (hx0 : 0 ≤ x.from_) (hx : okS x) (hq0 : 0 ≤ q) (hq1 : q < 18446744073709551616)
    (a1 : Arg w0 w l m A1 x.b) (a2 : Arg w0 w l m A2 x.tag) (a3 : Arg w0 w l m A sum) :
    Calls Try.prog 22 #[ptr l, .agg #[.int .u64 x.from_, .slice A1 x.b.length c1, .slice A2 x.tag.length c2], .int .u64 q, .slice A sum.length c] w fun r w' => r = .returned (.int .i64 (prepareR f M x q sum).1) ∧ LeftM w w' l m f es M (prepareR f M x q sum).2 := by
  unfold prepareR
  by_cases hk : askedK f M.low x.from_ q = 0
  · rw [if_neg (by simpa using hk)]
    have hs := seat_of hx0 hk
    have r1 := a1.read es f _ _ hL hf
    have r2 := a2.read es f _ _ hL hf
    have r3 := a3.read es f _ _ hL hf
    by_cases hp : x.from_ = prim M.view f
    · rw [if_pos hp, ← ha]
      refine (Prepare_prim hL h1 h4 hM.low hM.view (hM_ok hM ha) x q sum A1 A2 A c1 c2 c hq0 hq1 hx r1 r2 r3 _ hs hk hp).mono ?_
      rintro r w' ⟨rfl, hl⟩
      exact ⟨rfl, hl⟩
    · rw [if_neg hp, ← ha]
      refine (Prepare_ok hL h1 h4 hM.low hM.view (hM_ok hM ha) x q sum A1 A2 A c1 c2 c hq0 hq1 hx r1 r2 r3 _ hs hk hp).mono ?_
      rintro r w' ⟨s, hg, rfl, hl⟩
      rw [hg]
      exact ⟨rfl, hl⟩
  · rw [if_pos (by simpa using hk)]
    refine (Prepare_bad hL h1 h4 hM.low x.from_ q _ _ _ hx0 hq0 hq1 hk).mono ?_
    rintro r w' ⟨rfl, hb⟩
    exact ⟨rfl, LeftM.stay hL ha hb⟩
theorem commitR_any (es : List Ent) (hL : LogAt w l m f M.low M.view es) (ha : absL es = M.L) (hf : ∀ b ∈ foot l m es, w0.heap.size ≤ b) (hM : okM M) (h1 : 1 ≤ f) (h4 : f ≤ 4) (hx0 : 0 ≤ x.from_) (hx : okS x) (hq0 : 0 ≤ q) (hq1 : q < 18446744073709551616)
    (a1 : Arg w0 w l m A1 x.b) (a2 : Arg w0 w l m A2 x.tag) (a3 : Arg w0 w l m A sum) :
    Calls Try.prog 23 #[ptr l, .agg #[.int .u64 x.from_, .slice A1 x.b.length c1, .slice A2 x.tag.length c2], .int .u64 q, .slice A sum.length c] w fun r w' => r = .returned (.int .i64 (commitR f M x q sum).1) ∧ LeftM w w' l m f es M (commitR f M x q sum).2 := by
  unfold commitR
  by_cases hk : askedK f M.low x.from_ q = 0
  · rw [if_neg (by simpa using hk)]
    have hs := seat_of hx0 hk
    have r1 := a1.read es f _ _ hL hf
    have r2 := a2.read es f _ _ hL hf
    have r3 := a3.read es f _ _ hL hf
    rw [← ha]
    refine (Commit_ok hL h1 h4 hM.low hM.view (hM_ok hM ha) x q sum A1 A2 A c1 c2 c hq0 hq1 hx r1 r2 r3 _ hs hk).mono ?_
    rintro r w' ⟨s, hg, rfl, hl⟩
    rw [hg]
    exact ⟨rfl, hl⟩
  · rw [if_pos (by simpa using hk)]
    refine (Commit_bad hL h1 h4 hM.low x.from_ q _ _ _ hx0 hq0 hq1 hk).mono ?_
    rintro r w' ⟨rfl, hb⟩
    exact ⟨rfl, LeftM.stay hL ha hb⟩
theorem enterR_any (es : List Ent) (hL : LogAt w l m f M.low M.view es) (ha : absL es = M.L) (hf : ∀ b ∈ foot l m es, w0.heap.size ≤ b) (h1 : 1 ≤ f) (h4 : f ≤ 4) (n : Int) : Calls Try.prog 24 #[ptr l, .int .u64 n] w fun r w' => r = .returned (.int .i64 (enterR M n).1) ∧ LeftM w w' l m f es M (enterR M n).2 := by
  unfold enterR
  by_cases hk : enterK M.view n = 0
  · rw [if_neg (by simpa using hk)]
    refine (Enter_ok hL h1 h4 hk).mono ?_
    rintro r w' ⟨rfl, es', hL', ha', hfo, hfr⟩
    rw [ha] at ha'
    exact ⟨rfl, ⟨⟨es', hL', ha', hfo⟩, hfr⟩⟩
  · rw [if_pos (by simpa using hk)]
    refine (Enter_bad hL hk).mono ?_
    rintro r w' ⟨rfl, rfl⟩
    exact ⟨rfl, LeftM.stay hL ha (Below.refl _ _)⟩
theorem advR_any (es : List Ent) (hL : LogAt w l m f M.low M.view es) (ha : absL es = M.L) (hf : ∀ b ∈ foot l m es, w0.heap.size ≤ b) (n : Int) : Calls Try.prog 25 #[ptr l, .int .u64 n] w fun r w' => r = .returned (.int .i64 (advR M n).1) ∧ LeftM w w' l m f es M (advR M n).2 := by
  unfold advR
  by_cases hk : n < M.low ∨ n > 4611686018427387895
  · rw [if_pos hk]
    refine (Advance_bad hL hk).mono ?_
    rintro r w' ⟨rfl, hb⟩
    exact ⟨rfl, LeftM.stay hL ha hb⟩
  · rw [if_neg hk]
    refine (Advance_ok hL (fun h5 => hk (.inl h5)) (fun h5 => hk (.inr h5))).mono ?_
    rintro r w' ⟨rfl, hL', hfr⟩
    refine ⟨rfl, ⟨⟨_, hL', ?_, fun x hx => .inl ((drop_foot l m es n).subset hx)⟩, hfr⟩⟩
    rw [← ha]
    unfold absL dropE
    rw [List.filter_map]
    rfl
end
end Go.Proofs.Ytfjfggnbkopocaa
