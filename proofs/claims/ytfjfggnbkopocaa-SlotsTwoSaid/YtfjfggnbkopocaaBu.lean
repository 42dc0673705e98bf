/- Slots: two logs: what is said, and why two sums are never committed. -/
import Derived.Test.YtfjfggnbkopocaaBn
/- Two logs. -/
set_option linter.unusedVariables false
set_option linter.unusedSimpArgs false
namespace Go.Proofs.Ytfjfggnbkopocaa
open Go.RowKit Go.Proofs.YtfjfggnbkopocaaW.PrintWords PSlotsTwo

/-- An operation, with where its sum lies. -/
structure ROp where
  f0 : Int
  f1 : Int
  f2 : Int
  A : Option Addr
  c : Nat
  sum : List Int
def opR (x : ROp) : OpM := ⟨x.f0, x.f1, x.f2, x.sum⟩
def keyB (a b : ROp) : Bool := a.f0 == b.f0 && (a.f1 == b.f1 && a.f2 == b.f2)
theorem keyB_eq {a b : ROp} : keyB a b = true ↔ a.f0 = b.f0 ∧ a.f1 = b.f1 ∧ a.f2 = b.f2 := by
  unfold keyB
  simp
def takeS (e o : ROp) : ROp := { o with A := e.A, c := e.c, sum := e.sum }
/-- What is said already takes the place. -/
def look (said : List ROp) (o : ROp) : ROp := said.foldl (fun acc e => if keyB e o then takeS e acc else acc) o
theorem look_snoc (said : List ROp) (e o : ROp) : look (said ++ [e]) o = if keyB e o then takeS e (look said o) else look said o := by
  unfold look
  rw [List.foldl_append]
  rfl
theorem look_key (o : ROp) : ∀ (said : List ROp) (acc : ROp), acc.f0 = o.f0 ∧ acc.f1 = o.f1 ∧ acc.f2 = o.f2 → (said.foldl (fun acc e => if keyB e o then takeS e acc else acc) acc).f0 = o.f0 ∧ (said.foldl (fun acc e => if keyB e o then takeS e acc else acc) acc).f1 = o.f1 ∧ (said.foldl (fun acc e => if keyB e o then takeS e acc else acc) acc).f2 = o.f2
  | [], acc, h => h
  | e :: r, acc, h => by
    rw [List.foldl_cons]
    refine look_key o r _ ?_
    split
    · exact h
    · exact h
theorem look_same (said : List ROp) (o : ROp) : (look said o).f0 = o.f0 ∧ (look said o).f1 = o.f1 ∧ (look said o).f2 = o.f2 := look_key o said o ⟨rfl, rfl, rfl⟩
theorem look_any {said : List ROp} {o : ROp} (P : ROp → Prop) (ho : P o) (hs : ∀ e ∈ said, P e) (hp : ∀ e a, P e → P a → P (takeS e a)) : P (look said o) := by
  unfold look
  have key : ∀ (r : List ROp) (acc : ROp), (∀ e ∈ r, P e) → P acc → P (r.foldl (fun acc e => if keyB e o then takeS e acc else acc) acc) := by
    intro r
    induction r with
    | nil => intro acc _ h; exact h
    | cons e r ih =>
      intro acc hr h
      rw [List.foldl_cons]
      refine ih _ (fun x hx => hr x (by simp [hx])) ?_
      split
      · exact hp _ _ (hr e (by simp)) h
      · exact h
  exact key said o hs ho
theorem look_some_n {o : ROp} : ∀ (n : Nat) (said : List ROp), said.length = n → said.any (fun e => keyB e o) = true → ∃ e ∈ said, keyB e o = true ∧ (look said o).sum = e.sum
  | 0, said, hn, h => by
    obtain rfl := List.eq_nil_of_length_eq_zero hn
    simp at h
  | n + 1, said, hn, h => by
    obtain ⟨r, e, rfl⟩ : ∃ r e, said = r ++ [e] := by
      rcases List.eq_nil_or_concat said with rfl | ⟨L, b, h⟩
      · cases hn
      · exact ⟨L, b, by rw [h]; simp⟩
    rw [look_snoc]
    by_cases he : keyB e o = true
    · rw [if_pos he]
      exact ⟨e, by simp, he, rfl⟩
    · rw [if_neg he]
      rw [List.any_append] at h
      have h1 : r.any (fun e => keyB e o) = true := by simpa [he] using h
      obtain ⟨e', h2, h3, h4⟩ := look_some_n n r (by simpa using hn) h1
      exact ⟨e', by simp [h2], h3, h4⟩
theorem look_some {o : ROp} (said : List ROp) (h : said.any (fun e => keyB e o) = true) : ∃ e ∈ said, keyB e o = true ∧ (look said o).sum = e.sum := look_some_n _ said rfl h
theorem look_none {o : ROp} : ∀ (said : List ROp), said.any (fun e => keyB e o) = false → look said o = o := by
  intro said h
  have hn : ∀ e ∈ said, ¬ keyB e o = true := fun e he hk => by
    have : said.any (fun e => keyB e o) = true := List.any_eq_true.2 ⟨e, he, hk⟩
    rw [h] at this
    cases this
  unfold look
  have key : ∀ (r : List ROp) (acc : ROp), (∀ e ∈ r, ¬ keyB e o = true) → r.foldl (fun acc e => if keyB e o then takeS e acc else acc) acc = acc := by
    intro r
    induction r with
    | nil => intro acc _; rfl
    | cons e r ih =>
      intro acc hr
      rw [List.foldl_cons, if_neg (hr e (by simp))]
      exact ih acc (fun x hx => hr x (by simp [hx]))
  exact key said o hn
/-- What is said of one thing is one. -/
def SU (said : List ROp) : Prop := ∀ a ∈ said, ∀ b ∈ said, keyB a b = true → a.sum = b.sum
theorem SU_push {said : List ROp} {o : ROp} (h : SU said) (hn : said.any (fun e => keyB e o) = false) : SU (said ++ [o]) := by
  have hn' : ∀ e ∈ said, keyB e o = false := fun e he => by
    cases hk : keyB e o with
    | false => rfl
    | true =>
      have : said.any (fun e => keyB e o) = true := List.any_eq_true.2 ⟨e, he, hk⟩
      rw [hn] at this
      cases this
  intro a ha b hb hk
  rcases List.mem_append.1 ha with ha | ha
  · rcases List.mem_append.1 hb with hb | hb
    · exact h a ha b hb hk
    · rw [List.mem_singleton.1 hb] at hk
      rw [hn' a ha] at hk
      cases hk
  · rcases List.mem_append.1 hb with hb | hb
    · rw [List.mem_singleton.1 ha] at hk
      have : keyB b o = true := by
        rw [keyB_eq] at hk ⊢
        exact ⟨hk.1.symm, hk.2.1.symm, hk.2.2.symm⟩
      rw [hn' b hb] at this
      cases this
    · rw [List.mem_singleton.1 ha, List.mem_singleton.1 hb]
def faultyB (F : List Int) (x : Int) : Bool := F.any fun y => y == x
/-- Each vote of somebody that is not faulty was said. -/
def HV (f : Int) (F : List Int) (said : List ROp) (M : LM) : Prop := ∀ q s, getQ M.L q = some s → ∀ i v, s.comm i = some v → (i : Int) < 3 * f + 1 ∧ (faultyB F ((i : Int) + 1) = false → ∃ e ∈ said, e.f0 = 2 ∧ e.f1 = (i : Int) + 1 ∧ e.f2 = q ∧ e.sum = v.sig.tag)
theorem HV_more {f : Int} {F : List Int} {said : List ROp} {M : LM} (h : HV f F said M) (o : ROp) : HV f F (said ++ [o]) M := fun q s hs i v hv =>
  ⟨(h q s hs i v hv).1, fun hb => by
    obtain ⟨e, he, h1⟩ := (h q s hs i v hv).2 hb
    exact ⟨e, by simp [he], h1⟩⟩
theorem HV_sub {f : Int} {F : List Int} {said : List ROp} {M M' : LM} (h : HV f F said M) (hs : ∀ q s', getQ M'.L q = some s' → ∀ i v, s'.comm i = some v → ∃ s, getQ M.L q = some s ∧ s.comm i = some v) : HV f F said M' := fun q s' hq i v hv => by
  obtain ⟨s, h1, h2⟩ := hs q s' hq i v hv
  exact h q s h1 i v h2
theorem settle_comm (f view : Int) (s : SlotM) : (settleM f view s).comm = s.comm := by
  unfold settleM
  split
  · split <;> rfl
  · rfl
theorem HV_at {f : Int} {F : List Int} {said : List ROp} {M : LM} {q : Int} (h : HV f F said M) : HV f F said { M with L := atQ M.L q } := HV_sub h fun q' s' hs i v hv => by
  have hs' : getQ (atQ M.L q) q' = some s' := hs
  rw [getQ_atQ] at hs'
  split at hs'
  · cases hg : getQ M.L q' with
    | none =>
      rw [hg] at hs'
      obtain rfl := Option.some.inj hs'
      cases hv
    | some s =>
      rw [hg] at hs'
      obtain rfl := Option.some.inj hs'
      exact ⟨_, rfl, hv⟩
  · exact ⟨s', hs', hv⟩
theorem HV_mod {f : Int} {F : List Int} {said : List ROp} {M : LM} {q : Int} {g : SlotM → SlotM} (h : HV f F said M) (hg : ∀ s, (g s).comm = s.comm) : HV f F said { M with L := modQ M.L q g } := HV_sub h fun q' s' hs i v hv => by
  have hs' : getQ (modQ M.L q g) q' = some s' := hs
  rw [getQ_mod] at hs'
  split at hs'
  · cases hg2 : getQ M.L q' with
    | none => rw [hg2] at hs'; cases hs'
    | some s =>
      rw [hg2] at hs'
      obtain rfl := Option.some.inj hs'
      rw [hg] at hv
      exact ⟨s, rfl, hv⟩
  · exact ⟨s', hs', hv⟩
theorem HV_step {f : Int} {F : List Int} {said : List ROp} {M : LM} {o : OpM} (h : HV f F said M) (ho : okO o) (hs : o.kind = 2 → faultyB F o.from_ = false → ∃ e ∈ said, e.f0 = 2 ∧ e.f1 = o.from_ ∧ e.f2 = o.seq ∧ e.sum = o.sum) : HV f F said (stepM f M o).2 := by
  unfold stepM
  split
  · unfold preR
    split
    · exact h
    split
    · exact HV_at h
    · obtain ⟨s, hg⟩ := getQ_at M.L o.seq
      rw [hg]
      refine HV_mod (M := { M with L := atQ M.L o.seq }) (HV_at h) (fun s => ?_)
      unfold preM
      split
      · rw [settle_comm]
      · split
        · rw [settle_comm]
        · rfl
  split
  · unfold prepareR
    split
    · exact h
    split
    · exact HV_at h
    · obtain ⟨s, hg⟩ := getQ_at M.L o.seq
      rw [hg]
      exact HV_mod (M := { M with L := atQ M.L o.seq }) (HV_at h) (fun s => by unfold prepareM; rw [settle_comm])
  split
  · rename_i k2
    unfold commitR
    by_cases ha : askedK f M.low (sigO o).from_ o.seq = 0
    · rw [if_neg (by simpa using ha)]
      obtain ⟨s, hg⟩ := getQ_at M.L o.seq
      rw [hg]
      have h1 := HV_at (q := o.seq) h
      intro q s' hs' i v hv
      have hs2 : getQ (modQ (atQ M.L o.seq) o.seq (commitM (seat o.from_) (sigO o) o.sum)) q = some s' := hs'
      rw [getQ_mod] at hs2
      split at hs2
      · rename_i hq
        cases hg2 : getQ (atQ M.L o.seq) q with
        | none => rw [hg2] at hs2; cases hs2
        | some s0 =>
          rw [hg2] at hs2
          obtain rfl := Option.some.inj hs2
          have hv2 : voteM s0.comm (seat o.from_) (sigO o) o.sum i = some v := hv
          unfold voteM at hv2
          split at hv2
          · exact h1 q s0 hg2 i v hv2
          · unfold addV at hv2
            split at hv2
            · rename_i hi
              obtain rfl := Option.some.inj hv2
              have hse := seat_of (x := sigO o) ho.from0 ha
              have hse2 : o.from_ = (seat o.from_ : Int) + 1 := hse
              have hk := asked_ok ha
              have hk4 : ¬ o.from_ > 3 * f + 1 := hk.2.2.2
              rw [hi]
              refine ⟨by omega, fun hb => ?_⟩
              rw [← hse2] at hb
              obtain ⟨e, he, e1, e2, e3, e4⟩ := hs k2 hb
              exact ⟨e, he, e1, by rw [e2]; exact hse2, by rw [e3, hq], e4⟩
            · exact h1 q s0 hg2 i v hv2
      · exact h1 q s' hs2 i v hv
    · rw [if_pos (by simpa using ha)]
      exact h
  split
  · unfold enterR
    split
    · exact h
    · refine HV_sub h fun q s' hs' i v hv => ?_
      have hs2 : getQ (enterL M.L fun _ => false) q = some s' := hs'
      rw [getQ_enter] at hs2
      cases hg : getQ M.L q with
      | none => rw [hg] at hs2; cases hs2
      | some s =>
        rw [hg] at hs2
        obtain rfl := Option.some.inj hs2
        cases hv
  split
  · unfold advR
    split
    · exact h
    · refine HV_sub h fun q s' hs' i v hv => ?_
      have hs2 : getQ (M.L.filter fun p => !decide (p.1 ≤ o.seq)) q = some s' := hs'
      by_cases hq : o.seq < q
      · rw [getQ_filter _ _ _ hq] at hs2
        exact ⟨s', hs2, hv⟩
      · exfalso
        unfold getQ at hs2
        rw [Option.map_eq_some_iff] at hs2
        obtain ⟨p, hp, _⟩ := hs2
        have h1 := (List.mem_filter.1 (List.mem_of_find?_eq_some hp)).2
        have h2 : p.1 = q := by simpa using List.find?_some hp
        have h3 : ¬ p.1 ≤ o.seq := by simpa using h1
        omega
  · exact h
/-- Which seats have voted for a word. -/
def seats (V : Votes) (s : ByteArray) (n : Nat) : List Nat := (List.range n).filter fun i => match V i with
  | some v => v.word.toList == s.toList
  | none => false
theorem hits_seats (V : Votes) (s : ByteArray) : ∀ n, (hitsTo V s n).length = (seats V s n).length
  | 0 => rfl
  | n + 1 => by
    have h := hits_seats V s n
    unfold seats at h ⊢
    rw [List.range_succ, List.filter_append, List.length_append, ← h]
    show (hitsTo V s n ++ hit V s n).length = _
    rw [List.length_append]
    congr 1
    unfold hit
    cases hv : V n with
    | none => simp [hv]
    | some v =>
      cases hw : (v.word.toList == s.toList)
      · simp [hv, hw]
      · simp [hv, hw]
theorem seats_few {V : Votes} {s : ByteArray} {m : Nat} (h : ∀ i v, V i = some v → i < m) : ∀ n, m ≤ n → (seats V s n).length = (seats V s m).length := by
  intro n hn
  induction n with
  | zero => rw [show m = 0 by omega]
  | succ n ih =>
    by_cases e : m = n + 1
    · rw [e]
    · rw [← ih (by omega)]
      unfold seats
      rw [List.range_succ, List.filter_append, List.length_append]
      have : V n = none := by
        cases hv : V n with
        | none => rfl
        | some v => have := h n v hv; omega
      simp [this]
theorem meet_many {α : Type} (l : List α) (p q : α → Bool) : (l.filter p).length + (l.filter q).length ≤ l.length + (l.filter fun x => p x && q x).length := by
  induction l with
  | nil => simp
  | cons x r ih =>
    rw [List.filter_cons, List.filter_cons, List.filter_cons]
    cases p x <;> cases q x <;> simp <;> omega
/-- Two sums are never committed under one number. -/
theorem two_same {f : Int} {F : List Int} {said : List ROp} {Ma Mb : LM} (h1 : 1 ≤ f) (h4 : f ≤ 4) (hF : (F.length : Int) ≤ f) (hs : SU said) (ia : Inv f Ma) (ib : Inv f Mb) (ha : HV f F said Ma) (hb : HV f F said Mb) {q : Int} {x y : List Int}
    (hx : committedV f Ma q = some x) (hy : committedV f Mb q = some y) : x = y := by
  unfold committedV at hx hy
  cases ga : getQ Ma.L q with
  | none => rw [ga] at hx; cases hx
  | some sa =>
    cases gb : getQ Mb.L q with
    | none => rw [gb] at hy; cases hy
    | some sb =>
      rw [ga] at hx
      rw [gb] at hy
      simp only [Option.bind_some] at hx hy
      split at hx
      · rename_i ca
        split at hy
        · rename_i cb
          obtain rfl := Option.some.inj hx
          obtain rfl := Option.some.inj hy
          unfold commB at ca cb
          simp only [Bool.and_eq_true, decide_eq_true_eq] at ca cb
          have na := ca.2
          have nb := cb.2
          obtain ⟨n, hn⟩ : ∃ n : Nat, (n : Int) = 3 * f + 1 := ⟨(3 * f + 1).toNat, by omega⟩
          have fa : ∀ i v, sa.comm i = some v → i < n := fun i v hv => by have := (ha q sa ga i v hv).1; omega
          have fb : ∀ i v, sb.comm i = some v → i < n := fun i v hv => by have := (hb q sb gb i v hv).1; omega
          unfold hits at na nb
          rw [hits_seats, seats_few fa 13 (by omega)] at na
          rw [hits_seats, seats_few fb 13 (by omega)] at nb
          have hm := meet_many (List.range n) (fun i => match sa.comm i with
            | some v => v.word.toList == (strOfNums sa.sum).toList
            | none => false) (fun i => match sb.comm i with
            | some v => v.word.toList == (strOfNums sb.sum).toList
            | none => false)
          rw [List.length_range] at hm
          unfold seats at na nb
          obtain ⟨both, hboth⟩ : ∃ l, (List.range n).filter (fun i => (match sa.comm i with
            | some v => v.word.toList == (strOfNums sa.sum).toList
            | none => false) && (match sb.comm i with
            | some v => v.word.toList == (strOfNums sb.sum).toList
            | none => false)) = l := ⟨_, rfl⟩
          rw [hboth] at hm
          have hlen : F.length < both.length := by omega
          have hnd : both.Nodup := by
            rw [← hboth]
            exact List.nodup_range.filter _
          have hex : ∃ i ∈ both, faultyB F ((i : Int) + 1) = false := by
            apply Classical.byContradiction
            intro hno
            have hall : ∀ i ∈ both, ((i : Int) + 1) ∈ F := fun i hi => by
              cases hfb : faultyB F ((i : Int) + 1) with
              | false => exact absurd ⟨i, hi, hfb⟩ hno
              | true =>
                obtain ⟨y, hy, he⟩ := List.any_eq_true.1 hfb
                have : y = (i : Int) + 1 := by simpa using he
                rw [← this]
                exact hy
            have hnd2 : (both.map fun i : Nat => (i : Int) + 1).Nodup := by
              unfold List.Nodup at hnd ⊢
              rw [List.pairwise_map]
              exact hnd.imp (fun {a b} h e => h (by omega))
            have := List.Nodup.length_le_of_subset hnd2 (l₂ := F) (fun z hz => by
              obtain ⟨i, hi, rfl⟩ := List.mem_map.1 hz
              exact hall i hi)
            rw [List.length_map] at this
            omega
          obtain ⟨i, hi, hfb⟩ := hex
          rw [← hboth] at hi
          have hi2 := (List.mem_filter.1 hi).2
          simp only [Bool.and_eq_true] at hi2
          obtain ⟨w1, w2⟩ := hi2
          cases va : sa.comm i with
          | none => rw [va] at w1; cases w1
          | some v1 =>
            cases vb : sb.comm i with
            | none => rw [vb] at w2; cases w2
            | some v2 =>
              rw [va] at w1
              rw [vb] at w2
              simp only at w1 w2
              obtain ⟨_, o2, o3⟩ := (ia.get ga).1.comm i v1 va
              obtain ⟨_, p2, p3⟩ := (ib.get gb).1.comm i v2 vb
              rw [o2] at w1
              rw [p2] at w2
              have t1 := word_inj o3 (ia.get ga).1.sum w1
              have t2 := word_inj p3 (ib.get gb).1.sum w2
              obtain ⟨e1, m1, a0, a1, a2, a3⟩ := (ha q sa ga i v1 va).2 hfb
              obtain ⟨e2, m2, b0, b1, b2, b3⟩ := (hb q sb gb i v2 vb).2 hfb
              have := hs e1 m1 e2 m2 (keyB_eq.2 ⟨by rw [a0, b0], by rw [a1, b1], by rw [a2, b2]⟩)
              rw [← t1, ← t2, ← a3, ← b3]
              exact this
        · cases hy
      · cases hx
end Go.Proofs.Ytfjfggnbkopocaa
