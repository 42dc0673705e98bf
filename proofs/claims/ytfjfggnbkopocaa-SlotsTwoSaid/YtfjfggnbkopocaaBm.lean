/- Slots: what the model keeps. -/
import Derived.Test.YtfjfggnbkopocaaBj
import Derived.Lib.Bytes
/- Invariants. -/
set_option linter.unusedVariables false
set_option linter.unusedSimpArgs false
namespace Go.Proofs.Ytfjfggnbkopocaa
open Go.RowKit Go.Proofs.YtfjfggnbkopocaaW.PrintWords

def isB (l : List Int) : Prop := ∀ x ∈ l, 0 ≤ x ∧ x < 256
theorem str_inj : ∀ {a b : List Int}, isB a → isB b → (a.map fun n => UInt8.ofNat n.toNat) = (b.map fun n => UInt8.ofNat n.toNat) → a = b
  | [], [], _, _, _ => rfl
  | [], y :: b, _, _, h => by simp at h
  | x :: a, [], _, _, h => by simp at h
  | x :: a, y :: b, ha, hb, h => by
    simp only [List.map_cons, List.cons.injEq] at h
    obtain ⟨h1, h2⟩ := h
    have hx := ha x (by simp)
    have hy := hb y (by simp)
    have h3 := congrArg UInt8.toNat h1
    simp only [UInt8.toNat_ofNat'] at h3
    have h4 : x = y := by omega
    rw [h4, str_inj (fun z hz => ha z (by simp [hz])) (fun z hz => hb z (by simp [hz])) h2]
theorem word_inj {a b : List Int} (ha : isB a) (hb : isB b) (h : ((strOfNums a).toList == (strOfNums b).toList) = true) : a = b := by
  have h1 : (strOfNums a).toList = (strOfNums b).toList := by simpa using h
  rw [Go.Lib.strOfNums_toList, Go.Lib.strOfNums_toList] at h1
  exact str_inj ha hb h1
/-- A vote that is told by seat i for its own word. -/
def okVote (i : Nat) (v : Vote) : Prop := v.sig.from_ = (i : Int) + 1 ∧ v.word = strOfNums v.sig.tag ∧ isB v.sig.tag
def certI (f : Int) (c : CertM) : Prop := ∃ g ts, c.texts = g :: ts ∧ (ts.length : Int) = 2 * f ∧ g.from_ = prim c.view f ∧ (∀ x ∈ g :: ts, x.tag = c.sum) ∧ ts.Pairwise (fun x y => x.from_ < y.from_) ∧ ∀ x ∈ ts, x.from_ ≠ g.from_
structure slotI0 (f view : Int) (s : SlotM) : Prop where
  pre : ∀ g, s.pre = some g → g.from_ = prim view f ∧ g.tag = s.sum
  cert : ∀ c, s.cert = some c → c.view ≤ view ∧ (c.view = view → s.pre.isSome ∧ c.sum = s.sum) ∧ certI f c ∧ isB c.sum ∧ 0 ≤ c.view
  prep : ∀ i v, s.prep i = some v → okVote i v ∧ v.sig.from_ ≠ prim view f
  comm : ∀ i v, s.comm i = some v → okVote i v
  sum : isB s.sum
structure slotI (f view : Int) (s : SlotM) : Prop extends slotI0 f view s where
  done : prepB f s = true → ∃ c, s.cert = some c ∧ c.view = view
theorem hits_sorted {V : Votes} (h : ∀ i v, V i = some v → v.sig.from_ = (i : Int) + 1) (s : ByteArray) : ∀ n, (hitsTo V s n).Pairwise (fun x y => x.from_ < y.from_) ∧ ∀ x ∈ hitsTo V s n, x.from_ ≤ n
  | 0 => ⟨List.Pairwise.nil, by simp [hitsTo]⟩
  | n + 1 => by
    obtain ⟨h1, h2⟩ := hits_sorted h s n
    have h3 : ∀ x ∈ hit V s n, x.from_ = (n : Int) + 1 := by
      intro x hx
      unfold hit at hx
      split at hx
      · rename_i v hv
        split at hx
        · rw [List.mem_singleton.1 hx]
          exact h n v hv
        · cases hx
      · cases hx
    have h4 := hit_len V s n
    refine ⟨List.pairwise_append.2 ⟨h1, ?_, fun x hx y hy => ?_⟩, fun x hx => ?_⟩
    · match hh : hit V s n, h4 with
      | [], _ => exact List.Pairwise.nil
      | [x], _ => exact List.pairwise_singleton _ _
      | x :: y :: r, h4 => simp at h4
    · have := h2 x hx
      have := h3 y hy
      omega
    · rcases List.mem_append.1 hx with hx | hx
      · have := h2 x hx
        omega
      · have := h3 x hx
        omega
theorem hits_mem {V : Votes} {s : ByteArray} {x : Sig} : ∀ n, x ∈ hitsTo V s n → ∃ i v, i < n ∧ V i = some v ∧ (v.word.toList == s.toList) = true ∧ x = v.sig
  | 0, h => by simp [hitsTo] at h
  | n + 1, h => by
    rcases List.mem_append.1 h with h | h
    · obtain ⟨i, v, h1, h2⟩ := hits_mem n h
      exact ⟨i, v, by omega, h2⟩
    · unfold hit at h
      split at h
      · rename_i v hv
        split at h
        · rename_i hw
          exact ⟨n, v, by omega, hv, hw, List.mem_singleton.1 h⟩
        · cases h
      · cases h
theorem certI_new {f view : Int} {s : SlotM} {g : Sig} (hf : 1 ≤ f) (h : slotI0 f view s) (hg : s.pre = some g) (hp : prepB f s = true) : certI f ⟨view, s.sum, certTexts f s g⟩ := by
  obtain ⟨h1, h2⟩ := h.pre g hg
  unfold prepB at hp
  rw [hg] at hp
  have hl : 2 * f ≤ ((hits s.prep (strOfNums s.sum)).length : Int) := by simpa using hp
  have hmem : ∀ x ∈ (hits s.prep (strOfNums s.sum)).take (2 * f).toNat, x.tag = s.sum ∧ x.from_ ≠ prim view f := by
    intro x hx
    obtain ⟨i, v, _, hv, hw, rfl⟩ := hits_mem 13 (List.mem_of_mem_take hx)
    obtain ⟨⟨h3, h4, h5⟩, h6⟩ := h.prep i v hv
    rw [h4] at hw
    exact ⟨word_inj h5 h.sum hw, h6⟩
  refine ⟨g, (hits s.prep (strOfNums s.sum)).take (2 * f).toNat, rfl, ?_, h1, ?_, ?_, fun x hx => ?_⟩
  · rw [List.length_take]
    omega
  · intro x hx
    rcases List.mem_cons.1 hx with rfl | hx
    · exact h2
    · exact (hmem x hx).1
  · exact (hits_sorted (fun i v hv => (h.prep i v hv).1.1) _ 13).1.sublist (List.take_sublist _ _)
  · rw [h1]
    exact (hmem x hx).2
theorem slotI_settle {f view : Int} {s : SlotM} (hf : 1 ≤ f) (hv : 0 ≤ view) (h : slotI0 f view s) : slotI f view (settleM f view s) := by
  unfold settleM
  cases hg : s.pre with
  | none => exact ⟨h, fun hp => by unfold prepB at hp; rw [hg] at hp; simp at hp⟩
  | some g =>
    simp only
    by_cases hp : prepB f s = true
    · by_cases hc : certB view s = true
      · rw [if_neg (by rw [hc]; simp)]
        refine ⟨h, fun _ => ?_⟩
        unfold certB at hc
        split at hc
        · rename_i c hc2
          have := (h.cert c hc2).1
          have h3 : view ≤ c.view := by simpa using hc
          exact ⟨c, hc2, by omega⟩
        · cases hc
      · have hc' : certB view s = false := by simpa using hc
        rw [if_pos (by rw [hp, hc']; rfl)]
        refine ⟨⟨fun g' hg' => h.pre g' (hg.trans hg'), fun c hc2 => ?_, h.prep, h.comm, h.sum⟩, fun _ => ⟨_, rfl, rfl⟩⟩
        obtain rfl := Option.some.inj hc2
        exact ⟨Int.le_refl _, fun _ => ⟨by simp [hg], rfl⟩, certI_new hf h hg hp, h.sum, hv⟩
    · have hp' : prepB f s = false := by simpa using hp
      rw [if_neg (by rw [hp']; simp)]
      exact ⟨h, fun hp2 => absurd hp2 hp⟩
theorem slotI_fresh (f view : Int) : slotI f view (freshS none) :=
  ⟨⟨fun g hg => (by cases hg), fun c hc => (by cases hc), fun i v hv => (by cases hv), fun i v hv => (by cases hv), fun x hx => (by simp [freshS] at hx)⟩, fun hp => by unfold prepB at hp; simp [freshS] at hp⟩
theorem slotI_enter {f view n : Int} {s : SlotM} (h : slotI f view s) (hn : view < n) : slotI f n (freshS s.cert) :=
  ⟨⟨fun g hg => (by cases hg), fun c hc => ⟨by have := (h.cert c hc).1; omega, fun e => (by have := (h.cert c hc).1; omega), (h.cert c hc).2.2⟩, fun i v hv => (by cases hv), fun i v hv => (by cases hv), fun x hx => (by simp [freshS] at hx)⟩, fun hp => by unfold prepB at hp; simp [freshS] at hp⟩
theorem slotI_pre {f view : Int} {x : Sig} {sum : List Int} {s : SlotM} (hf : 1 ≤ f) (hv : 0 ≤ view) (h : slotI f view s) (hx : x.from_ = prim view f) (ht : x.tag = sum) (hb : isB sum) : slotI f view (preM f view x sum s) := by
  unfold preM
  cases hg : s.pre with
  | none =>
    refine slotI_settle hf hv ⟨fun g hg2 => ?_, fun c hc => ?_, h.prep, h.comm, hb⟩
    · obtain rfl := Option.some.inj hg2
      exact ⟨hx, ht⟩
    · obtain ⟨h1, h2, h3⟩ := h.cert c hc
      refine ⟨h1, fun e => ?_, h3⟩
      have := (h2 e).1
      rw [hg] at this
      cases this
  | some g =>
    simp only
    split
    · exact slotI_settle hf hv h.toslotI0
    · exact h
theorem okVote_vote {V : Votes} {k : Nat} {x : Sig} {sum : List Int} {P : Nat → Vote → Prop} (h : ∀ i v, V i = some v → P i v) (hk : P k ⟨x, strOfNums sum⟩) : ∀ i v, voteM V k x sum i = some v → P i v := by
  intro i v hv
  unfold voteM at hv
  split at hv
  · exact h i v hv
  · unfold addV at hv
    split at hv
    · rename_i e
      obtain rfl := Option.some.inj hv
      rw [e]
      exact hk
    · exact h i v hv
theorem slotI_prepare {f view : Int} {k : Nat} {x : Sig} {sum : List Int} {s : SlotM} (hf : 1 ≤ f) (hv : 0 ≤ view) (h : slotI f view s) (hk : x.from_ = (k : Int) + 1) (hx : x.from_ ≠ prim view f) (ht : x.tag = sum) (hb : isB sum) : slotI f view (prepareM f view k x sum s) :=
  slotI_settle hf hv ⟨h.pre, h.cert, okVote_vote (P := fun i v => okVote i v ∧ v.sig.from_ ≠ prim view f) h.prep ⟨⟨hk, by rw [ht], by rw [ht]; exact hb⟩, hx⟩, h.comm, h.sum⟩
theorem slotI_commit {f view : Int} {k : Nat} {x : Sig} {sum : List Int} {s : SlotM} (h : slotI f view s) (hk : x.from_ = (k : Int) + 1) (ht : x.tag = sum) (hb : isB sum) : slotI f view (commitM k x sum s) :=
  ⟨⟨h.pre, h.cert, h.prep, okVote_vote h.comm ⟨hk, by rw [ht], by rw [ht]; exact hb⟩, h.sum⟩, h.done⟩
/-- What the model keeps. -/
structure Inv (f : Int) (M : LM) : Prop where
  ok : okM M
  slot : ∀ p ∈ M.L, slotI f M.view p.2
  high : M.low ≤ 4611686018427387895
theorem Inv.get {f : Int} {M : LM} (h : Inv f M) {q : Int} {s : SlotM} (hs : getQ M.L q = some s) : slotI f M.view s ∧ M.low < q ∧ q ≤ M.low + 8 := by
  unfold getQ at hs
  rw [Option.map_eq_some_iff] at hs
  obtain ⟨p, hp, rfl⟩ := hs
  have h1 := List.mem_of_find?_eq_some hp
  have h2 := List.find?_some hp
  have h3 : p.1 = q := by simpa using h2
  rw [← h3]
  exact ⟨h.slot p h1, h.ok.win p h1⟩
theorem Inv.zero (f : Int) : Inv f ⟨0, 0, []⟩ := ⟨okM_zero, by simp, by simp⟩
theorem slotI_mod {f view : Int} {L : List (Int × SlotM)} {q : Int} {g : SlotM → SlotM} (h : ∀ p ∈ L, slotI f view p.2) (hg : ∀ s, slotI f view s → slotI f view (g s)) : ∀ p ∈ modQ L q g, slotI f view p.2 := by
  intro p hp
  obtain ⟨p0, hp0, rfl⟩ := List.mem_map.1 hp
  split
  · exact hg _ (h p0 hp0)
  · exact h p0 hp0
theorem slotI_at {f view : Int} {L : List (Int × SlotM)} {q : Int} (h : ∀ p ∈ L, slotI f view p.2) : ∀ p ∈ atQ L q, slotI f view p.2 := by
  intro p hp
  unfold atQ at hp
  split at hp
  · exact h p hp
  · rcases List.mem_append.1 hp with hp | hp
    · exact h p hp
    · rw [List.mem_singleton.1 hp]
      exact slotI_fresh _ _
theorem Inv.step {f : Int} {M : LM} {o : OpM} (h : Inv f M) (hf : 1 ≤ f) (ho : okO o) (hb : isB o.sum) : Inv f (stepM f M o).2 := by
  have hok := okM_step (f := f) h.ok ho
  have key : (∀ p ∈ (stepM f M o).2.L, slotI f (stepM f M o).2.view p.2) ∧ (stepM f M o).2.low ≤ 4611686018427387895 := by
    unfold stepM
    split
    · unfold preR
      split
      · exact ⟨h.slot, h.high⟩
      split
      · exact ⟨slotI_at h.slot, h.high⟩
      · rename_i hp
        obtain ⟨s, hg⟩ := getQ_at M.L o.seq
        rw [hg]
        exact ⟨slotI_mod (slotI_at h.slot) (fun s hs => slotI_pre hf h.ok.view hs (by simpa using hp) rfl hb), h.high⟩
    split
    · unfold prepareR
      by_cases ha : askedK f M.low (sigO o).from_ o.seq = 0
      · rw [if_neg (by simpa using ha)]
        split
        · exact ⟨slotI_at h.slot, h.high⟩
        · rename_i hp
          obtain ⟨s, hg⟩ := getQ_at M.L o.seq
          rw [hg]
          exact ⟨slotI_mod (slotI_at h.slot) (fun s hs => slotI_prepare hf h.ok.view hs (seat_of ho.from0 ha) hp rfl hb), h.high⟩
      · rw [if_pos (by simpa using ha)]
        exact ⟨h.slot, h.high⟩
    split
    · unfold commitR
      by_cases ha : askedK f M.low (sigO o).from_ o.seq = 0
      · rw [if_neg (by simpa using ha)]
        obtain ⟨s, hg⟩ := getQ_at M.L o.seq
        rw [hg]
        exact ⟨slotI_mod (slotI_at h.slot) (fun s hs => slotI_commit hs (seat_of ho.from0 ha) rfl hb), h.high⟩
      · rw [if_pos (by simpa using ha)]
        exact ⟨h.slot, h.high⟩
    split
    · unfold enterR
      split
      · exact ⟨h.slot, h.high⟩
      · rename_i hk
        have hv : M.view < o.seq := by
          unfold enterK at hk
          rcases Int.lt_or_le M.view o.seq with h6 | h6
          · exact h6
          · exfalso
            apply hk
            split
            · decide
            · first | decide | (rw [if_pos h6]; decide)
        refine ⟨fun p hp => ?_, h.high⟩
        obtain ⟨p0, hp0, rfl⟩ := List.mem_map.1 hp
        exact slotI_enter (h.slot p0 hp0) hv
    split
    · unfold advR
      split
      · exact ⟨h.slot, h.high⟩
      · rename_i hk
        exact ⟨fun p hp => h.slot p (List.mem_filter.1 hp).1, by show o.seq ≤ _; omega⟩
    · exact ⟨h.slot, h.high⟩
  exact ⟨hok, key.1, key.2⟩
end Go.Proofs.Ytfjfggnbkopocaa
