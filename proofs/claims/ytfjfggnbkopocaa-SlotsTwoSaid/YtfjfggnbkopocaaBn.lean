/- Slots: certificates stay or rise; the light list; a run. -/
import Derived.Test.YtfjfggnbkopocaaBm
import Derived.Test.YtfjfggnbkopocaaBh
import Derived.Test.YtfjfggnbkopocaaBl
/- Runs. -/
set_option linter.unusedVariables false
set_option linter.unusedSimpArgs false
namespace Go.Proofs.Ytfjfggnbkopocaa
open Go.RowKit Go.Proofs.YtfjfggnbkopocaaW.PrintWords PSlotsTwo

theorem getQ_mod (L : List (Int × SlotM)) (q q' : Int) (g : SlotM → SlotM) : getQ (modQ L q g) q' = if q' = q then (getQ L q').map g else getQ L q' := by
  unfold getQ modQ
  rw [List.find?_map]
  have e : ((fun p : Int × SlotM => p.1 == q') ∘ fun p => if p.1 = q then (p.1, g p.2) else p) = fun p => p.1 == q' := by
    funext p
    simp only [Function.comp]
    split <;> rfl
  rw [e]
  cases hf : L.find? fun p => p.1 == q' with
  | none => simp
  | some p =>
    have h1 : p.1 = q' := by simpa using List.find?_some hf
    by_cases h : q' = q
    · simp [h, h1]
    · simp [h, h1]
theorem getQ_atQ (L : List (Int × SlotM)) (q q' : Int) : getQ (atQ L q) q' = if q' = q then some ((getQ L q').getD (freshS none)) else getQ L q' := by
  unfold atQ
  by_cases hh : hasQ L q = true
  · rw [if_pos hh]
    split
    · rename_i h
      subst h
      obtain ⟨s, hs⟩ := getQ_at L q'
      unfold atQ at hs
      rw [if_pos hh] at hs
      rw [hs]
      rfl
    · rfl
  · rw [if_neg hh]
    unfold getQ
    rw [List.find?_append]
    by_cases h : q' = q
    · subst h
      have hn : L.find? (fun p => p.1 == q') = none := by
        rw [List.find?_eq_none]
        intro p hp hpq
        apply hh
        unfold hasQ
        exact List.any_eq_true.2 ⟨p, hp, hpq⟩
      rw [hn]
      simp
    · rw [if_neg h]
      have : List.find? (fun p : Int × SlotM => p.1 == q') [(q, freshS none)] = none := by
        simp [Ne.symm h]
      rw [this]
      simp
theorem getQ_enter (L : List (Int × SlotM)) (q : Int) : getQ (enterL L fun _ => false) q = (getQ L q).map fun s => freshS s.cert := by
  unfold getQ enterL
  rw [List.find?_map]
  have e : ((fun p : Int × SlotM => p.1 == q) ∘ fun p => if (fun _ : Int => false) p.1 = true then p else (p.1, freshS p.2.cert)) = fun p => p.1 == q := by
    funext p
    simp
  rw [e]
  cases L.find? fun p => p.1 == q <;> simp
theorem getQ_filter (L : List (Int × SlotM)) (n q : Int) (h : n < q) : getQ (L.filter fun p => !decide (p.1 ≤ n)) q = getQ L q := by
  unfold getQ
  rw [List.find?_filter]
  congr 2
  funext p
  by_cases h1 : p.1 = q
  · simp [h1]; omega
  · simp [h1]
/-- A certificate stays, or another one of a greater view takes its place. -/
def certLe (c c' : CertM) : Prop := c' = c ∨ c.view < c'.view
theorem settle_cert {f view : Int} {s : SlotM} {c : CertM} (h : s.cert = some c) : ∃ c', (settleM f view s).cert = some c' ∧ certLe c c' := by
  unfold settleM
  cases hp : s.pre with
  | none => exact ⟨c, h, .inl rfl⟩
  | some g =>
    simp only
    by_cases hb : (prepB f s && !certB view s) = true
    · rw [if_pos hb]
      refine ⟨_, rfl, .inr ?_⟩
      unfold certB at hb
      rw [h] at hb
      simp at hb
      show c.view < view
      omega
    · rw [if_neg hb]
      exact ⟨c, h, .inl rfl⟩
theorem best_mod {M : LM} {q0 q : Int} {g : SlotM → SlotM} (hg : ∀ s c, s.cert = some c → ∃ c', (g s).cert = some c' ∧ certLe c c') {c : CertM} (h : bestV M q = some c) : ∃ c', bestV { M with L := modQ (atQ M.L q0) q0 g } q = some c' ∧ certLe c c' := by
  unfold bestV at h ⊢
  cases hs : getQ M.L q with
  | none => rw [hs] at h; cases h
  | some s =>
    rw [hs] at h
    have h1 : s.cert = some c := h
    rw [getQ_mod, getQ_atQ, hs]
    by_cases e : q = q0
    · rw [if_pos e, if_pos e]
      obtain ⟨c', h2, h3⟩ := hg s c h1
      exact ⟨c', by simpa using h2, h3⟩
    · rw [if_neg e, if_neg e]
      exact ⟨c, h, .inl rfl⟩
theorem best_at {M : LM} {q0 q : Int} {c : CertM} (h : bestV M q = some c) : bestV { M with L := atQ M.L q0 } q = some c := by
  unfold bestV at h ⊢
  rw [getQ_atQ]
  cases hs : getQ M.L q with
  | none => rw [hs] at h; cases h
  | some s =>
    rw [hs] at h
    split <;> exact h
theorem best_step {f : Int} {M : LM} {o : OpM} {q : Int} {c : CertM} (h : bestV M q = some c) (hq : (stepM f M o).2.low < q) : ∃ c', bestV (stepM f M o).2 q = some c' ∧ certLe c c' := by
  have same : ∀ {M' : LM}, bestV M' q = some c → ∃ c', bestV M' q = some c' ∧ certLe c c' := fun h => ⟨c, h, .inl rfl⟩
  unfold stepM at hq ⊢
  split
  · unfold preR
    split
    · exact same h
    split
    · exact same (best_at h)
    · obtain ⟨s, hg⟩ := getQ_at M.L o.seq
      rw [hg]
      refine best_mod (fun s c hc => ?_) h
      unfold preM
      split
      · exact settle_cert (s := { s with pre := some (sigO o), sum := o.sum }) hc
      · split
        · exact settle_cert hc
        · exact ⟨c, hc, .inl rfl⟩
  split
  · unfold prepareR
    split
    · exact same h
    split
    · exact same (best_at h)
    · obtain ⟨s, hg⟩ := getQ_at M.L o.seq
      rw [hg]
      exact best_mod (fun s c hc => settle_cert (s := { s with prep := voteM s.prep (seat (sigO o).from_) (sigO o) o.sum }) hc) h
  split
  · unfold commitR
    split
    · exact same h
    · obtain ⟨s, hg⟩ := getQ_at M.L o.seq
      rw [hg]
      exact best_mod (g := commitM (seat (sigO o).from_) (sigO o) o.sum) (fun s c hc => ⟨c, hc, .inl rfl⟩) h
  split
  · unfold enterR
    split
    · exact same h
    · refine same ?_
      unfold bestV at h ⊢
      rw [getQ_enter]
      cases hs : getQ M.L q with
      | none => rw [hs] at h; cases h
      | some s =>
        rw [hs] at h
        exact h
  split
  · rename_i k0 k1 k2 k3 k4
    rw [if_neg k0, if_neg k1, if_neg k2, if_neg k3, if_pos k4] at hq
    unfold advR at hq ⊢
    split
    · exact same h
    · rename_i hk
      rw [if_neg hk] at hq
      refine same ?_
      unfold bestV at h ⊢
      show (getQ (M.L.filter _) q).bind _ = _
      rw [getQ_filter _ _ _ hq]
      exact h
  · exact same h
theorem marks_step {f : Int} {M : LM} {o : OpM} : M.low ≤ (stepM f M o).2.low ∧ M.view ≤ (stepM f M o).2.view := by
  have rfl2 : M.low ≤ M.low ∧ M.view ≤ M.view := ⟨Int.le_refl _, Int.le_refl _⟩
  unfold stepM
  split
  · unfold preR
    split
    · exact rfl2
    split
    · exact rfl2
    · obtain ⟨s, hg⟩ := getQ_at M.L o.seq
      rw [hg]
      exact rfl2
  split
  · unfold prepareR
    split
    · exact rfl2
    split
    · exact rfl2
    · obtain ⟨s, hg⟩ := getQ_at M.L o.seq
      rw [hg]
      exact rfl2
  split
  · unfold commitR
    split
    · exact rfl2
    · obtain ⟨s, hg⟩ := getQ_at M.L o.seq
      rw [hg]
      exact rfl2
  split
  · unfold enterR
    split
    · exact rfl2
    · rename_i hk
      refine ⟨Int.le_refl _, ?_⟩
      show M.view ≤ o.seq
      unfold enterK at hk
      split at hk
      · exact absurd (by decide) hk
      · split at hk
        · exact absurd (by decide) hk
        · omega
  split
  · unfold advR
    split
    · exact rfl2
    · rename_i hk
      exact ⟨by show M.low ≤ o.seq; omega, Int.le_refl _⟩
  · exact rfl2
/-- What is not above the low mark is not there. -/
theorem none_of {f : Int} {M : LM} (h : Inv f M) {q : Int} (hq : q ≤ M.low ∨ M.low + 8 < q) : getQ M.L q = none := by
  cases hs : getQ M.L q with
  | none => rfl
  | some s =>
    have := (h.get hs).2
    omega
theorem best_view {f : Int} {M : LM} (h : Inv f M) {q : Int} {c : CertM} (hc : bestV M q = some c) : c.view ≤ M.view ∧ certI f c ∧ M.low < q := by
  unfold bestV at hc
  cases hs : getQ M.L q with
  | none => rw [hs] at hc; cases hc
  | some s =>
    rw [hs] at hc
    obtain ⟨h1, h2, _⟩ := h.get hs
    obtain ⟨h3, _, h4, _⟩ := h1.cert c hc
    exact ⟨h3, h4, h2⟩
theorem best_pos {f : Int} {M : LM} (h : Inv f M) {q : Int} {c : CertM} (hc : bestV M q = some c) : 0 ≤ c.view := by
  unfold bestV at hc
  cases hs : getQ M.L q with
  | none => rw [hs] at hc; cases hc
  | some s =>
    rw [hs] at hc
    exact ((h.get hs).1.cert c hc).2.2.2.2
theorem prepared_best {f : Int} {M : LM} (h : Inv f M) {q : Int} (hp : preparedV f M q = true) : ∃ c s, getQ M.L q = some s ∧ bestV M q = some c ∧ c.view = M.view ∧ c.sum = s.sum := by
  unfold preparedV at hp
  cases hs : getQ M.L q with
  | none => rw [hs] at hp; cases hp
  | some s =>
    rw [hs] at hp
    obtain ⟨h1, _⟩ := h.get hs
    obtain ⟨c, hc, hv⟩ := h1.done hp
    exact ⟨c, s, rfl, by unfold bestV; rw [hs]; exact hc, hv, ((h1.cert c hc).2.1 hv).2⟩
theorem committed_best {f : Int} {M : LM} (h : Inv f M) {q : Int} {x : List Int} (hc : committedV f M q = some x) : preparedV f M q = true ∧ ∃ c, bestV M q = some c ∧ c.sum = x := by
  unfold committedV at hc
  cases hs : getQ M.L q with
  | none => rw [hs] at hc; cases hc
  | some s =>
    rw [hs] at hc
    simp only [Option.bind_some] at hc
    split at hc
    · rename_i hb
      obtain rfl := Option.some.inj hc
      unfold commB at hb
      have hp : preparedV f M q = true := by
        unfold preparedV
        rw [hs]
        simp only
        revert hb
        cases prepB f s <;> simp
      obtain ⟨c, s', h1, h2, _, h3⟩ := prepared_best h hp
      rw [hs] at h1
      obtain rfl := Option.some.inj h1
      exact ⟨hp, c, h2, h3⟩
    · cases hc
/-- The list is light. -/
def lightB (n : Nat) (l : List S33) : Bool := decide (l.length ≤ n) && l.all fun x => decide (x.f3.length ≤ 100)
theorem light_l0 (l : List S33) (hl : l.length < 1000000) : ∀ d i, i + d = l.length → bulwarklaw15_light.l0 (d + 1) l (i : Int) = some ((l.drop i).all fun x => decide (x.f3.length ≤ 100))
  | 0, i, h => by
    rw [bulwarklaw15_light.l0, if_neg (by omega), List.drop_of_length_le (by omega)]
    rfl
  | d + 1, i, h => by
    have hlt : i < l.length := by omega
    rw [bulwarklaw15_light.l0, if_pos (by omega), if_pos (by omega)]
    have e1 : rd_T33 l (i : Int) = l[i] := by
      unfold rd_T33
      rw [Int.toNat_natCast, List.getD_eq_getElem?_getD, List.getElem?_eq_getElem hlt]
      rfl
    rw [e1, List.drop_eq_getElem_cons hlt, List.all_cons]
    by_cases h1 : (l[i].f3.length : Int) > 100
    · rw [if_pos h1, df (by omega)]
      rfl
    · rw [if_neg h1, dt (by omega), Go.IntWalk.wrap64_in _ (by omega)]
      have := light_l0 l hl d (i + 1) (by omega)
      rw [Bool.true_and]
      exact this
theorem light_any (A : Option Addr) (c : Nat) (l : List S33) (w : World) (hr : Kd.C k33 w A l.length l) (hc : l.length ≤ c) : Calls Try.prog 8 #[.slice A l.length c, .int .i64 60] w fun e w' => e = .returned (.bool (lightB 60 l)) ∧ Drawn0 w w' := by
  refine bulwarklaw15_light.calls (l.length + 1) A c l 60 _ w hr hc ?_
  unfold bulwarklaw15_light.f lightB
  by_cases h : l.length ≤ 60
  · rw [if_neg (by omega), dt h]
    have := light_l0 l (by omega) l.length 0 (by omega)
    simpa using this
  · rw [if_pos (by omega), df h]
    rfl
theorem below_to {B : Nat} {a b c : World} (h : Below B a b) (hB : B ≤ a.heap.size) (k : Below b.heap.size b c) : Below B a c := h.trans (k.mono (Nat.le_trans hB h.size))
def opO (x : S33) : OpM := ⟨x.f0, x.f1, x.f2, x.f3⟩
theorem isB_of {l : List Int} (h : ∀ a ∈ l, (Lit.int .u8 a).wf = true) : isB l := by
  intro x hx
  have h0 := h x hx
  unfold Lit.wf at h0
  simp only [Bool.and_eq_true, decide_eq_true_eq] at h0
  have h1 : IntKind.min .u8 = 0 := rfl
  have h2 : IntKind.max .u8 = 255 := rfl
  rw [h1, h2] at h0
  omega
theorem u64_of {q : Int} (h : (Lit.int .u64 q).wf = true) : 0 ≤ q ∧ q < 18446744073709551616 := by
  unfold Lit.wf at h
  simp only [Bool.and_eq_true, decide_eq_true_eq] at h
  have h1 : IntKind.min .u64 = 0 := rfl
  have h2 : IntKind.max .u64 = 18446744073709551615 := rfl
  rw [h1, h2] at h
  omega
theorem okO_of {l : List S33} (h : lightB 60 l = true) {x : S33} (hx : x ∈ l) (hr : opOk x) : okO (opO x) ∧ isB (opO x).sum := by
  unfold lightB at h
  simp only [Bool.and_eq_true, decide_eq_true_eq, List.all_eq_true] at h
  exact ⟨⟨(u64_of hr.2.1).1, (u64_of hr.2.2.1).1, (u64_of hr.2.2.1).2, h.2 x hx⟩, isB_of hr.2.2.2⟩
def runM (f : Int) (l : List S33) : LM := l.foldl (fun M x => (stepM f M (opO x)).2) M0
theorem runM_snoc (f : Int) (l : List S33) (x : S33) : runM f (l ++ [x]) = (stepM f (runM f l) (opO x)).2 := by
  unfold runM
  rw [List.foldl_append]
  rfl
theorem run_inv {f : Int} (hf : 1 ≤ f) {l : List S33} (hl : lightB 60 l = true) (hr : ∀ x ∈ l, opOk x) : ∀ n, n ≤ l.length → Inv f (runM f (l.take n))
  | 0, _ => by rw [List.take_zero]; exact Inv.zero f
  | n + 1, h => by
    have hlt : n < l.length := by omega
    rw [List.take_add_one, List.getElem?_eq_getElem hlt]
    show Inv f (runM f (l.take n ++ [l[n]]))
    rw [runM_snoc]
    obtain ⟨h1, h2⟩ := okO_of hl (List.getElem_mem hlt) (hr _ (List.getElem_mem hlt))
    exact (run_inv hf hl hr n (by omega)).step hf h1 h2
theorem op_at {w : World} {A : Option Addr} {l : List S33} (h : Kd.C k33 w A l.length l) (i : Nat) (hi : i < l.length) : ∃ ad A3 c3, A = some ad ∧
    Aside0 (∀ w', Below w.heap.size w w' → w'.cell? (ad.add (i * 4)) = some (.int .i64 l[i].f0) ∧ w'.cell? ⟨(ad.add (i * 4)).block, (ad.add (i * 4)).off + 1, none⟩ = some (.int .u64 l[i].f1) ∧ w'.cell? ⟨(ad.add (i * 4)).block, (ad.add (i * 4)).off + 2, none⟩ = some (.int .u64 l[i].f2) ∧ w'.cell? ⟨(ad.add (i * 4)).block, (ad.add (i * 4)).off + 3, none⟩ = some (.slice A3 l[i].f3.length c3)) ∧
    Aside0 (l[i].f3.length ≤ c3) ∧ Aside0 (kB.C w A3 l[i].f3.length l[i].f3) := by
  obtain ⟨ad, A3, c3, e, h0, h1, h2, h3, h4, h5⟩ := at_T33 h (i : Int) (by omega) (by omega)
  have e1 : rd_T33 l (i : Int) = l[i] := by
    unfold rd_T33
    rw [Int.toNat_natCast, List.getD_eq_getElem?_getD, List.getElem?_eq_getElem hi]
    rfl
  rw [e1] at h0 h1 h2 h3 h4 h5
  rw [Int.toNat_natCast] at h0 h1 h2 h3
  exact ⟨ad, A3, c3, e, ⟨fun w' hb => ⟨fr_ret hb h0, fr_ret hb h1, fr_ret hb h2, fr_ret hb h3⟩⟩, ⟨h4⟩, ⟨h5⟩⟩
theorem take_runM (f : Int) (l : List S33) (i : Nat) (hi : i < l.length) : runM f (l.take (i + 1)) = (stepM f (runM f (l.take i)) (opO l[i])).2 := by
  rw [List.take_add_one, List.getElem?_eq_getElem hi]
  exact runM_snoc f _ _
theorem same_l0 (a : List Int) (hl : a.length < 1000000) : ∀ d i, i + d = a.length → bulwarkref01_Same.l0 (d + 1) a a (i : Int) = some true
  | 0, i, h => by rw [bulwarkref01_Same.l0, if_neg (by omega)]
  | d + 1, i, h => by
    rw [bulwarkref01_Same.l0, if_pos (by omega), if_pos (by omega), if_pos (by omega), if_pos rfl, Go.IntWalk.wrap64_in _ (by omega)]
    exact same_l0 a hl d (i + 1) (by omega)
/-- What is the same is told to be the same. -/
theorem same_any {w : World} {A0 A1 : Option Addr} {c0 c1 : Nat} {a b : List Int} (h0 : kB.C w A0 a.length a) (k0 : a.length ≤ c0) (h1 : kB.C w A1 b.length b) (k1 : b.length ≤ c1) (e : a = b) (hl : a.length < 1000000) :
    Calls Try.prog 13 #[.slice A0 a.length c0, .slice A1 b.length c1] w fun r w' => r = .returned (.bool true) ∧ Drawn0 w w' := by
  subst e
  refine bulwarkref01_Same.calls (a.length + 1) A0 c0 a A1 c1 a true w h0 k0 h1 k1 ?_
  unfold bulwarkref01_Same.f
  rw [if_pos rfl]
  exact same_l0 a hl a.length 0 (by omega)
theorem OptAt.reads {w : World} {v : Value} {o : Option (List Int)} (h : OptAt w v o) : ∃ A c, v = .slice A (o.getD []).length c ∧ (o.getD []).length ≤ c ∧ kB.R 5 w 0 tr v (o.getD []) ∧ kB.C w A (o.getD []).length (o.getD []) := by
  cases o with
  | none =>
    have h1 : v = .slice none 0 0 := h
    subst h1
    exact ⟨none, 0, rfl, Nat.le_refl _, Kd.R_nil _ _ _ _ _, (Kd.R_reads' (Kd.R_nil kB 5 w 0 tr)).2.2⟩
  | some s =>
    have h1 : kB.R 5 w 0 tr v s := h
    obtain ⟨A, c, e, hc, hC⟩ := Kd.R_reads h1
    exact ⟨A, c, e, hc, h1, hC⟩
end Go.Proofs.Ytfjfggnbkopocaa
