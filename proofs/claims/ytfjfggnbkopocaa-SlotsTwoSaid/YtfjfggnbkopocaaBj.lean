/- Slots: the model keeps its bounds. -/
import Derived.Test.YtfjfggnbkopocaaBg
import Derived.Test.YtfjfggnbkopocaaBc
import Derived.Lib.SlBytesConst
/- Bounds. -/
set_option linter.unusedVariables false
set_option linter.unusedSimpArgs false
namespace Go.Proofs.Ytfjfggnbkopocaa
open Go.RowKit Go.Proofs.YtfjfggnbkopocaaW.PrintWords

theorem okSlot_fresh {c : Option CertM} (h : ∀ x, c = some x → x.sum.length ≤ 100 ∧ x.texts.length ≤ 100 ∧ ∀ t ∈ x.texts, okS t) : okSlot (freshS c) :=
  ⟨fun i v hv => (by cases hv), (by simp [freshS]), fun g hg => (by cases hg), h⟩
theorem okSlot_settle {f view : Int} {s : SlotM} (h : okSlot s) : okSlot (settleM f view s) := by
  unfold settleM
  cases hp : s.pre with
  | none => exact h
  | some g =>
    simp only
    split
    · refine ⟨h.1, h.2.1, fun g' hg' => h.2.2.1 g' (hp.trans hg'), fun c hc => ?_⟩
      obtain rfl := Option.some.inj hc
      refine ⟨h.2.1, ?_, fun t ht => ?_⟩
      · unfold certTexts
        have := hitsTo_len s.prep (strOfNums s.sum) 13
        have h2 := List.length_take_le (2 * f).toNat (hits s.prep (strOfNums s.sum))
        have h3 := List.length_take_le' (2 * f).toNat (hits s.prep (strOfNums s.sum))
        simp only [List.length_append, List.length_singleton]
        unfold hits at h3 ⊢
        omega
      · unfold certTexts at ht
        rcases List.mem_append.1 ht with ht | ht
        · rw [List.mem_singleton.1 ht]
          exact h.2.2.1 g hp
        · exact hitsTo_ok h.1 _ 13 t (List.mem_of_mem_take ht)
    · exact h
theorem okSlot_pre {f view : Int} {x : Sig} {sum : List Int} {s : SlotM} (h : okSlot s) (hx : okS x) (hs : sum.length ≤ 100) : okSlot (preM f view x sum s) := by
  unfold preM
  cases hp : s.pre with
  | none => exact okSlot_settle ⟨h.1, hs, fun g hg => by obtain rfl := Option.some.inj hg; exact hx, h.2.2.2⟩
  | some g =>
    simp only
    split
    · exact okSlot_settle h
    · exact h
theorem okSlot_prepare {f view : Int} {k : Nat} {x : Sig} {sum : List Int} {s : SlotM} (h : okSlot s) (hx : okS x) : okSlot (prepareM f view k x sum s) :=
  okSlot_settle ⟨okV_vote h.1 hx, h.2.1, h.2.2.1, h.2.2.2⟩
theorem okSlot_commit {k : Nat} {x : Sig} {sum : List Int} {s : SlotM} (h : okSlot s) : okSlot (commitM k x sum s) := ⟨h.1, h.2.1, h.2.2.1, h.2.2.2⟩
theorem okM_at {f : Int} {M : LM} {x q : Int} (h : okM M) (ha : askedK f M.low x q = 0) : okM { M with L := atQ M.L q } := by
  obtain ⟨h1, h2, h3, h4, h5⟩ := h
  have hk := asked_ok ha
  refine ⟨h1, h2, ?_, ?_, ?_⟩
  · intro p hp
    show okSlot p.2
    unfold atQ at hp
    simp only at hp
    split at hp
    · exact h3 p hp
    · rcases List.mem_append.1 hp with hp | hp
      · exact h3 p hp
      · rw [List.mem_singleton.1 hp]
        exact okSlot_fresh (fun c hc => by cases hc)
  · intro p hp
    unfold atQ at hp
    simp only at hp ⊢
    split at hp
    · exact h4 p hp
    · rcases List.mem_append.1 hp with hp | hp
      · exact h4 p hp
      · rw [List.mem_singleton.1 hp]
        omega
  · show ((atQ M.L q).map (·.1)).Nodup
    unfold atQ
    split
    · exact h5
    · rename_i hh
      rw [List.map_append, List.nodup_append]
      refine ⟨h5, by simp, ?_⟩
      intro a ha' b hb e
      obtain ⟨p, hp, rfl⟩ := List.mem_map.1 ha'
      simp at hb
      apply hh
      unfold hasQ
      exact List.any_eq_true.2 ⟨p, hp, by rw [e, hb]; simp⟩
theorem modQ_fst (L : List (Int × SlotM)) (q : Int) (g : SlotM → SlotM) : (modQ L q g).map (·.1) = L.map (·.1) := by
  unfold modQ
  rw [List.map_map]
  refine List.map_congr_left (fun p _ => ?_)
  simp only [Function.comp]
  split <;> rfl
theorem okM_mod {M : LM} {q : Int} {g : SlotM → SlotM} (h : okM M) (hg : ∀ s, okSlot s → okSlot (g s)) : okM { M with L := modQ M.L q g } := by
  obtain ⟨h1, h2, h3, h4, h5⟩ := h
  refine ⟨h1, h2, ?_, ?_, ?_⟩
  · intro p hp
    obtain ⟨p0, hp0, rfl⟩ := List.mem_map.1 hp
    split
    · exact hg _ (h3 p0 hp0)
    · exact h3 p0 hp0
  · intro p hp
    obtain ⟨p0, hp0, rfl⟩ := List.mem_map.1 hp
    have := h4 p0 hp0
    split <;> exact this
  · show ((modQ M.L q g).map (·.1)).Nodup
    rw [modQ_fst]
    exact h5
theorem okM_pre {f : Int} {M : LM} {x : Sig} {q : Int} {sum : List Int} (h : okM M) (hx : okS x) (hs : sum.length ≤ 100) : okM (preR f M x q sum).2 := by
  unfold preR
  by_cases hk : askedK f M.low x.from_ q = 0
  · rw [if_neg (by simpa using hk)]
    have h1 := okM_at h hk
    split
    · exact h1
    · obtain ⟨s, hg⟩ := getQ_at M.L q
      rw [hg]
      exact okM_mod (M := { M with L := atQ M.L q }) h1 (fun s hs' => okSlot_pre hs' hx hs)
  · rw [if_pos (by simpa using hk)]
    exact h
theorem okM_prepare {f : Int} {M : LM} {x : Sig} {q : Int} {sum : List Int} (h : okM M) (hx : okS x) : okM (prepareR f M x q sum).2 := by
  unfold prepareR
  by_cases hk : askedK f M.low x.from_ q = 0
  · rw [if_neg (by simpa using hk)]
    have h1 := okM_at h hk
    split
    · exact h1
    · obtain ⟨s, hg⟩ := getQ_at M.L q
      rw [hg]
      exact okM_mod (M := { M with L := atQ M.L q }) h1 (fun s hs' => okSlot_prepare hs' hx)
  · rw [if_pos (by simpa using hk)]
    exact h
theorem okM_commit {f : Int} {M : LM} {x : Sig} {q : Int} {sum : List Int} (h : okM M) : okM (commitR f M x q sum).2 := by
  unfold commitR
  by_cases hk : askedK f M.low x.from_ q = 0
  · rw [if_neg (by simpa using hk)]
    have h1 := okM_at h hk
    obtain ⟨s, hg⟩ := getQ_at M.L q
    rw [hg]
    exact okM_mod (M := { M with L := atQ M.L q }) h1 (fun s hs' => okSlot_commit hs')
  · rw [if_pos (by simpa using hk)]
    exact h
theorem okM_enter {M : LM} {n : Int} (h : okM M) : okM (enterR M n).2 := by
  unfold enterR
  split
  · exact h
  · rename_i hk
    obtain ⟨h1, h2, h3, h4, h5⟩ := h
    have hv : M.view < n := by
      unfold enterK at hk
      rcases Int.lt_or_le M.view n with h6 | h6
      · exact h6
      · exfalso
        apply hk
        split
        · decide
        · first | decide | (rw [if_pos h6]; decide)
    refine ⟨h1, by show 0 ≤ n; omega, ?_, ?_, ?_⟩
    · intro p hp
      obtain ⟨p0, hp0, rfl⟩ := List.mem_map.1 hp
      exact okSlot_fresh (h3 p0 hp0).2.2.2
    · intro p hp
      obtain ⟨p0, hp0, rfl⟩ := List.mem_map.1 hp
      exact h4 p0 hp0
    · have e1 : ((enterL M.L fun _ => false).map (·.1)) = M.L.map (·.1) := by
        unfold enterL
        rw [List.map_map]
        rfl
      have h6 : ((enterL M.L fun _ => false).map (·.1)).Nodup := by rw [e1]; exact h5
      exact h6
theorem okM_adv {M : LM} {n : Int} (h : okM M) : okM (advR M n).2 := by
  unfold advR
  split
  · exact h
  · rename_i hk
    obtain ⟨h1, h2, h3, h4, h5⟩ := h
    have hn : M.low ≤ n := Int.not_lt.1 (fun h => hk (.inl h))
    refine ⟨by show 0 ≤ n; omega, h2, fun p hp => h3 p (List.mem_filter.1 hp).1, fun p hp => ?_, ?_⟩
    · obtain ⟨hp1, hp2⟩ := List.mem_filter.1 hp
      have := h4 p hp1
      have hp3 : ¬ p.1 ≤ n := by simpa using hp2
      show n < p.1 ∧ p.1 ≤ n + 8
      omega
    · show ((M.L.filter _).map (·.1)).Nodup
      exact (List.filter_sublist.map _).nodup h5
theorem okM_step {f : Int} {M : LM} {o : OpM} (h : okM M) (ho : okO o) : okM (stepM f M o).2 := by
  have hx : okS (sigO o) := ⟨by simp [sigO], by have := ho.sum; simp [sigO]; omega⟩
  unfold stepM
  split
  · exact okM_pre h hx ho.sum
  split
  · exact okM_prepare h hx
  split
  · exact okM_commit h
  split
  · exact okM_enter h
  split
  · exact okM_adv h
  · exact h
theorem okM_zero : okM ⟨0, 0, []⟩ := ⟨Int.le_refl _, Int.le_refl _, by simp, by simp, by simp⟩
theorem okM_len {M : LM} (h : okM M) : M.L.length ≤ 8 := by
  have h2 : (M.L.map (·.1)) ⊆ [M.low + 1, M.low + 2, M.low + 3, M.low + 4, M.low + 5, M.low + 6, M.low + 7, M.low + 8] := by
    intro a ha
    obtain ⟨p, hp, rfl⟩ := List.mem_map.1 ha
    have := h.win p hp
    simp
    omega
  have := List.Nodup.length_le_of_subset h.nodup h2
  simpa using this
end Go.Proofs.Ytfjfggnbkopocaa

/- Slots: certificates by the model; the chapter's example. -/
/- alive. -/
set_option linter.unusedVariables false
set_option linter.unusedSimpArgs false
namespace Go.Proofs.Ytfjfggnbkopocaa
open Go.RowKit Go.Proofs.YtfjfggnbkopocaaW.PrintWords
attribute [local go_sem] ptr

theorem absL_fst (es : List Ent) : (absL es).map (·.1) = es.map (·.q) := by
  unfold absL
  rw [List.map_map]
  rfl
section
variable {w0 w : World} {l m : Nat} {f : Int} {M : LM}
theorem certsM_any (h : St w0 w l m f M) (hM : okM M) : Calls Try.prog 14 #[ptr l] w fun e w' => ∃ v, e = .returned v ∧ ∃ r : List Int, r.Perm (M.L.map (·.1)) ∧ Up r ∧ kL.R 44 w' 0 tr v (certsOf M.L r) ∧ Below w.heap.size w w' := by
  obtain ⟨es, hL, ha, _⟩ := h.log
  have hlen := okM_len hM
  rw [← ha] at hlen ⊢
  rw [absL_fst]
  refine Certs_any hL ⟨by unfold absL at hlen; rw [List.length_map] at hlen; omega, fun e he c hc => ?_⟩
  have h1 := (hM.slot (e.q, e.s) (by rw [← ha]; exact List.mem_map.2 ⟨e, he, rfl⟩)).2.2.2 c hc
  exact ⟨by omega, h1.2.2⟩
theorem lowM_any (h : St w0 w l m f M) : Calls Try.prog 16 #[ptr l] w fun e w' => e = .returned (.int .u64 M.low) ∧ w' = w := by
  obtain ⟨es, hL, _⟩ := h.log
  exact Low_any hL
theorem viewM_any (h : St w0 w l m f M) : Calls Try.prog 19 #[ptr l] w fun e w' => e = .returned (.int .u64 M.view) ∧ w' = w := by
  obtain ⟨es, hL, _⟩ := h.log
  exact View_any hL
end
def M0 : LM := ⟨0, 0, []⟩
def M1 : LM := (preR 1 M0 ⟨1, [], []⟩ 1 [120]).2
def M2 : LM := (prepareR 1 M1 ⟨2, [], []⟩ 1 [120]).2
def M3 : LM := (prepareR 1 M2 ⟨3, [], []⟩ 1 [120]).2
theorem ok1 : okM M1 := okM_pre okM_zero ⟨by simp, by simp⟩ (by simp)
theorem ok2 : okM M2 := okM_prepare ok1 ⟨by simp, by simp⟩
theorem ok3 : okM M3 := okM_prepare ok2 ⟨by simp, by simp⟩
def s1 : SlotM := ⟨some ⟨1, [], []⟩, [120], fun _ => none, fun _ => none, none⟩
theorem preR0 : preR 1 M0 ⟨1, [], []⟩ 1 [120] = (0, ⟨0, 0, [(1, s1)]⟩) := by
  unfold preR M0
  simp [askedK, prim, atQ, hasQ, getQ, preK, freshS, modQ, preM, settleM, prepB, hits, hitsTo, hit, s1]
def V1 : Votes := addV (fun _ => none) 1 ⟨⟨2, [], []⟩, strOfNums [120]⟩
def s2 : SlotM := ⟨some ⟨1, [], []⟩, [120], V1, fun _ => none, none⟩
theorem prepareR1 : prepareR 1 ⟨0, 0, [(1, s1)]⟩ ⟨2, [], []⟩ 1 [120] = (0, ⟨0, 0, [(1, s2)]⟩) := by
  unfold prepareR
  simp [askedK, prim, atQ, hasQ, getQ, voteK, seat, freshS, modQ, prepareM, voteM, settleM, prepB, hits, hitsTo, hit, s1, s2, addV, V1]
def V2 : Votes := addV V1 2 ⟨⟨3, [], []⟩, strOfNums [120]⟩
theorem prepareR2 : ∃ c, prepareR 1 ⟨0, 0, [(1, s2)]⟩ ⟨3, [], []⟩ 1 [120] = (0, ⟨0, 0, [(1, ⟨some ⟨1, [], []⟩, [120], V2, fun _ => none, some c⟩)]⟩) := by
  unfold prepareR
  simp [askedK, prim, atQ, hasQ, getQ, voteK, seat, freshS, modQ, prepareM, voteM, settleM, prepB, hits, hitsTo, hit, s1, s2, addV, V1, V2, certB]
theorem prepared2 : preparedV 1 ⟨0, 0, [(1, s2)]⟩ 1 = false := by
  simp [preparedV, getQ, prepB, s2, hits, hitsTo, hit, addV, V1]
theorem prepared3 (c : CertM) : preparedV 1 ⟨0, 0, [(1, ⟨some ⟨1, [], []⟩, [120], V2, fun _ => none, some c⟩)]⟩ 1 = true := by
  simp [preparedV, getQ, prepB, s2, hits, hitsTo, hit, addV, V1, V2]
theorem certs3 {s : SlotM} {c : CertM} (hc : s.cert = some c) {r : List Int} (h : r.Perm [1]) : (certsOf [(1, s)] r).length = 1 := by
  rw [List.perm_singleton.1 h]
  simp [certsOf, certQ, getQ, hc]
theorem argNil {w0 w : World} {l m : Nat} : Arg w0 w l m none [] := ⟨fun es f low view h hf w' hF => (Kd.R_reads' (Kd.R_nil kB 5 w' 0 tr)).2.2⟩
theorem byteC {w : World} {b : Nat} {x : Int} {fz : Nat × Nat} (h : w.heap[b]? = some (.cells #[.int .u8 x] 5 fz)) : kB.C w (some ⟨b, 0, none⟩) 1 [x] := by
  refine ⟨rfl, by decide, fun _ => ⟨_, rfl, fun j p hj => ?_⟩⟩
  match j, hj with
  | 0, hj =>
    obtain rfl := Option.some.inj hj
    refine ⟨[.int .u8 x], rfl, rfl, fun i u hu => ?_⟩
    match i, hu with
    | 0, hu =>
      obtain rfl := Option.some.inj hu
      simp [World.cell?, h, Addr.add]
theorem Arg.blk {w0 w : World} {l m b : Nat} {x : Int} {fz : Nat × Nat} (h : w.heap[b]? = some (.cells #[.int .u8 x] 5 fz)) : Arg w0 w l m (some ⟨b, 0, none⟩) [x] :=
  ⟨fun es f low view hL hf w' hF => byteC ((hF.block b (Array.getElem?_eq_some_iff.1 h).1 (fun hin => by
    rcases hL.mut b hin with ⟨cs, t, fz', h1, h2⟩ | ⟨es', c, h1⟩ | ⟨a, s, n, c, h1⟩
    · rw [h] at h1
      injection h1 with h1
      injection h1 with _ h1
      rw [← h1] at h2
      exact absurd h2 (by decide)
    · rw [h] at h1; cases h1
    · rw [h] at h1; cases h1)).trans h)⟩
theorem newSt {w w' : World} {f : Int} (h : LogAt w' (w.heap.size + 1) w.heap.size f 0 0 []) (hb : Below w.heap.size w w') : St w w' (w.heap.size + 1) w.heap.size f M0 :=
  ⟨hb, [], h, rfl, fun x hx => by simp [foot] at hx; omega⟩
set_option maxHeartbeats 4000000 in
set_option maxRecDepth 100000 in
theorem alive_any (w : World) : Calls Try.prog 9 #[] w fun e w' => e = .returned (.bool true) ∧ Below w.heap.size w w' := by
  have kc := fun (w : World) (C : Array Value) (n c : Nat) => Lib.run_convert_bytes_const (P := Try.prog) w 31 5 C n c Try.underlying31 Try.underlying5
  go_enter Try.func9, Try.ntmps9
  go_wp2_with fail
  refine (New_ok (f := 1) (by decide) (by decide) w).mono ?_
  rintro e w1 ⟨rfl, hL, hb⟩
  have hS := newSt hL hb
  generalize w.heap.size + 1 = l at hS ⊢
  generalize hm : w.heap.size = m at hS
  have HS := Aside0.mk hS
  clear hL hb hm hS
  have K1 : okM ⟨0, 0, [(1, s1)]⟩ := by have := ok1; unfold M1 at this; rw [preR0] at this; exact this
  have K2 : okM ⟨0, 0, [(1, s2)]⟩ := by have := okM_prepare (f := 1) (x := ⟨2, [], []⟩) (q := 1) (sum := [120]) K1 ⟨by simp, by simp⟩; rw [prepareR1] at this; exact this
  obtain ⟨c, hpr⟩ := prepareR2
  have K3 : okM ⟨0, 0, [(1, ⟨some ⟨1, [], []⟩, [120], V2, fun _ => none, some c⟩)]⟩ := by have := okM_prepare (f := 1) (x := ⟨3, [], []⟩) (q := 1) (sum := [120]) K2 ⟨by simp, by simp⟩; rw [hpr] at this; exact this
  go_wp2_with fail
  obtain ⟨W1, hW1⟩ : ∃ W, w1.alloc (.cells #[.int .u8 120] 5 (1, 2)) = W := ⟨_, rfl⟩
  have hr1 : W1.heap[w1.heap.size]? = some (.cells #[.int .u8 120] 5 (1, 2)) := by rw [← hW1]; exact (MapKept.heap_alloc w1 _).1
  have hB1 : Below w1.heap.size w1 W1 := by rw [← hW1]; exact below_alloc (Below.refl _ _) _
  rw [hW1]
  obtain ⟨es1, hL1, ha1, hf1⟩ := (HS.out.keep hB1).log
  have HB1 := Aside0.mk (And.intro (HS.out.keep hB1).below hf1)
  have hc1 := preR_any (w0 := w) (w := W1) (l := l) (m := m) (f := 1) (M := M0) (q := 1) (x := ⟨1, [], []⟩) (sum := [120]) (A1 := none) (A2 := none) (A := some ⟨w1.heap.size, 0, none⟩) (c1 := 0) (c2 := 0) (c := 1) es1 hL1 ha1 hf1 okM_zero (by decide) (by decide) (by decide) ⟨by simp, by simp⟩ (by decide) (by decide) (by decide) (by decide) argNil argNil (Arg.blk hr1)
  rw [preR0] at hc1
  clear hr1 hB1 hW1 hL1 ha1 hf1
  refine hc1.mono ?_
  rintro e w2 ⟨rfl, hS'⟩
  have HS1 := Aside0.mk (St.of_left (M := M0) HB1.out.1 HB1.out.2 hS')
  clear hS' hc1
  go_wp2_with fail
  obtain ⟨W2, hW2⟩ : ∃ W, w2.alloc (.cells #[.int .u8 120] 5 (1, 2)) = W := ⟨_, rfl⟩
  have hr2 : W2.heap[w2.heap.size]? = some (.cells #[.int .u8 120] 5 (1, 2)) := by rw [← hW2]; exact (MapKept.heap_alloc w2 _).1
  have hB2 : Below w2.heap.size w2 W2 := by rw [← hW2]; exact below_alloc (Below.refl _ _) _
  rw [hW2]
  obtain ⟨es2, hL2, ha2, hf2⟩ := (HS1.out.keep hB2).log
  have HB2 := Aside0.mk (And.intro (HS1.out.keep hB2).below hf2)
  have hc2 := prepareR_any (w0 := w) (w := W2) (l := l) (m := m) (f := 1) (M := ⟨0, 0, [(1, s1)]⟩) (q := 1) (x := ⟨2, [], []⟩) (sum := [120]) (A1 := none) (A2 := none) (A := some ⟨w2.heap.size, 0, none⟩) (c1 := 0) (c2 := 0) (c := 1) es2 hL2 ha2 hf2 K1 (by decide) (by decide) (by decide) ⟨by simp, by simp⟩ (by decide) (by decide) argNil argNil (Arg.blk hr2)
  rw [prepareR1] at hc2
  clear hr2 hB2 hW2 hL2 ha2 hf2
  refine hc2.mono ?_
  rintro e w3 ⟨rfl, hS'⟩
  have HS2 := Aside0.mk (St.of_left (M := ⟨0, 0, [(1, s1)]⟩) HB2.out.1 HB2.out.2 hS')
  clear hS' hc2
  go_wp2_with fail
  refine (Prepared_any HS2.out (by decide) (by decide) (okQ_of (q := 1) (by decide) (by decide))).mono ?_
  rintro e w4 ⟨rfl, hb⟩
  rw [prepared2]
  have HS3 := Aside0.mk (HS2.out.keep hb)
  clear hb
  go_wp2_with fail
  obtain ⟨W3, hW3⟩ : ∃ W, w4.alloc (.cells #[.int .u8 120] 5 (1, 2)) = W := ⟨_, rfl⟩
  have hr3 : W3.heap[w4.heap.size]? = some (.cells #[.int .u8 120] 5 (1, 2)) := by rw [← hW3]; exact (MapKept.heap_alloc w4 _).1
  have hB3 : Below w4.heap.size w4 W3 := by rw [← hW3]; exact below_alloc (Below.refl _ _) _
  rw [hW3]
  obtain ⟨es3, hL3, ha3, hf3⟩ := (HS3.out.keep hB3).log
  have HB3 := Aside0.mk (And.intro (HS3.out.keep hB3).below hf3)
  have hc3 := prepareR_any (w0 := w) (w := W3) (l := l) (m := m) (f := 1) (M := ⟨0, 0, [(1, s2)]⟩) (q := 1) (x := ⟨3, [], []⟩) (sum := [120]) (A1 := none) (A2 := none) (A := some ⟨w4.heap.size, 0, none⟩) (c1 := 0) (c2 := 0) (c := 1) es3 hL3 ha3 hf3 K2 (by decide) (by decide) (by decide) ⟨by simp, by simp⟩ (by decide) (by decide) argNil argNil (Arg.blk hr3)
  rw [hpr] at hc3
  clear hr3 hB3 hW3 hL3 ha3 hf3
  refine hc3.mono ?_
  rintro e w5 ⟨rfl, hS'⟩
  have HS4 := Aside0.mk (St.of_left (M := ⟨0, 0, [(1, s2)]⟩) HB3.out.1 HB3.out.2 hS')
  clear hS' hc3
  go_wp2_with fail
  refine (Prepared_any HS4.out (by decide) (by decide) (okQ_of (q := 1) (by decide) (by decide))).mono ?_
  rintro e w6 ⟨rfl, hb⟩
  rw [prepared3]
  have HS5 := Aside0.mk (HS4.out.keep hb)
  clear hb
  go_wp2_with fail
  refine (certsM_any HS5.out K3).mono ?_
  rintro e w7 ⟨v, rfl, r, hp, _, hr, hb⟩
  have HB := Aside0.mk (HS5.out.below.trans (hb.mono HS5.out.below.size))
  have hl := certs3 (s := ⟨some ⟨1, [], []⟩, [120], V2, fun _ => none, some c⟩) rfl hp
  obtain ⟨A, n, e2⟩ := Kd.R_slice hr
  rw [hl] at e2
  subst e2
  clear hp hr hb hl
  go_wp2_with fail
  go_ret
  exact ⟨rfl, HB.out⟩
end Go.Proofs.Ytfjfggnbkopocaa
