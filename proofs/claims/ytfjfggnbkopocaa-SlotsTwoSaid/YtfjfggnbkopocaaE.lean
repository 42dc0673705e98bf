/- Slots: small walks. -/
import Derived.Test.YtfjfggnbkopocaaB
import Derived.Test.YtfjfggnbkopocaaPSlotsTwox1
import Derived.Test.YtfjfggnbkopocaaPSlotsTwox8
import Derived.Deep.MidRow
/- Small walks. -/
set_option linter.unusedVariables false
set_option linter.unusedSimpArgs false
namespace Go.Proofs.Ytfjfggnbkopocaa
open Go.RowKit Go.Proofs.YtfjfggnbkopocaaW.PrintWords

theorem dt {p : Prop} [Decidable p] (h : p) : decide p = true := decide_eq_true h
theorem df {p : Prop} [Decidable p] (h : ¬ p) : decide p = false := decide_eq_false h
theorem w64 {n : Int} (h : -9223372036854775808 ≤ n ∧ n ≤ 9223372036854775807) : wrap64 n = n := by unfold wrap64; omega
theorem u64 {n : Int} (h : 0 ≤ n ∧ n < 18446744073709551616) : IntKind.u64.wrap n = n := by
  unfold IntKind.wrap
  simp only []
  exact Int.emod_eq_of_lt h.1 h.2
theorem below_drawn {w w' : World} (h : Drawn0 w w') : Below w.heap.size w w' := by
  obtain ⟨n, rfl⟩ := h
  exact pw_below_drewN (Below.refl _ _) n
theorem can_any (f : Int) (w : World) : Calls Try.prog 49 #[.int .i64 f] w fun e w' => e = .returned (.bool (decide (1 ≤ f ∧ f ≤ 4))) ∧ Drawn0 w w' := by
  refine (PSlotsTwo.quorum_can.calls f (decide (1 ≤ f ∧ f ≤ 4)) w ?_).mono (fun e w' h => h)
  unfold PSlotsTwo.quorum_can.f
  by_cases h1 : f ≥ 1
  · rw [if_pos h1]
    congr 1
    rw [decide_eq_decide]
    exact ⟨fun h => ⟨h1, h⟩, fun h => h.2⟩
  · rw [if_neg h1]
    congr 1
    exact (df (fun h => h1 h.1)).symm
theorem canf {f : Int} (h1 : 1 ≤ f) (h4 : f ≤ 4) : PSlotsTwo.quorum_can.f f = some true := by
  unfold PSlotsTwo.quorum_can.f
  rw [if_pos h1, dt h4]
theorem N_any {f : Int} (h1 : 1 ≤ f) (h4 : f ≤ 4) (w : World) : Calls Try.prog 26 #[.int .i64 f] w fun e w' => e = .returned (.int .i64 (3 * f + 1)) ∧ Drawn0 w w' := by
  refine PSlotsTwo.quorum_N.calls f (3 * f + 1) w ?_
  unfold PSlotsTwo.quorum_N.f PSlotsTwo.quorum_times.f
  rw [canf h1 h4]
  simp only [Option.bind_some, if_true]
  rw [w64 (n := 3 * f) (by omega), w64 (n := 3 * f + 1) (by omega)]
theorem Most_any {f : Int} (h1 : 1 ≤ f) (h4 : f ≤ 4) (w : World) : Calls Try.prog 30 #[.int .i64 f] w fun e w' => e = .returned (.int .i64 (2 * f + 1)) ∧ Drawn0 w w' := by
  refine PSlotsTwo.quorum_Most.calls f (2 * f + 1) w ?_
  unfold PSlotsTwo.quorum_Most.f PSlotsTwo.quorum_times.f
  rw [canf h1 h4]
  simp only [Option.bind_some, if_true]
  rw [w64 (n := 2 * f) (by omega), w64 (n := 2 * f + 1) (by omega)]

/-- The primary of a view. -/
def prim (v f : Int) : Int := 1 + v % (3 * f + 1)
theorem Primary_any {v f : Int} (h1 : 1 ≤ f) (h4 : f ≤ 4) (h0 : 0 ≤ v) (w : World) : Calls Try.prog 37 #[.int .u64 v, .int .i64 f] w fun e w' => e = .returned (.int .u64 (prim v f)) ∧ Drawn0 w w' := by
  refine PSlotsTwo.quorum_Primary.calls v f (prim v f) w ?_
  unfold PSlotsTwo.quorum_Primary.f PSlotsTwo.quorum_N.f PSlotsTwo.quorum_times.f
  rw [canf h1 h4]
  simp only [Option.bind_some, if_true]
  rw [w64 (n := 3 * f) (by omega), w64 (n := 3 * f + 1) (by omega), u64 (n := 3 * f + 1) (by omega), if_neg (by omega), Int.tmod_eq_emod_of_nonneg h0]
  have a1 := Int.emod_nonneg v (show 3 * f + 1 ≠ 0 by omega)
  have a2 := Int.emod_lt_of_pos v (show 0 < 3 * f + 1 by omega)
  rw [u64 (by omega)]
  rfl

set_option maxHeartbeats 4000000 in
theorem qNew_any {f : Int} (h1 : 1 ≤ f) (h4 : f ≤ 4) (w : World) :
    Calls Try.prog 51 #[.int .i64 f] w fun e w' => e = .returned (.tuple #[ptr w.heap.size, .int .i64 0]) ∧ VotesAt w' w.heap.size f (fun _ => none) ∧ Below w.heap.size w w' := by
  have e1 := Aside0.mk (dt (p := 1 ≤ f ∧ f ≤ 4) ⟨h1, h4⟩)
  clear h1 h4
  go_enter Try.func51, Try.ntmps51
  go_wp2_with fail
  refine (can_any f _).mono ?_
  rintro e w' ⟨rfl, n, rfl⟩
  rw [e1.out]
  go_wp2_with fail
  go_ret2
  have hb : Below w.heap.size w (w.drewN n) := pw_below_drewN (Below.refl _ _) n
  refine ⟨rfl, ⟨_, heap_alloc_new (w.drewN n) _, rfl, rfl, fun i hi => ⟨?_, fun v hv => by cases hv⟩⟩, hb.alloc (Nat.le_refl _) _⟩
  match i, hi with
  | 0, _ => rfl
  | 1, _ => rfl
  | 2, _ => rfl
  | 3, _ => rfl
  | 4, _ => rfl
  | 5, _ => rfl
  | 6, _ => rfl
  | 7, _ => rfl
  | 8, _ => rfl
  | 9, _ => rfl
  | 10, _ => rfl
  | 11, _ => rfl
  | 12, _ => rfl

theorem info5 : (Try.prog.info? 5).map (fun i => (i.zero, i.size, i.bytes)) = some (some (.int .u8 0), 1, 1) := by kernel_rfl
theorem info46 : (Try.prog.info? 46).map (fun i => (i.zero, i.size, i.bytes)) = some (some (.agg #[.int .u64 0, .slice none 0 0, .slice none 0 0]), 3, 56) := by kernel_rfl
set_option maxHeartbeats 1000000 in
/-- slices.Clone of bytes. -/
theorem clone_any (A : Option Addr) (c : Nat) (l : List Int) (w : World) (hr : kB.C w A l.length l) (hl : l.length ≤ 1000000) :
    Calls Try.prog 31 #[.slice A l.length c] w fun e w' => ∃ v, e = .returned v ∧ kB.R 5 w' w.heap.size tr v l ∧ Below w.heap.size w w' := by
  have HR := Aside0.mk hr
  cases A with
  | none =>
    have h0 : l = [] := by
      rcases Nat.eq_zero_or_pos l.length with h | h
      · exact List.eq_nil_of_length_eq_zero h
      · obtain ⟨ad, e, _⟩ := hr.2.2 h
        cases e
    subst h0
    have hq := fun w => Lib.run_eql_slice_nil (P := Try.prog) w 31 5 none 0 c 0 0 Try.underlying31
    clear hr
    go_enter Try.func31, Try.ntmps31
    go_wp2
    go_ret
    exact ⟨_, rfl, Kd.R_nil _ _ _ _ _, Below.refl _ _⟩
  | some ad =>
    have hq := fun w => Lib.run_eql_slice_nil (P := Try.prog) w 31 5 (some ad) l.length c 0 0 Try.underlying31
    clear hr
    have HO : Aside0 (kB.R 5 (w.alloc (.cells #[] 5)) w.heap.size tr (.slice (some ⟨w.heap.size, 0, none⟩) 0 0) []) := ⟨Kd.R_of_own (h1 := fun _ => rfl) (World.ownsRow_made w #[] 0 (Nat.le_refl _) (by unfold maxLen; omega) rfl) (fun _ _ => trivial)⟩
    have HC : Aside0 (ReadsRow (kB.K w) kB.sz (w.alloc (.cells #[] 5)) (some ad) l.length l) := ⟨ReadsRow.imp_ HR.out ((Below.refl _ _).alloc (Nat.le_refl _) _) (fun _ _ h => h)⟩
    go_enter Try.func31, Try.ntmps31
    go_wp2_with (at_builtin; refine Kd.R_append_rows kB (w0 := w) w.heap.size rfl (.tmp 5) (.tmp 6) 31 5 (.int .u8 0) 1 rfl Try.underlying31 info5 rfl (by decide) (by omega) (.slice (some ⟨w.heap.size, 0, none⟩) 0 0) [] l (some ad) l.length c tr (fun _ => False) rfl rfl HO.out HC.out (fun x cs h => h) (fun _ hk => hk.elim) (fun _ _ => trivial) ((Below.refl _ _).alloc (Nat.le_refl _) _) (by simp) (by simp; omega) ?_; intro v1 w1 ho hb _ _)
    go_ret
    exact ⟨_, rfl, ho, hb⟩
end Go.Proofs.Ytfjfggnbkopocaa

/- Slots: slices.Clone of texts. -/
/- Clone. -/
set_option linter.unusedVariables false
set_option linter.unusedSimpArgs false
namespace Go.Proofs.Ytfjfggnbkopocaa
open Go.RowKit Go.Proofs.YtfjfggnbkopocaaW.PrintWords

/-- A made row lies from B on (or is nil). -/
def From (B : Nat) (v : Value) : Prop := ∀ k, v.ownBlock = some k → B ≤ k
theorem From.grow {B : Nat} {W : World} {v v1 : Value} (h : From B v) (hB : B ≤ W.heap.size) (hat : v1.ownBlock = v.ownBlock ∨ ∃ b, v1.ownBlock = some b ∧ W.heap.size ≤ b) : From B v1 := by
  intro k hk
  rcases hat with hat | ⟨b, hb, hle⟩
  · exact h k (hat ▸ hk)
  · rw [hb] at hk
    injection hk with hk
    omega
theorem below_grown {B : Nat} {a W w1 : World} {v : Value} (h : Below B a W) (hg : W.grownBy w1 v.ownBlock) (hB : B ≤ W.heap.size) (hf : From B v) : Below B a w1 := h.grown hg hB (fun k hk => hf k hk)
def zS : Value := .agg #[.int .u64 0, .slice none 0 0, .slice none 0 0]
set_option maxHeartbeats 1000000 in
/-- slices.Clone of texts. -/
theorem cloneS_any (v : Value) (l : List Sig) (w : World) (hr : kS.R 46 w 0 tr v l) (hl : l.length ≤ 1000000) :
    Calls Try.prog 34 #[v] w fun e w' => ∃ v', e = .returned v' ∧ kS.R 46 w' 0 tr v' l ∧ From w.heap.size v' ∧ Below w.heap.size w w' := by
  obtain ⟨_, hO⟩ := hr
  obtain ⟨A, c, rfl, hc, hrow⟩ := OwnRow.reads hO
  cases A with
  | none =>
    have h0 : l = [] := by
      rcases Nat.eq_zero_or_pos l.length with h | h
      · exact List.eq_nil_of_length_eq_zero h
      · obtain ⟨ad, e, _⟩ := hrow.2.2 h
        cases e
    subst h0
    have hq := fun w => Lib.run_eql_slice_nil (P := Try.prog) w 44 46 none 0 c 0 0 Try.underlying44
    clear hO hrow
    go_enter Try.func34, Try.ntmps34
    go_wp2
    go_ret
    exact ⟨_, rfl, Kd.R_nil _ _ _ _ _, (fun k hk => by cases hk), Below.refl _ _⟩
  | some ad =>
    have hq := fun w => Lib.run_eql_slice_nil (P := Try.prog) w 44 46 (some ad) l.length c 0 0 Try.underlying44
    have HO : Aside0 (kS.R 46 (w.alloc (.cells #[] 46)) 0 tr (.slice (some ⟨w.heap.size, 0, none⟩) 0 0) []) := ⟨⟨fun _ _ => trivial, [], World.ownsRow_made w #[] 0 (Nat.zero_le _) (by unfold maxLen; omega) rfl, Reps.none _ _⟩⟩
    have HC : Aside0 (ReadsRow (kS.M (w.alloc (.cells #[] 46)) 0 (fun k => k ≠ w.heap.size)) 3 (w.alloc (.cells #[] 46)) (some ad) l.length l) := ⟨ReadsRow.imp_ hrow ((Below.refl _ _).alloc (Nat.le_refl _) _) (fun _ _ h => kS.M_mono (fun k hk => Nat.ne_of_lt hk.2.2.1) (Kd.M_below (kS.M_bound h) ((Below.refl _ _).alloc (Nat.le_refl _) _)))⟩
    clear hO hrow
    go_enter Try.func34, Try.ntmps34
    go_wp2_with (at_builtin; refine Kd.R_append_rows kS (w0 := w) 0 rfl (.tmp 5) (.tmp 6) 44 46 zS 56 rfl Try.underlying44 info46 rfl (by decide) (by omega) (.slice (some ⟨w.heap.size, 0, none⟩) 0 0) [] l (some ad) l.length c tr (fun k => k ≠ w.heap.size) rfl rfl HO.out HC.out (fun x cs h => h) (fun k hk => ⟨trivial, fun e => hk (by simpa [Value.ownBlock] using e)⟩) (fun _ _ => trivial) (((Below.refl _ _).alloc (Nat.le_refl _) _).mono (Nat.zero_le _)) (Nat.zero_le _) (by simp; omega) ?_; intro v1 w1 ho _ hg hat)
    go_ret
    have hf : From w.heap.size (.slice (some ⟨w.heap.size, 0, none⟩) 0 0) := fun k hk => by
      have : w.heap.size = k := by simpa [Value.ownBlock] using hk
      omega
    refine ⟨_, rfl, ho, hf.grow (by simp) hat, below_grown ((Below.refl _ _).alloc (Nat.le_refl _) _) hg (by simp) hf⟩
end Go.Proofs.Ytfjfggnbkopocaa

/- Slots: the votes for a word. -/
/- Votes. -/
set_option linter.unusedVariables false
set_option linter.unusedSimpArgs false
namespace Go.Proofs.Ytfjfggnbkopocaa
open Go.RowKit Go.Proofs.YtfjfggnbkopocaaW.PrintWords
attribute [local go_sem] ptr

/-- The vote of seat i for a word. -/
def hit (V : Votes) (s : ByteArray) (i : Nat) : List Sig :=
  match V i with
  | some v => if (v.word.toList == s.toList) = true then [v.sig] else []
  | none => []
/-- The texts of the votes for a word, by seats. -/
def hitsTo (V : Votes) (s : ByteArray) : Nat → List Sig
  | 0 => []
  | n + 1 => hitsTo V s n ++ hit V s n
def hits (V : Votes) (s : ByteArray) : List Sig := hitsTo V s 13
theorem hit_len (V : Votes) (s : ByteArray) (i : Nat) : (hit V s i).length ≤ 1 := by
  unfold hit
  split
  · split <;> simp
  · simp
theorem hitsTo_len (V : Votes) (s : ByteArray) : ∀ n, (hitsTo V s n).length ≤ n
  | 0 => by simp [hitsTo]
  | n + 1 => by
    have := hitsTo_len V s n
    have := hit_len V s n
    simp only [hitsTo, List.length_append]
    omega
/-- A text's rows are none of texts. -/
theorem M_apart {w : World} {v : Value} {xs : List Sig} {x : Sig} {cs : List Value} (h : kS.R 46 w 0 tr v xs) (hM : kS.M w 0 tr x cs) : kS.M w 0 (fun k => True ∧ some k ≠ v.ownBlock) x cs :=
  kS.M_mono (fun k hk => ⟨trivial, fun e => by
    obtain ⟨_, _, _, q, hq, cells, hc⟩ := hk
    obtain ⟨inner, ho⟩ := Kd.R_own h
    obtain ⟨cells', hc'⟩ := own_typed ho k e.symm
    rw [hc] at hc'
    injection hc' with hc'
    injection hc' with _ hc'
    subst hc'
    revert hq
    decide⟩) (kS.M_bound hM)
def boolsL (V : Votes) : List Value := (List.range 13).map fun j => Value.bool (V j).isSome
theorem run_index_one {P : Program} (t e : TypeId) (n : Nat) (cs : Array Value) (i : Int) (v : Value) {inf : TypeInfo} (h : P.underlying t = some (.array n e)) (hi : P.info? e = some inf) (hs : inf.size = 1) (he : ∀ W, (isAgg e).run P W = .ok false W) (h0 : 0 ≤ i) (h1 : i < n) (hv : cs[i.toNat]? = some v) (W : World) :
    (Instr.index t (.agg cs) (.int .i64 i)).run P W = .ok v W := by
  simp [Instr.index, asIntOf, run_underlying h, h0, h1, sizeOf, typeInfo, hi, hs, part, he, hv, Result.andThen]
theorem VotesAt.bools {w : World} {b : Nat} {f : Int} {V : Votes} (h : VotesAt w b f V) : w.rangeAt b 1 (boolsL V) := by
  obtain ⟨cs, hb, hs, h0, hr⟩ := h
  intro j v hj
  have hlt : j < 13 := by
    have := (List.getElem?_eq_some_iff.1 hj).1
    simpa [boolsL] using this
  rw [blk_cell hb, (hr j hlt).1]
  unfold boolsL at hj
  rw [List.getElem?_map, List.getElem?_range hlt] at hj
  exact hj
theorem size89 (V : Votes) : (Try.prog.info? 89).map (·.size) = some (boolsL V).length := by
  unfold boolsL
  rw [List.length_map, List.length_range]
  kernel_rfl
theorem VotesAt.index (V : Votes) (i : Nat) (hi : i < 13) (W : World) : (Instr.index 89 (.agg (boolsL V).toArray) (.int .i64 (i : Int))).run Try.prog W = .ok (.bool (V i).isSome) W := by
  obtain ⟨inf, hinf, hsz⟩ : ∃ inf, Try.prog.info? 4 = some inf ∧ inf.size = 1 := by
    have h : (Try.prog.info? 4).map (·.size) = some 1 := by kernel_rfl
    cases hq : Try.prog.info? 4 with
    | none => rw [hq] at h; cases h
    | some x => rw [hq] at h; exact ⟨x, rfl, by simpa using h⟩
  refine run_index_one 89 4 13 (boolsL V).toArray i _ Try.underlying89 hinf hsz (fun W => ?_) (by omega) (by omega) ?_ W
  · unfold isAgg
    rw [Sem.run_bind, run_underlying Try.underlying4 W]
    rfl
  · simp [boolsL, List.getElem?_range hi]
theorem VotesAt.word {w : World} {b : Nat} {f : Int} {V : Votes} (h : VotesAt w b f V) {i : Nat} (hi : i < 13) {v : Vote} (hv : V i = some v) : w.cell? ⟨b, 53 + i, none⟩ = some (.string v.word) := by
  obtain ⟨cs, hb, hs, h0, hr⟩ := h
  rw [blk_cell hb, ((hr i hi).2 v hv).2]
theorem VotesAt.text {w : World} {b : Nat} {f : Int} {V : Votes} (h : VotesAt w b f V) {i : Nat} (hi : i < 13) {v : Vote} (hv : V i = some v) : ∃ c1 c2, w.cell? ⟨b, 14 + i * 3, none⟩ = some (.int .u64 v.sig.from_) ∧ w.cell? ⟨b, 14 + i * 3 + 1, none⟩ = some c1 ∧ w.cell? ⟨b, 14 + i * 3 + 2, none⟩ = some c2 ∧ kS.M w 0 tr v.sig [.int .u64 v.sig.from_, c1, c2] := by
  obtain ⟨cs, hb, hs, h0, hr⟩ := h
  obtain ⟨c0, c1, c2, e0, e1, e2, hM⟩ := ((hr i hi).2 v hv).1
  obtain ⟨v1, v2, he, _⟩ := kS_openM hM
  obtain rfl : c0 = .int .u64 v.sig.from_ := by injection he
  exact ⟨c1, c2, by rw [blk_cell hb, e0], by rw [blk_cell hb, e1], by rw [blk_cell hb, e2], hM⟩

set_option maxHeartbeats 4000000 in
set_option maxRecDepth 100000 in
theorem all_any (b : Nat) (f : Int) (V : Votes) (A : Option Addr) (c : Nat) (bs : List Int) (w : World) (hV : VotesAt w b f V) (hw : kB.C w A bs.length bs) :
    Calls Try.prog 45 #[ptr b, .slice A bs.length c] w fun e w' => ∃ v, e = .returned v ∧ kS.R 46 w' 0 tr v (hits V (strOfNums bs)) ∧ From w.heap.size v ∧ Below w.heap.size w w' := by
  have HV := Aside0.mk hV
  have HW := Aside0.mk hw
  have hb1 := hV.bools
  clear hV hw
  go_enter Try.func45, Try.ntmps45
  go_wp2_with (refine wpList_load_mid rfl 89 (.tmp 11) rfl b 1 rfl (boolsL V) _ hb1 Try.underlying89 rfl (size89 V) ?_)
  go_loopw [4, 13] (fun v4 v13 w' => ∃ i : Nat, i ≤ 13 ∧ v13 = .int .i64 i ∧ Aside0 (kS.R 46 w' 0 tr v4 (hitsTo V (strOfNums bs) i)) ∧ Aside0 (From w.heap.size v4) ∧ Aside0 (Below w.heap.size w w')) (fun _ v13 _ => 13 - (intOf v13).toNat)
  case atStart => exact ⟨0, by omega, rfl, ⟨Kd.R_nil _ _ _ _ _⟩, ⟨fun k hk => by cases hk⟩, ⟨Below.refl _ _⟩⟩
  case round =>
    obtain ⟨i, hi, rfl, HO, HF, HB⟩ := hrel
    by_cases hlt : i < 13
    · have h3 : (i : Int) < 13 := by omega
      have HV1 : Aside0 (VotesAt wr b f V) := ⟨HV.out.fr (Fr.of_below (F := []) HB.out) (by simp) (by simp)⟩
      have hix := VotesAt.index V i hlt
      cases hv : V i with
      | none =>
        rw [hv] at hix
        have HS : Aside0 (hitsTo V (strOfNums bs) (i + 1) = hitsTo V (strOfNums bs) i) := ⟨by simp [hitsTo, hit, hv]⟩
        clear hv
        simp only [Option.isSome_none] at hix
        go_wp2_with fail
        go_quiet (fail)
        go_wp2_with fail
        go_roundw
        case rel => exact ⟨i + 1, by omega, by go_num, ⟨HS.out ▸ Kd.R_drewN HO.out _⟩, HF, ⟨pw_below_drewN HB.out _⟩⟩
        case measure => simp [intOf]; omega
      | some v =>
        rw [hv] at hix
        simp only [Option.isSome_some] at hix
        have hcv : ∀ nq, (convert 31 9 (.slice A bs.length c)).run Try.prog (wr.drewN nq) = .ok (.string (strOfNums bs)) (wr.drewN nq) := fun nq => Kd.C_string Try.underlying31 Try.underlying5 Try.underlying9 (Kd.C_below (Kd.C_below HW.out HB.out) (pw_below_drewN (Below.refl _ _) nq))
        have hwd := HV1.out.word hlt hv
        by_cases hs : (v.word.toList == (strOfNums bs).toList) = true
        · have HS : Aside0 (hitsTo V (strOfNums bs) (i + 1) = hitsTo V (strOfNums bs) i ++ [v.sig]) := ⟨by simp [hitsTo, hit, hv, hs]⟩
          have ht := hs
          obtain ⟨c1, c2, t0, t1, t2, hM⟩ := HV1.out.text hlt hv
          have HM := Aside0.mk hM
          clear hv hs hM
          go_wp2_with fail
          go_quiet (fail)
          have HO1 : Aside0 (kS.R 46 (wr.drewN nq) 0 tr u4 (hitsTo V (strOfNums bs) i)) := ⟨Kd.R_drewN HO.out nq⟩
          have HM1 : Aside0 (kS.M (wr.drewN nq) 0 (fun k => True ∧ some k ≠ u4.ownBlock) v.sig [.int .u64 v.sig.from_, c1, c2]) := ⟨M_apart (HO1.out) (Kd.M_below HM.out (pw_below_drewN (Below.refl _ _) nq))⟩
          have HB1 : Aside0 (Below w.heap.size w (wr.drewN nq)) := ⟨pw_below_drewN HB.out nq⟩
          have HL := Aside0.mk (hitsTo_len V (strOfNums bs) i)
          go_wp2_with (at_builtin; refine Kd.R_append kS (w0 := w) (W := wr.drewN nq) 0 rfl (.tmp 29) (.tmp 36) 44 46 zS 56 rfl Try.underlying44 info46 rfl (by decide) (by omega) u4 (hitsTo V (strOfNums bs) i) v.sig [.int .u64 v.sig.from_, c1, c2] tr (fun k => True ∧ some k ≠ u4.ownBlock) rfl rfl HM1.out (fun k hk => hk) (fun _ _ => trivial) HO1.out (HB1.out.mono (Nat.zero_le _)) (Nat.zero_le _) (by have := HL.out; omega) ?_; intro v1 w1 ho _ hg hat)
          have HO2 := Aside0.mk ho
          have HF2 := Aside0.mk (HF.out.grow HB1.out.size hat)
          have HB2 := Aside0.mk (below_grown HB1.out hg HB1.out.size HF.out)
          clear ho hg hat
          go_roundw
          case rel => exact ⟨i + 1, by omega, by go_num, ⟨HS.out ▸ HO2.out⟩, HF2, HB2⟩
          case measure => simp [intOf]; omega
        · have HS : Aside0 (hitsTo V (strOfNums bs) (i + 1) = hitsTo V (strOfNums bs) i) := ⟨by simp [hitsTo, hit, hv, hs]⟩
          have ht : (v.word.toList == (strOfNums bs).toList) = false := by simpa using hs
          clear hv hs
          go_wp2_with fail
          go_quiet (fail)
          go_wp2_with fail
          go_roundw
          case rel => exact ⟨i + 1, by omega, by go_num, ⟨HS.out ▸ Kd.R_drewN HO.out _⟩, HF, ⟨pw_below_drewN HB.out _⟩⟩
          case measure => simp [intOf]; omega
    · obtain rfl : i = 13 := by omega
      go_wp2_with fail
      go_ret
      exact ⟨_, rfl, HO.out, HF.out, HB.out⟩
end Go.Proofs.Ytfjfggnbkopocaa
