/- Slots: the keys of a map, one by one. -/
import Derived.Test.YtfjfggnbkopocaaB
import Derived.Shelf.SlIterI.Sorted
import Derived.RangeFuncFrom
/- Keys. -/
set_option linter.unusedVariables false
set_option linter.unusedSimpArgs false
namespace Go.Proofs.Ytfjfggnbkopocaa
open Go.RowKit Go.Maps Go.Sort Go.Shelf
attribute [local go_sem] ptr key

theorem left_perm {ps : List (Int × Nat)} (hn : (ps.map (·.1)).Nodup) {left : Int → Bool} {p : Int × Nat} (hp : p ∈ ps) (hl : left p.1 = true) :
    ((ps.filter fun x => !(left x.1 && x.1 != p.1)).map (·.1)).Perm ((ps.filter fun x => !left x.1).map (·.1) ++ [p.1]) := by
  have hsub : ∀ (f : Int × Nat → Bool), ((ps.filter f).map (·.1)).Nodup := fun f => ((List.filter_sublist (l := ps)).map _).nodup hn
  refine (List.perm_ext_iff_of_nodup (hsub _) ?_).2 ?_
  · rw [List.nodup_append]
    refine ⟨hsub _, by simp, ?_⟩
    intro a ha b hb e
    rw [List.mem_singleton.1 hb] at e
    obtain ⟨x, hx, rfl⟩ := List.mem_map.1 ha
    have h1 := (List.mem_filter.1 hx).2
    rw [e, hl] at h1
    cases h1
  · intro a
    rw [List.mem_append, List.mem_singleton, List.mem_map, List.mem_map]
    constructor
    · rintro ⟨x, hx, rfl⟩
      obtain ⟨h1, h2⟩ := List.mem_filter.1 hx
      by_cases h3 : x.1 = p.1
      · exact .inr h3
      · refine .inl ⟨x, List.mem_filter.2 ⟨h1, ?_⟩, rfl⟩
        have h4 : (x.1 != p.1) = true := by simpa using h3
        rw [h4, Bool.and_true] at h2
        exact h2
    · rintro (⟨x, hx, rfl⟩ | rfl)
      · obtain ⟨h1, h2⟩ := List.mem_filter.1 hx
        refine ⟨x, List.mem_filter.2 ⟨h1, ?_⟩, rfl⟩
        have h3 : left x.1 = false := by simpa using h2
        rw [h3]
        rfl
      · exact ⟨p, List.mem_filter.2 ⟨hp, by simp⟩, rfl⟩
theorem left_less {ps : List (Int × Nat)} {left : Int → Bool} {p : Int × Nat} (hp : p ∈ ps) (hl : left p.1 = true) : leftN ps (fun x => left x && x != p.1) < leftN ps left := by
  unfold leftN
  obtain ⟨a, b, rfl⟩ := List.append_of_mem hp
  have h : ∀ (c : List (Int × Nat)), (c.filter fun x => left x.1 && x.1 != p.1).length ≤ (c.filter fun x => left x.1).length := fun c => by
    have : (c.filter fun x => left x.1 && x.1 != p.1) = (c.filter fun x => left x.1).filter fun x => x.1 != p.1 := by
      rw [List.filter_filter]
      congr 1
      funext x
      rw [Bool.and_comm]
    rw [this]
    exact List.length_filter_le _ _
  rw [List.filter_append, List.filter_append, List.length_append, List.length_append, List.filter_cons, List.filter_cons]
  have h1 := h a
  have h2 := h b
  simp only [hl, bne_self_eq_false, Bool.and_false, Bool.false_eq_true, if_false, if_true, List.length_cons]
  omega
theorem left_count {ps : List (Int × Nat)} {left : Int → Bool} {p : Int × Nat} (hp : p ∈ ps) (hl : left p.1 = true) : ((ps.filter fun x => !left x.1).map (·.1)).length < ps.length := by
  rw [List.length_map]
  obtain ⟨a, b, rfl⟩ := List.append_of_mem hp
  rw [List.filter_append, List.filter_cons, hl]
  have h1 := List.length_filter_le (fun x : Int × Nat => !left x.1) a
  have h2 := List.length_filter_le (fun x : Int × Nat => !left x.1) b
  simp
  omega
theorem enters48 : ∀ args w, (callFunc 48 args).run Try.prog w = .ok (.enter 48 args) w := enters_of Try.func48 (by kernel_rfl) rfl
theorem RangeAt.same {w : World} {m r : Nat} {l : List (Int × Nat)} {left left' : Int → Bool} (h : RangeAt w m r l left) (h' : RangeAt w m r l left') : leftN l left = leftN l left' := by
  obtain ⟨es, clock, since, seen, c0, hb, hs, he, hq, hr, _, _, _, h1⟩ := h
  obtain ⟨es', clock', since', seen', c0', hb', hs', he', hq', hr', _, _, _, h1'⟩ := h'
  rw [hb] at hb'
  rw [hr] at hr'
  injection hb' with e1
  injection e1 with e1 _
  injection hr' with e2
  injection e2 with _ _ e2 _
  subst e1
  subst e2
  unfold leftN
  rw [List.filter_congr (fun p hp => ?_)]
  obtain ⟨x, hx, h2, _⟩ := he.of hp
  rw [h1 x hx _ h2, h1' x hx _ h2]
open Classical in
/-- How many keys are still to come. -/
noncomputable def rangeN (w : World) (m r : Nat) (l : List (Int × Nat)) : Nat := if h : ∃ left, RangeAt w m r l left then leftN l (Classical.choose h) else 0
theorem RangeAt.count {w : World} {m r : Nat} {l : List (Int × Nat)} {left : Int → Bool} (h : RangeAt w m r l left) : rangeN w m r l = leftN l left := by
  have hx : ∃ left, RangeAt w m r l left := ⟨_, h⟩
  unfold rangeN
  rw [dif_pos hx]
  exact (Classical.choose_spec hx).same h
theorem RangeAt.iter {w : World} {m r : Nat} {l : List (Int × Nat)} {left : Int → Bool} (h : RangeAt w m r l left) : ∃ o : Obj, w.heap[r]? = some o ∧ o.isWalk = true := by
  obtain ⟨es, clock, since, seen, c0, _, _, _, _, hr, _⟩ := h
  exact ⟨_, hr, rfl⟩
theorem RangeAt.walks {w w' : World} {m r : Nat} {l : List (Int × Nat)} {left : Int → Bool} (h : RangeAt w m r l left) (hk : KeepsWalks w w') : RangeAt w' m r l left := by
  obtain ⟨es, clock, since, seen, c0, hb, hs, he, hq, hr, h1⟩ := h
  exact ⟨es, clock, since, seen, c0, hk.same m _ hb rfl, hs, he, hq, hk.same r _ hr rfl, h1⟩
set_option maxRecDepth 100000 in
set_option maxHeartbeats 1000000 in
theorem keys1 (n : Nat) (hn : 1 ≤ n) (l Bm m : Nat) (ps : List (Int × Nat)) (J Jx : List Int → World → Prop)
    (hY : ∀ pre x W, J pre W → pre.length < ps.length → YieldAt Fence.wide (n - 1) Try.prog l #[key x] W fun e W' => (e = .returned (.bool true) ∧ J (pre ++ [x]) W' ∧ KeepsWalks W W') ∨ (e = .returned (.bool false) ∧ Jx (pre ++ [x]) W'))
    (W : World) (hJ : AbidesFrom W.heap.size J) (hm : W.cell? ⟨Bm, 0, none⟩ = some (.map (some m))) (hown : MapAt W m ps) (h0 : J [] W) :
    CallsIn Fence.wide n Try.prog 48 #[.func (.yield l) #[] #[], .pointer (some ⟨Bm, 0, none⟩)] W fun e W' => (∃ v, e = .returned v) ∧ ((∃ ss : List Int, ss.Perm (ps.map (·.1)) ∧ J ss W') ∨ ∃ pre, True ∧ Jx pre W') := by
  refine callsIn_of_wp Try.func48 rfl trivial ?_ rfl
  simp only [Try.ntmps48, List.size_toArray, List.length_cons, List.length_nil, Nat.reduceAdd, Nat.reduceSub, Array.replicate_succ, Array.replicate_zero, List.push_toArray, List.append_toArray, List.nil_append, List.cons_append]
  obtain ⟨w0, hrun, hrg0, hg0, hs0⟩ := hown.range (P := Try.prog) Try.underlying57
  have HD := Go.Proofs.YtfjfggnbkopocaaW.PrintWords.Aside0.mk hown.nodup
  clear hown
  gi_wp2
  gi_loopw [3] (fun _ wr => ∃ (left : Int → Bool) (ss : List Int), RangeAt wr m W.heap.size ps left ∧ ss.Perm ((ps.filter fun x => !left x.1).map (·.1)) ∧ J ss wr)
    (fun _ wr => rangeN wr m W.heap.size ps)
  case atStart =>
    exact ⟨_, [], hrg0, by simp, hJ [] W w0 none h0 hg0 (fun r e => by cases e)⟩
  case round =>
    obtain ⟨left, ss, hrg, hss, hJs⟩ := hrel
    rcases hrg.next (P := Try.prog) 0 with ⟨hall, hnx0⟩ | ⟨p, w2, hp, hlp, hnx0, hrg2, hg2, hs2, hen0⟩
    · have hnx : (Instr.next (.pointer (some ⟨W.heap.size, 0, none⟩)) false 0).run Try.prog wr = .ok (.tuple #[.bool false]) wr := hnx0
      clear hnx0
      gi_wp2
      go_end0
      refine ⟨⟨_, rfl⟩, .inl ⟨ss, ?_, hJs⟩⟩
      rw [List.filter_eq_self.2 (fun p hp => by rw [hall p hp]; rfl)] at hss
      exact hss
    · have hnx : (Instr.next (.pointer (some ⟨W.heap.size, 0, none⟩)) false 0).run Try.prog wr = .ok (.tuple #[.bool true, key p.1, ptr p.2]) w2 := hnx0
      have hen : (Instr.entry (.pointer (some ⟨W.heap.size, 0, none⟩))).run Try.prog w2 = .ok (.tuple #[key p.1, ptr p.2]) w2 := hen0
      have hlen : ss.length < ps.length := by rw [hss.length_eq]; exact left_count hp hlp
      have hJ2 : J ss w2 := hJ ss wr w2 (some W.heap.size) hJs hg2 (fun r e => by cases e; exact ⟨Nat.le_refl _, hrg.iter⟩)
      obtain ⟨fn, tmps, assign, body, hy0, hR⟩ := hY ss p.1 w2 hJ2 hlen
      have hy : (Instr.yield l #[.int .u64 p.1]).run Try.prog w2 = .ok (.round l fn tmps assign body) w2 := hy0
      have HX := Go.Proofs.YtfjfggnbkopocaaW.PrintWords.Aside0.mk (And.intro hp hlp)
      have HS := Go.Proofs.YtfjfggnbkopocaaW.PrintWords.Aside0.mk hss
      clear hs2 hlen hp hlp hss hnx0 hen0 hy0
      gi_wp2
      refine hR.mono ?_
      rintro e W3 (⟨rfl, hJ3, hk3⟩ | ⟨rfl, hJ3⟩)
      · gi_wp2
        have hrg3 := hrg2.walks hk3
        go_roundw
        case rel => exact ⟨_, ss ++ [p.1], hrg3, (HS.out.append_right _).trans (left_perm HD.out HX.out.1 HX.out.2).symm, hJ3⟩
        case measure => rw [hrg3.count, hrg.count]; exact left_less HX.out.1 HX.out.2
      · gi_wp2
        refine bodyPost_ret (results_none rfl _ _ _) rfl ?_
        exact ⟨⟨_, rfl⟩, .inr ⟨_, trivial, hJ3⟩⟩
theorem keys_gives (n : Nat) (hn : 1 ≤ n) (Bm m : Nat) (ps : List (Int × Nat)) (w : World) (hBm : Bm < w.heap.size) (hm : w.cell? ⟨Bm, 0, none⟩ = some (.map (some m))) (hown : MapAt w m ps) :
    SeqStopsA Fence.wide n Try.prog 48 #[.pointer (some ⟨Bm, 0, none⟩)] (fun x => #[key x]) (fun ss => ss.Perm (ps.map (·.1))) (fun _ => True) ps.length w := fun l J Jx W hW hJ hJx hY h0 =>
  keys1 n hn l Bm m ps J Jx hY W hJ ((hW.cell (p := ⟨Bm, 0, none⟩) hBm).trans hm) (hown.move (hW.block m hown.lt)) h0
set_option maxHeartbeats 1000000 in
theorem keys_any (n : Nat) (m : Nat) (w : World) :
    CallsIn Fence.wide n Try.prog 33 #[.map (some m)] w fun e w' => e = .returned (.func (.func 48) #[] #[.pointer (some ⟨w.heap.size, 0, none⟩)]) ∧ w' = w.alloc (.cells #[.map (some m)] 57) := by
  refine callsIn_of_wp Try.func33 rfl trivial ?_ rfl
  simp only [Try.ntmps33, List.size_toArray, List.length_cons, List.length_nil, Nat.reduceAdd, Nat.reduceSub, Array.replicate_succ, Array.replicate_zero, List.push_toArray, List.append_toArray, List.nil_append, List.cons_append]
  gi_wp2
  go_ret
  exact ⟨rfl, rfl⟩
/-- Between two rounds of AppendSeq: the box (block b) holds a slice of its own of what has come. -/
def ApI (w : World) (b : Nat) (ss : List Int) (W : World) : Prop :=
  ∃ v, W.heap[b]? = some (.cells #[v] 23 (0, 0)) ∧ W.ownsRow w.heap.size 30 1 v ss.length (ss.map key) ∧ (v = .slice none 0 0 ↔ ss = []) ∧ Below w.heap.size w W
theorem apI_own (w : World) (b B : Nat) (hB : w.heap.size ≤ B) : OwnFrom B (ApI w b) := fun ss W W' row h hg hrow => by
  obtain ⟨v, hv, hr, hn, hb⟩ := h
  have hne : ∀ k cur t, W.heap[k]? = some (.cells cur t (0, 0)) → row ≠ some k := fun k cur t hk e => by
    obtain ⟨_, o, ho, hc⟩ := hrow k e
    rw [hk] at ho
    cases ho
    cases hc
  refine ⟨v, (hg.block b (Array.getElem?_eq_some_iff.1 hv).1 (fun e => hne b _ _ hv e.symm)).trans hv, hr.kept hg ?_, hn, hb.grown hg hb.size (fun k e => Nat.le_trans hB (hrow k e).1)⟩
  rcases hr.2 with ⟨rfl, _⟩ | ⟨g, cap, cur, rfl, _, hgb, _⟩
  · exact .inl rfl
  · exact .inr fun e => hne g _ _ hgb (e.symm.trans rfl)
def apAct (sv : Value) (B : Nat) (x : Int) : Act := { tmps := #[.slice none 0 0, sv, .pointer (some ⟨B, 0, none⟩), undef, .slice none 0 0, key x, sv, key x, undef, undef, undef, undef, undef], defers := [] }
theorem info30 : (Try.prog.info? 30).map (fun i => (i.zero, i.size, i.bytes)) = some (some (.int .u64 0), 1, 8) := by kernel_rfl
set_option maxRecDepth 100000 in
set_option maxHeartbeats 2000000 in
theorem appendSeq_any (n : Nat) (hn : 2 ≤ n) (g : Nat) (lb : Array Value) (eg : ∀ args w, (callFunc g args).run Try.prog w = .ok (.enter g args) w)
    (S : List Int → Prop) (N : Nat) (hN : N ≤ 1000000) (w : World) (hseq : SeqStopsA Fence.wide (n - 1) Try.prog g lb (fun x => #[key x]) S (fun _ => True) N w) :
    CallsIn Fence.wide n Try.prog 52 #[.slice none 0 0, .func (.func g) #[] lb] w fun e w' => ∃ (v : Value) (ss : List Int), e = .returned v ∧ S ss ∧ w'.ownsRow w.heap.size 30 1 v ss.length (ss.map key) ∧ (v = .slice none 0 0 ↔ ss = []) ∧ Below w.heap.size w w' := by
  obtain ⟨i0, hi, hz0, hz1, hz2⟩ := info_parts info30
  refine callsIn_of_wp_marks Try.func52 rfl trivial ?_ rfl
  simp only [Try.ntmps52, List.size_toArray, List.length_cons, List.length_nil, Nat.reduceAdd, Nat.reduceSub, Array.replicate_succ, Array.replicate_zero, List.push_toArray, List.append_toArray, List.nil_append, List.cons_append]
  gi_wp2
  have hb0 : Below w.heap.size w (w.alloc (.cells #[.slice none 0 0] 23)) := (Below.refl _ w).alloc (Nat.le_refl _) _
  have hv0 : (w.alloc (.cells #[.slice none 0 0] 23)).heap[w.heap.size]? = some (.cells #[.slice none 0 0] 23 (0, 0)) := World.alloc_heap_new w _
  have hs0 : (w.alloc (.cells #[.slice none 0 0] 23)).heap.size = w.heap.size + 1 := by simp
  generalize w.alloc (.cells #[.slice none 0 0] 23) = W0 at hb0 hv0 hs0 ⊢
  refine wpIn_rangeFunc_ownF rfl (by omega) rfl trivial eg (seqStopsA_iff.1 hseq) walksK_t walksK_b hb0 (fun _ => rfl) (ApI w w.heap.size) (fun _ _ _ => False) (apI_own w _ _ (by omega)) (fun _ _ _ _ _ h => h.elim)
    ⟨_, hv0, ⟨rfl, .inl ⟨rfl, rfl⟩⟩, by simp, hb0⟩ (apAct (.func (.func g) #[] lb) w.heap.size) ?assign ?body ?done ?stop
  case assign =>
    intro l x W K hK
    gi_wp2_with gi_round_op_a
    exact hK
  case body =>
    rintro l pre x W ⟨v, hv, hrow, hnil, hb⟩ hlen
    obtain ⟨hc, hf⟩ := cell_of_box_a hv
    have hBlt : w.heap.size < W.heap.size := (Array.getElem?_eq_some_iff.1 hv).1
    unfold apAct
    gi_wp2_with (first
      | (gi_at_builtin; refine wpListIn_append_own _ rfl _ _ 23 rfl w.heap.size 30 i0 (.int .u64 0) 1 8 Try.underlying23 hi hz0 hz1 hz2 rfl (by decide) _ _ _ rfl (hrow.alloc _) ⟨W.heap.size, 0, none⟩ 1 1 [key x] rfl rfl (cell_one_new _ _ _) (by simp [Value.oneCell', key]) (by unfold maxLen; omega) (by omega) (by have := hb.size; simp; omega) ?_; intro v' w3 hown' hg3 hnil3
         have hg3' : (W.alloc (.cells #[.int .u64 x] 30)).grownBy w3 v.ownBlock := hg3
         clear hg3
         have hv3 : w3.heap[w.heap.size]? = some (.cells #[v] 23 (0, 0)) := (hg3'.block w.heap.size (by simp; omega) (fun e => by
           rcases ownsRow_ne_a hrow hv (fun cur e => by have := (Obj.cells.inj e).2.1; revert this; decide) with e1 | e1
           · rw [e1] at e; cases e
           · exact e1 e.symm)).trans ((Below.heap_alloc _ _ _ hBlt).trans hv)
         obtain ⟨hc3, hf3⟩ := cell_of_box_a hv3
         obtain ⟨g', cap', rfl⟩ : ∃ g' cap', v' = .slice (some ⟨g', 0, none⟩) (pre.length + 1) cap' := by
           rcases hown'.2 with ⟨_, h0⟩ | ⟨g', cap', _, h', _⟩
           · exact absurd h0 (by omega)
           · exact ⟨g', cap', h'⟩
         go_frame)
      | gi_round_op_a)
    have hk3 : KeepsOthers W w3 := (KeepsOthers.alloc _ _).trans (KeepsOthers.of_grownBy hg3' (fun j o hj ho => by
      rcases (hrow.alloc (.cells #[.int .u64 x] 30)).2 with ⟨rfl, _⟩ | ⟨g, cap, cur, rfl, _, hgb, _⟩
      · simp [Value.ownBlock] at hj
      · have e1 : g = j := by simpa [Value.ownBlock] using hj
        subst e1
        rw [hgb] at ho
        cases ho
        rfl))
    have hg4 : w3.grownBy (w3.setCell ⟨w.heap.size, 0, none⟩ (.slice (some ⟨g', 0, none⟩) (pre.length + 1) cap')) (some w.heap.size) := grownBy_setCell0_a _ _ _
    have hb3 : Below w.heap.size w w3 := (hb.alloc hb.size _).grown hg3' (by have := hb.size; simp; omega) (fun k e => (hrow.lt k e).1)
    refine ⟨hk3.trans (KeepsOthers.setCell _ _ _), hk3.walks.trans (KeepsWalks.setCell _ _ _), _, heap_setCell_box_a _ hv3, ?_, by simp, hb3.grown hg4 hb3.size (fun k e => by cases e; exact Nat.le_refl _)⟩
    have := hown'.kept hg4 (ownsRow_ne_a hown' hv3 (fun cur e => by have := (Obj.cells.inj e).2.1; revert this; decide))
    simpa using this
  case done =>
    rintro D xs W hD hS ⟨v, hv, hrow, hnil, hb⟩ hK
    obtain ⟨hc, hf⟩ := cell_of_box_a hv
    gi_wp2
    refine ⟨by simp, .inl ⟨_, _, rfl, run_takeDeferred hK, ?_⟩⟩
    refine ⟨_, results_tmp rfl _ _ _, v, xs, rfl, hS, ?_⟩
    have hI := (apI_own w w.heap.size W0.heap.size (by omega)).putObj (.deferred none) ⟨v, hv, hrow, hnil, hb⟩ hD hK rfl
    obtain ⟨v', hv', hrow', hnil', hb'⟩ := hI
    obtain rfl : v' = v := by
      have e1 : (W.putObj D (.deferred none)).heap[w.heap.size]? = W.heap[w.heap.size]? := World.putObj_heap_other (by omega)
      rw [e1, hv] at hv'
      injection hv' with hv'
      injection hv' with hv'
      simpa using hv'.symm
    exact ⟨hrow', hnil', hb'⟩
  case stop =>
    rintro D c pre W _ _ h
    exact h.elim
set_option maxHeartbeats 1000000 in
theorem collect_any (n : Nat) (hn : 3 ≤ n) (g : Nat) (lb : Array Value) (eg : ∀ args w, (callFunc g args).run Try.prog w = .ok (.enter g args) w)
    (S : List Int → Prop) (N : Nat) (hN : N ≤ 1000000) (w : World) (hseq : SeqStopsA Fence.wide (n - 1 - 1) Try.prog g lb (fun x => #[key x]) S (fun _ => True) N w) :
    CallsIn Fence.wide n Try.prog 46 #[.func (.func g) #[] lb] w fun e w' => ∃ (v : Value) (ss : List Int), e = .returned v ∧ S ss ∧ w'.ownsRow w.heap.size 30 1 v ss.length (ss.map key) ∧ (v = .slice none 0 0 ↔ ss = []) ∧ Below w.heap.size w w' := by
  have h1 : 1 ≤ n := by omega
  have hf52 : Fence.wide.fn 52 := trivial
  refine callsIn_of_wp Try.func46 rfl trivial ?_ rfl
  simp only [Try.ntmps46, List.size_toArray, List.length_cons, List.length_nil, Nat.reduceAdd, Nat.reduceSub, Array.replicate_succ, Array.replicate_zero, List.push_toArray, List.append_toArray, List.nil_append, List.cons_append]
  gi_wp2_with (gi_at_call 52; refine (appendSeq_any (n - 1) (by omega) g lb eg S N hN _ hseq).mono ?_; rintro e w' ⟨v, ss, rfl, hS, hrow, hnil, hb⟩)
  go_ret
  exact ⟨v, ss, rfl, hS, hrow, hnil, hb⟩
end Go.Proofs.Ytfjfggnbkopocaa
