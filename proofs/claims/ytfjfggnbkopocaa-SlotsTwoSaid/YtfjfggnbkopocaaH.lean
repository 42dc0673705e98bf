/- Slots: a second vote is refused; the proof of votes. -/
import Derived.Test.YtfjfggnbkopocaaF
/- Votes. -/
set_option linter.unusedVariables false
set_option linter.unusedSimpArgs false
namespace Go.Proofs.Ytfjfggnbkopocaa
open Go.RowKit Go.Proofs.YtfjfggnbkopocaaW.PrintWords
attribute [local go_sem] ptr

set_option maxHeartbeats 4000000 in
set_option maxRecDepth 100000 in
theorem Add_no {f : Int} (h1 : 1 ≤ f) (h4 : f ≤ 4) (b : Nat) (V : Votes) (x : Sig) (A1 A2 A : Option Addr) (c1 c2 c : Nat) (bs : List Int) (w : World) (hV : VotesAt w b f V)
    (k : Nat) (hk : x.from_ = (k : Int) + 1) (hk2 : (k : Int) < 3 * f + 1) (v : Vote) (hn : V k = some v) :
    Calls Try.prog 40 #[ptr b, .agg #[.int .u64 x.from_, .slice A1 x.b.length c1, .slice A2 x.tag.length c2], .slice A bs.length c] w fun e w' => e = .returned (.int .i64 18) ∧ Below w.heap.size w w' := by
  have HV := Aside0.mk hV
  have HF := Aside0.mk (And.intro h1 h4)
  have e0 : (x.from_ == 0) = false := beq_eq_false_iff_ne.2 (by omega)
  have HK := Aside0.mk hk
  have HK2 := Aside0.mk hk2
  have HN := Aside0.mk hn
  have hf : w.cell? ⟨b, 0, none⟩ = some (.int .i64 f) := by
    obtain ⟨cs, hb, _, hc, _⟩ := hV
    rw [blk_cell hb, hc]
  have e1 : IntKind.u64.wrap (3 * f + 1) = 3 * f + 1 := u64 (by omega)
  have e2 : decide (x.from_ > 3 * f + 1) = false := df (by omega)
  have hblt := hV.mut.lt
  clear hV h1 h4 hk hk2 hn
  go_enter Try.func40, Try.ntmps40
  go_wp2_with fail
  obtain ⟨g, hg⟩ : ∃ g, w.heap.size = g := ⟨_, rfl⟩
  have HG := Aside0.mk hg
  have HX : Aside0 ((w.alloc (.cells #[.int .u64 x.from_, .slice A1 x.b.length c1, .slice A2 x.tag.length c2] 46)).heap[g]? = some (.cells #[.int .u64 x.from_, .slice A1 x.b.length c1, .slice A2 x.tag.length c2] 46 (0, 0))) := ⟨by rw [← hg]; exact heap_alloc_new w _⟩
  have HB : Aside0 (Below w.heap.size w (w.alloc (.cells #[.int .u64 x.from_, .slice A1 x.b.length c1, .slice A2 x.tag.length c2] 46))) := ⟨below_alloc (Below.refl _ _) _⟩
  have hf1 := (HB.out.cell (p := ⟨b, 0, none⟩) hblt).trans hf
  rw [hg]
  generalize w.alloc (.cells #[.int .u64 x.from_, .slice A1 x.b.length c1, .slice A2 x.tag.length c2] 46) = w1 at HX HB hf1 ⊢
  have g0 : w1.cell? ⟨g, 0, none⟩ = some (.int .u64 x.from_) := (blk_cell HX.out 0).trans rfl
  clear hf hg
  go_quiet ((go_at_call 26; exact quiet1 (N_any HF.out.1 HF.out.2 _)))
  generalize nq = n1
  have hk13 : k < 13 := by
    have := HK2.out
    have := HF.out
    omega
  have e3 : IntKind.u64.wrap (x.from_ - 1) = (k : Int) := by
    rw [HK.out, show ((k : Int) + 1 - 1) = k by omega]
    exact u64 (by omega)
  have HV1 : Aside0 (VotesAt w1 b f V) := ⟨HV.out.fr (Fr.of_below (F := []) HB.out) (by simp) (by simp)⟩
  have hvo : w1.cell? ⟨b, 1 + k, none⟩ = some (.bool true) := by
    obtain ⟨cs, hb, _, _, hr⟩ := HV1.out
    rw [blk_cell hb, (hr k hk13).1, HN.out]
    rfl
  have b1 : (k : Int) < 13 := by omega
  go_wp2_with fail
  go_quiet (fail)
  go_wp2_with fail
  go_ret
  exact ⟨rfl, pw_below_drewN (pw_below_drewN HB.out _) _⟩
end Go.Proofs.Ytfjfggnbkopocaa

/- Slots: a row of texts, an element's rows written. -/
/- Rows. -/
set_option linter.unusedVariables false
set_option linter.unusedSimpArgs false
namespace Go.Proofs.Ytfjfggnbkopocaa
open Go.RowKit Go.Proofs.YtfjfggnbkopocaaW.PrintWords

theorem set3_other (l : List Value) (i j : Nat) (v1 v2 : Value) (h : j ≠ i) : ((((l.set (i * 3 + 1) v1).set (i * 3 + 2) v2).drop (j * 3)).take 3) = ((l.drop (j * 3)).take 3) := by
  apply List.ext_getElem?
  intro t
  simp only [List.getElem?_take, List.getElem?_drop, List.getElem?_set, List.length_set]
  by_cases ht : t < 3
  · rw [if_pos ht, if_pos ht, if_neg (by omega), if_neg (by omega)]
  · rw [if_neg ht, if_neg ht]
theorem set3_same (l : List Value) (i : Nat) (v1 v2 c0 c1 c2 : Value) (hl : i * 3 + 3 ≤ l.length) (h : (l.drop (i * 3)).take 3 = [c0, c1, c2]) : ((((l.set (i * 3 + 1) v1).set (i * 3 + 2) v2).drop (i * 3)).take 3) = [c0, v1, v2] := by
  have h0 : l[i * 3]? = some c0 := by
    have h1 := congrArg (fun x => x[0]?) h
    simpa [List.getElem?_take, List.getElem?_drop] using h1
  apply List.ext_getElem?
  intro t
  simp only [List.getElem?_take, List.getElem?_drop, List.getElem?_set, List.length_set]
  match t with
  | 0 =>
    rw [if_pos (by omega), if_neg (by omega), if_neg (by omega)]
    exact h0
  | 1 =>
    rw [if_pos (by omega), if_neg (by omega), if_pos (by omega), if_pos (by omega)]
    rfl
  | 2 =>
    rw [if_pos (by omega), if_pos (by omega), if_pos (by omega)]
    rfl
  | t + 3 =>
    rw [if_neg (by omega)]
    rfl
/-- An element's cells. -/
theorem rowS_at {w : World} {g n c : Nat} {L : List Sig} (h : kS.R 46 w 0 tr (.slice (some ⟨g, 0, none⟩) n c) L) {i : Nat} {x : Sig} (hx : L[i]? = some x) :
    ∃ v1 v2, w.cell? ⟨g, i * 3, none⟩ = some (.int .u64 x.from_) ∧ w.cell? ⟨g, i * 3 + 1, none⟩ = some v1 ∧ w.cell? ⟨g, i * 3 + 2, none⟩ = some v2 ∧ kB.R 5 w 0 tr v1 x.b ∧ kB.R 5 w 0 tr v2 x.tag ∧ (∀ j, w.frozen? ⟨g, j, none⟩ = false) ∧ n = L.length := by
  obtain ⟨_, inner, ho, hr⟩ := h
  have hn : n = L.length := by
    rcases ho.2 with ⟨h0, _⟩ | ⟨g', cap, cur, hv, _⟩
    · cases h0
    · injection hv
  obtain ⟨v1, v2, he, k1, k2⟩ := kS_openM (hr.2 i x hx)
  have hs : kS.sz = 3 := rfl
  rw [hs] at he
  have hc : ∀ t u, ([Value.int .u64 x.from_, v1, v2])[t]? = some u → inner[i * 3 + t]? = some u := by
    intro t u ht
    rw [← he, List.getElem?_take] at ht
    split at ht
    · rw [List.getElem?_drop] at ht
      exact ht
    · cases ht
  have hcell : ∀ j u, inner[j]? = some u → w.cell? ⟨g, j, none⟩ = some u := by
    intro j u hj
    have h1 := ho.cells (g := g) (by subst hn; rfl) j u hj
    have ha : (⟨g, 0, none⟩ : Addr).add j = ⟨g, 0 + j, none⟩ := by unfold Addr.add; split <;> simp_all
    first | exact h1 | (rw [ha, Nat.zero_add] at h1; exact h1)
  refine ⟨v1, v2, hcell _ _ (hc 0 _ rfl), hcell _ _ (hc 1 _ rfl), hcell _ _ (hc 2 _ rfl), Kd.R_mono k1 (fun _ _ => trivial), Kd.R_mono k2 (fun _ _ => trivial), fun j => ?_, hn⟩
  rcases ho.2 with ⟨h0, _⟩ | ⟨g', cap, cur, hv, _, hh, _⟩
  · cases h0
  · injection hv with hv
    injection hv with hv
    injection hv with hv
    subst hv
    exact blk_frozen hh j
/-- An element's rows are written anew, with the same bytes. -/
theorem rowS_set {w : World} {g n c : Nat} {L : List Sig} (h : kS.R 46 w 0 tr (.slice (some ⟨g, 0, none⟩) n c) L) {i : Nat} {x : Sig} (hx : L[i]? = some x) {v1 v2 : Value} (k1 : kB.R 5 w 0 tr v1 x.b) (k2 : kB.R 5 w 0 tr v2 x.tag) :
    kS.R 46 ((w.setCell ⟨g, i * 3 + 1, none⟩ v1).setCell ⟨g, i * 3 + 2, none⟩ v2) 0 tr (.slice (some ⟨g, 0, none⟩) n c) L := by
  obtain ⟨_, inner, ho, hr⟩ := h
  have hn : n = L.length := by
    rcases ho.2 with ⟨h0, _⟩ | ⟨g', cap, cur, hv, _⟩
    · cases h0
    · injection hv
  subst hn
  have hs : kS.sz = 3 := rfl
  obtain ⟨cur, hh⟩ := own_typed ho g rfl
  have ho2 := ((ho.stored (g := g) (i * 3 + 1) v1).1.stored (g := g) (i * 3 + 2) v2).1
  have hlen : inner.length = L.length * 3 := hr.1
  have hil : i < L.length := (List.getElem?_eq_some_iff.1 hx).1
  have far : ∀ {p : Sig} {cs : List Value}, kS.M w 0 (fun k => tr k ∧ some k ≠ (Value.slice (some ⟨g, 0, none⟩) L.length c).ownBlock) p cs → kS.M ((w.setCell ⟨g, i * 3 + 1, none⟩ v1).setCell ⟨g, i * 3 + 2, none⟩ v2) 0 (fun k => tr k ∧ some k ≠ (Value.slice (some ⟨g, 0, none⟩) L.length c).ownBlock) p cs := by
    intro p cs hM
    have hne : ∀ k, (tr k ∧ some k ≠ (Value.slice (some ⟨g, 0, none⟩) L.length c).ownBlock) → k ≠ g := fun k hk e => hk.2 (by rw [e]; rfl)
    exact Kd.M_far (p := ⟨g, i * 3 + 2, none⟩) (Kd.M_far (p := ⟨g, i * 3 + 1, none⟩) hM hne v1) hne v2
  have fresh : ∀ {v : Value} {l : List Int}, kB.R 5 w 0 tr v l → kB.R 5 w 0 (fun k => tr k ∧ some k ≠ (Value.slice (some ⟨g, 0, none⟩) L.length c).ownBlock) v l := by
    intro v l hR
    refine Kd.R_mono (Kd.R_types hR hh (by decide)) (fun k hk => ⟨trivial, fun e => hk.2 ?_⟩)
    have e2 : some k = some g := e
    injection e2
  refine ⟨fun _ _ => trivial, _, ho2, ?_, ?_⟩
  · rw [List.length_set, List.length_set]
    exact hr.1
  · intro j p hj
    rw [hs]
    by_cases hji : j = i
    · subst hji
      rw [hx] at hj
      obtain rfl := Option.some.inj hj
      obtain ⟨u1, u2, he, _, _⟩ := kS_openM (hr.2 j x hx)
      rw [hs] at he
      rw [set3_same inner j v1 v2 _ _ _ (by omega) he]
      exact far (kS_mkM (fresh k1) (fresh k2))
    · rw [set3_other inner i j v1 v2 hji]
      exact far (hr.2 j p hj)
/-- A row cut off behind its first ones. -/
theorem rowS_take {w : World} {g n c : Nat} {L : List Sig} (h : kS.R 46 w 0 tr (.slice (some ⟨g, 0, none⟩) n c) L) {k : Nat} (hk : k ≤ n) : kS.R 46 w 0 tr (.slice (some ⟨g, 0, none⟩) k c) (L.take k) := by
  obtain ⟨_, inner, ho, hr⟩ := h
  have hs : kS.sz = 3 := rfl
  rcases ho.2 with ⟨h0, _⟩ | ⟨g', cap, cur, hv, h1, h2, h3, h4, h5, h6⟩
  · cases h0
  · injection hv with hv hn hc
    injection hv with hv
    injection hv with hv
    subst hv hn hc
    have hlen : inner.length = L.length * 3 := hr.1
    refine ⟨fun _ _ => trivial, inner.take (k * 3), ⟨?_, .inr ⟨g, c, cur, by rw [List.length_take, Nat.min_eq_left hk], h1, h2, by rw [List.length_take]; omega, h4, h5, ?_⟩⟩, ?_, ?_⟩
    · rw [List.length_take, List.length_take, hs]
      omega
    · rw [← h6, List.take_take, List.length_take, hs]
      congr 1
      omega
    · rw [List.length_take, List.length_take, hs]
      omega
    · intro j p hj
      rw [List.getElem?_take] at hj
      split at hj
      · rename_i hjk
        have h7 := hr.2 j p hj
        rw [hs] at h7 ⊢
        have e : ((inner.take (k * 3)).drop (j * 3)).take 3 = (inner.drop (j * 3)).take 3 := by
          apply List.ext_getElem?
          intro t
          simp only [List.getElem?_take, List.getElem?_drop]
          by_cases ht : t < 3
          · rw [if_pos ht, if_pos ht, if_pos (by omega)]
          · rw [if_neg ht, if_neg ht]
        rw [e]
        exact h7
      · cases hj
end Go.Proofs.Ytfjfggnbkopocaa
